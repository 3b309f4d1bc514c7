/- FxG: each operation: what the abstract one gives, the model's gives. -/
import Derived.Test.YtaemikglijnihaaGreatDoorFxF
set_option linter.all false
namespace Go.Fx
variable {P : Program} {base : Nat}

def Ans (ρ : Rn) (a : AV) (nx : Next) : Prop := (∃ v, nx = .value v ∧ VR ρ a v) ∨ (nx = .skip ∧ VR ρ a undef)
def Snd (P : Program) (base : Nat) (ρ : Rn) (H : Hp) (w : World) (s : Sem Next) (a : AV) (H' : Hp) : Prop :=
  ∃ nx w' ρ', s.run P w = .ok nx w' ∧ Ans ρ' a nx ∧ Onto P base ρ H w ρ' H' w'
def EvR (P : Program) (ρ : Rn) (tm : Tr AV) (f : Operand → Value) : Prop := ∀ x y a, cOpd P x = some y → ev tm y = some a → VR ρ a (f x)

section
variable {ρ : Rn} {tm : Tr AV} {H H' : Hp} {w : World} {f : Operand → Value} {o : Oper} {ao : AO} {a : AV}

theorem Snd.same {s : Sem Next} {v : Value} (hr : HR P base ρ H w) (h : s.run P w = .ok (.value v) w) (hv : VR ρ a v) : Snd P base ρ H w s a H :=
  ⟨_, _, ρ, h, .inl ⟨v, rfl, hv⟩, Onto.refl hr⟩

theorem ok_inj {a b : AV} {H H' : Hp} (h : ok a H = some (.v b H')) : a = b ∧ H = H' := by
  simp only [ok, Option.some.injEq, Res.v.injEq] at h; exact h

/-! the operands -/
theorem evs_sound (he : EvR P ρ tm f) : ∀ {xs : List Operand} {ys : List Opd} {l : List AV}, cOpds P xs = some ys → evs tm ys = some l → VRs ρ l (xs.map f)
  | [], ys, l, hc, hx => by
    simp only [cOpds, Option.some.injEq] at hc; subst hc
    simp only [evs, Option.some.injEq] at hx; subst hx
    exact VRs.nil
  | x :: xs, ys, l, hc, hx => by
    simp only [cOpds] at hc
    split at hc
    · rename_i y hy
      split at hc
      · rename_i r hr
        simp only [Option.some.injEq] at hc; subst hc
        simp only [evs] at hx
        split at hx
        · rename_i a ha
          split at hx
          · rename_i l' hl'
            simp only [Option.some.injEq] at hx; subst hx
            exact VRs.cons (he x y a hy ha) (evs_sound he hr hl')
          · cases hx
        · cases hx
      · cases hc
    · cases hc

/-! types -/
theorem r_und {t : TypeId} {d : TypeDesc} (h : P.underlying t = some d) (w : World) : (underlying t).run P w = .ok d w := by simp [underlying, h]
theorem r_info {t : TypeId} {i : TypeInfo} (h : P.info? t = some i) (w : World) : (typeInfo t).run P w = .ok i w := by simp [typeInfo, h]
theorem r_size {t : TypeId} {n : Nat} (h : sizeT P t = some n) (w : World) : (sizeOf t).run P w = .ok n w := by
  unfold sizeT at h
  cases hi : P.info? t with
  | none => simp [hi] at h
  | some i => simp only [hi, Option.map_some, Option.some.injEq] at h; subst h; simp [sizeOf, r_info hi]
theorem r_agg {t : TypeId} {d : TypeDesc} (h : P.underlying t = some d) (w : World) : (isAgg t).run P w = .ok (isAggD d) w := by
  simp only [isAgg, Sem.run_bind, r_und h, Result.andThen_ok]
  cases d <;> rfl

mutual
theorem toAV_sound {ρ : Rn} : ∀ {n : Nat} {v : Value} {a : AV}, toAV n v = some a → VR ρ a v
  | 0, v, a, h => by simp [toAV] at h
  | n + 1, .bool b, a, h => by simp only [toAV, Option.some.injEq] at h; subst h; simp [VR]
  | n + 1, .int k m, a, h => by simp only [toAV, Option.some.injEq] at h; subst h; simp [VR]
  | n + 1, .float .., a, h => by simp [toAV] at h
  | n + 1, .complex .., a, h => by simp [toAV] at h
  | n + 1, .string s, a, h => by simp only [toAV, Option.some.injEq] at h; subst h; simp only [VR]; exact ⟨s, rfl, rfl, rfl⟩
  | n + 1, .pointer p, a, h => by
    cases p with
    | none => simp only [toAV, Option.some.injEq] at h; subst h; simp [VR]
    | some p => simp [toAV] at h
  | n + 1, .slice p l c, a, h => by
    unfold toAV at h
    split at h <;> first | (cases h; done) | skip
    all_goals first
      | (simp_all; done)
      | (rename_i e; cases e; simp only [Option.some.injEq] at h; subst h; simp [VR])
      | (cases h)
  | n + 1, .map p, a, h => by
    cases p with
    | none => simp only [toAV, Option.some.injEq] at h; subst h; simp [VR]
    | some p => simp [toAV] at h
  | n + 1, .chan p, a, h => by simp [toAV] at h
  | n + 1, .func .., a, h => by simp [toAV] at h
  | n + 1, .nilFunc, a, h => by simp only [toAV, Option.some.injEq] at h; subst h; simp [VR]
  | n + 1, .iface t v, a, h => by
    simp only [toAV] at h
    split at h
    · rename_i b hb
      simp only [Option.some.injEq] at h; subst h
      simp only [VR]; exact ⟨v, rfl, toAV_sound hb⟩
    · cases h
  | n + 1, .nilIface, a, h => by simp only [toAV, Option.some.injEq] at h; subst h; simp [VR]
  | n + 1, .agg cs, a, h => by
    simp only [toAV] at h
    split at h
    · rename_i l hl
      simp only [Option.some.injEq] at h; subst h
      simp only [VR]; exact ⟨cs.toList, rfl, toAV_go hl⟩
    · cases h
  | n + 1, .tuple cs, a, h => by
    simp only [toAV] at h
    split at h
    · rename_i l hl
      simp only [Option.some.injEq] at h; subst h
      simp only [VR]; exact ⟨cs.toList, rfl, toAV_go hl⟩
    · cases h
theorem toAV_go {ρ : Rn} : ∀ {n : Nat} {vs : List Value} {l : List AV}, toAV.go n vs = some l → VRs ρ l vs
  | n, [], l, h => by simp only [toAV.go, Option.some.injEq] at h; subst h; exact VRs.nil
  | n, v :: vs, l, h => by
    simp only [toAV.go] at h
    split at h
    · rename_i a ha
      split at h
      · rename_i r hr
        simp only [Option.some.injEq] at h; subst h
        exact VRs.cons (toAV_sound ha) (toAV_go hr)
      · cases h
    · cases h
end

theorem r_zero {t : TypeId} {z : List AV} (h : zeroT P t = some z) (w : World) (ρ : Rn) : ∃ v, (zeroValue t).run P w = .ok v w ∧ VRs ρ z v.cells.toList := by
  unfold zeroT at h
  split at h
  · rename_i i hi
    split at h
    · rename_i v hv
      exact ⟨v, by simp [zeroValue, r_info hi, hv], toAV_go h⟩
    · cases h
  · cases h

theorem ev_of_globals {ρ : Rn} {w : World} {H : Hp} (hr : HR P base ρ H w) {nt : Nat} {tm : Tr AV} {tmps : Array Value} (ht : TR ρ nt tm tmps) (f : Operand → Value)
    (hf : f = fun x => match x with | .tmp t => tmps.getD t undef | .const v => v | .global g => .pointer (some ⟨g, 0, none⟩) | .func g => .func (.func g) #[] #[]) : EvR P ρ tm f := by
  intro x y a hc hx
  subst hf
  cases x with
  | tmp t =>
    simp only [cOpd, Option.some.injEq] at hc; subst hc
    obtain ⟨v, h1, h2⟩ := ht.2 t a hx
    simp only [Array.getD_eq_getD_getElem?, h1, Option.getD_some]
    exact h2
  | const v =>
    simp only [cOpd] at hc
    split at hc
    · rename_i b hb
      simp only [Option.some.injEq] at hc; subst hc
      simp only [ev, Option.some.injEq] at hx; subst hx
      exact toAV_sound hb
    · cases hc
  | global g =>
    simp only [cOpd] at hc
    cases hb : Nat.blt g P.globals.size
    · rw [hb] at hc; cases hc
    · rw [hb] at hc
      simp only [cond_true, Option.some.injEq] at hc; subst hc
      simp only [ev, Option.some.injEq] at hx; subst hx
      obtain ⟨N, hN⟩ := hr.glob g (by simpa [Nat.blt_eq] using hb)
      simp only [VR]; exact ⟨g, N, hN, rfl⟩
  | func g =>
    simp only [cOpd, Option.some.injEq] at hc; subst hc
    simp only [ev, Option.some.injEq] at hx; subst hx
    simp only [VR]; exact ⟨[], [], rfl, VRs.nil, VRs.nil⟩

theorem cells_of {ρ : Rn} {a : AV} {v : Value} (h : VR ρ a v) : VRs ρ (cellsA a) v.cells.toList := by
  cases a <;> simp only [VR] at h
  case A l => obtain ⟨vs, rfl, h1⟩ := h; simpa [cellsA, Value.cells] using h1
  all_goals first
    | (subst h; simp only [cellsA, Value.cells]; exact VRs.cons (by simp [VR]) VRs.nil)
    | (obtain ⟨_, rfl, _⟩ := h; simp only [cellsA, Value.cells]; exact VRs.cons (by simp only [VR]; exact ⟨_, rfl, by assumption⟩) VRs.nil)
    | (obtain ⟨_, _, _, rfl⟩ := h; simp only [cellsA, Value.cells]; exact VRs.cons (by simp only [VR]; exact ⟨_, _, by assumption, rfl⟩) VRs.nil)
    | (obtain ⟨_, _, _, _, rfl, _⟩ := h; simp only [cellsA, Value.cells]; exact VRs.cons (by simp only [VR]; exact ⟨_, _, _, by assumption, rfl, by assumption⟩) VRs.nil)
    | (obtain ⟨_, _, rfl, _⟩ := h; simp only [cellsA, Value.cells]; exact VRs.cons (by simp only [VR]; exact ⟨_, _, rfl, by assumption⟩) VRs.nil)

/-- a new variable -/
theorem Snd.newVar {s : Sem Next} {l : List AV} {t : TypeId} {vs : Array Value} (hr : HR P base ρ H w) (hvs : ∀ ρ' : Rn, ρ.le ρ' → VRs ρ' l vs.toList)
    (h : s.run P w = .ok (.value (.pointer (some ⟨w.heap.size, 0, none⟩))) { w with heap := w.heap.push (.cells vs t) }) :
    Snd P base ρ H w s (.p H.next 0) (H.new (.c t false l)) := by
  have hle : ρ.le (ρ.upd H.next (w.heap.size, vs.size)) := Rn.le_upd (hr.fresh _ (Nat.le_refl _))
  refine ⟨_, _, _, h, .inl ⟨_, rfl, ?_⟩, hr.alloc (.c t false l) (.cells vs t) vs.size _ rfl rfl rfl rfl ⟨vs, _, rfl, rfl, hvs _ hle, fun _ => ?_⟩⟩
  · simp only [VR]; exact ⟨_, _, Rn.upd_same _ _ _, rfl⟩
  · intro i _ hi; simp at hi

theorem ex_mv {x : Operand} (ho : o.op = .move x ∨ o.op = .assign x) (hc : cOp P o = some ao) (hx : aexec ao tm H = some (.v a H')) (he : EvR P ρ tm f) (hr : HR P base ρ H w) :
    Snd P base ρ H w (execOp f o) a H' := by
  have hc' : (cOpd P x).map AO.mv = some ao := by
    rcases ho with ho | ho <;> simpa only [cOp, ho] using hc
  have hex : (execOp f o) = pure (.value (f x)) := by
    rcases ho with ho | ho <;> simp only [execOp, ho]
  cases hy : cOpd P x with
  | none => simp [hy] at hc'
  | some y =>
    simp only [hy, Option.map_some, Option.some.injEq] at hc'; subst hc'
    simp only [aexec] at hx
    split at hx
    · rename_i b hb
      obtain ⟨rfl, rfl⟩ := ok_inj hx
      exact Snd.same hr (by rw [hex]; rfl) (he x y _ hy hb)
    · cases hx

theorem ex_pk {c x y : Operand} (ho : o.op = .pick c x y) (hc : cOp P o = some ao) (hx : aexec ao tm H = some (.v a H')) (he : EvR P ρ tm f) (hr : HR P base ρ H w) :
    Snd P base ρ H w (execOp f o) a H' := by
  simp only [cOp, ho] at hc
  split at hc
  · rename_i c' x' y' h1 h2 h3
    simp only [Option.some.injEq] at hc; subst hc
    simp only [aexec] at hx
    split at hx
    · rename_i hb
      have hcv := he _ _ _ h1 hb
      simp only [VR] at hcv
      split at hx
      · rename_i v hv
        obtain ⟨rfl, rfl⟩ := ok_inj hx
        exact Snd.same hr (by simp [execOp, ho, hcv, asBool]) (he _ _ _ h2 hv)
      · cases hx
    · rename_i hb
      have hcv := he _ _ _ h1 hb
      simp only [VR] at hcv
      split at hx
      · rename_i v hv
        obtain ⟨rfl, rfl⟩ := ok_inj hx
        exact Snd.same hr (by simp [execOp, ho, hcv, asBool]) (he _ _ _ h3 hv)
      · cases hx
    · cases hx
  · cases hc

theorem ex_al {t : TypeId} (ho : o.op = .alloc t) (hc : cOp P o = some ao) (hx : aexec ao tm H = some (.v a H')) (hr : HR P base ρ H w) :
    Snd P base ρ H w (execOp f o) a H' := by
  simp only [cOp, ho] at hc
  cases hz : zeroT P t with
  | none => simp [hz] at hc
  | some z =>
    simp only [hz, Option.map_some, Option.some.injEq] at hc; subst hc
    simp only [aexec] at hx
    obtain ⟨rfl, rfl⟩ := ok_inj hx
    obtain ⟨v, h1, h2⟩ := r_zero hz w ρ
    refine Snd.newVar (vs := v.cells) hr (fun ρ' hle => VRs.mono hle _ _ h2) ?_
    simp [execOp, ho, Instr.alloc, h1, newVar, newRow]

theorem ex_bx {t : TypeId} {x : Operand} (ho : o.op = .box t x) (hc : cOp P o = some ao) (hx : aexec ao tm H = some (.v a H')) (he : EvR P ρ tm f) (hr : HR P base ρ H w) :
    Snd P base ρ H w (execOp f o) a H' := by
  simp only [cOp, ho] at hc
  cases hy : cOpd P x with
  | none => simp [hy] at hc
  | some y =>
    simp only [hy, Option.map_some, Option.some.injEq] at hc; subst hc
    simp only [aexec] at hx
    split at hx
    · rename_i b hb
      cases hall : (cellsA b).all one
      · rw [hall] at hx; cases hx
      rw [hall] at hx
      simp only [cond_true] at hx
      obtain ⟨rfl, rfl⟩ := ok_inj hx
      have hv := he x y b hy hb
      refine Snd.newVar (vs := (f x).cells) hr (fun ρ' hle => cells_of (VR.mono hle _ _ hv)) ?_
      simp [execOp, ho, Instr.box, newVar, newRow]
    · cases hx

theorem ex_l {t : TypeId} {x : Operand} (ho : o.op = .load t x) (hc : cOp P o = some ao) (hx : aexec ao tm H = some (.v a H')) (he : EvR P ρ tm f) (hr : HR P base ρ H w) :
    Snd P base ρ H w (execOp f o) a H' := by
  simp only [cOp, ho] at hc
  split at hc
  · rename_i d n y hd hn hy
    simp only [Option.some.injEq] at hc
    cases hA : isAggD d
    · rw [hA] at hc; simp only [cond_false] at hc; subst hc
      simp only [aexec] at hx
      split at hx
      · rename_i id off hb
        have hv := he x y _ hy hb
        simp only [VR] at hv
        obtain ⟨b, N, hρ, hfx⟩ := hv
        split at hx
        · rename_i c hcr
          obtain ⟨rfl, rfl⟩ := ok_inj hx
          obtain ⟨v, h1, h2⟩ := read1_sound hr hcr hρ
          refine Snd.same hr ?_ h1
          simp [execOp, ho, Instr.loadAt, hfx, Instr.sureAddr, loadVar, r_agg hd, hA, h2]
        · cases hx
      · cases hx
    · rw [hA] at hc; simp only [cond_true] at hc; subst hc
      simp only [aexec] at hx
      split at hx
      · rename_i id off hb
        have hv := he x y _ hy hb
        simp only [VR] at hv
        obtain ⟨b, N, hρ, hfx⟩ := hv
        split at hx
        · rename_i l hcr
          obtain ⟨rfl, rfl⟩ := ok_inj hx
          obtain ⟨vs, h1, h2, h3, _⟩ := readN_sound hr hcr hρ
          have hvl := h1.len
          have hrun := loadCells_run (P := P) w b off vs h3
          refine Snd.same (v := .agg vs.toArray) hr ?_ (by simp only [VR]; exact ⟨vs, rfl, h1⟩)
          rw [hvl, h2] at hrun
          simp [execOp, ho, Instr.loadAt, hfx, Instr.sureAddr, loadVar, r_agg hd, hA, r_size hn, hrun]
        · cases hx
      · cases hx
  · cases hc

theorem ex_st {t : TypeId} {x y : Operand} (ho : o.op = .store t x y) (hc : cOp P o = some ao) (hx : aexec ao tm H = some (.v a H')) (he : EvR P ρ tm f) (hr : HR P base ρ H w) :
    Snd P base ρ H w (execOp f o) a H' := by
  simp only [cOp, ho] at hc
  split at hc
  · rename_i n x' y' hn hx' hy'
    simp only [Option.some.injEq] at hc; subst hc
    simp only [aexec] at hx
    split at hx
    · rename_i id off v hb hv
      have h1 := he _ _ _ hx' hb
      have h2 := he _ _ _ hy' hv
      simp only [VR] at h1
      obtain ⟨b, N, hρ, hfx⟩ := h1
      cases hl : Nat.beq (cellsA v).length n
      · rw [hl] at hx; cases hx
      rw [hl] at hx
      simp only [cond_true] at hx
      split at hx
      · rename_i H1 hw
        obtain ⟨rfl, rfl⟩ := ok_inj hx
        have hcs := cells_of h2
        obtain ⟨w', h3, h4⟩ := writeN_sound hr hw hρ hcs
        have hlen := hcs.len
        simp only [Array.length_toList] at hlen
        have hn' : (f y).cells.size = n := by rw [hlen]; exact Nat.eq_of_beq_eq_true hl
        refine ⟨.skip, w', ρ, ?_, .inr ⟨rfl, by simp only [VR]; exact ⟨[], rfl, VRs.nil⟩⟩, h4⟩
        simp [execOp, ho, Instr.storeAt, hfx, Instr.sureAddr, storeVar, r_size hn, hn', h3]
      · cases hx
    · cases hx
  · cases hc

end
end Go.Fx

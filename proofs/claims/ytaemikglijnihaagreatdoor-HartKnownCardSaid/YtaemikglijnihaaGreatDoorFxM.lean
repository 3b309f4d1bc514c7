/- FxM: every operation, and what is called. -/
import Derived.Test.YtaemikglijnihaaGreatDoorFxL
set_option linter.all false
namespace Go.Fx
variable {P : Program} {base : Nat}
section
variable {ρ : Rn} {tm : Tr AV} {H H' : Hp} {w : World} {f : Operand → Value} {o : Oper} {ao : AO} {a : AV}

theorem fFn (he : EvR P ρ tm f) (g : FuncId) : f (.func g) = .func (.func g) #[] #[] := by
  have := he (.func g) (.k (.F g [] [])) (.F g [] []) rfl rfl
  simp only [VR] at this
  obtain ⟨as, cs, e, h1, h2⟩ := this
  simp only [VRs] at h1 h2
  subst h1; subst h2
  exact e

theorem ex_ks {t d : TypeId} {x : Operand} {y : Opd} (ho : o.op = .convert t d x) (ht : P.underlying t = some .string) (hd : P.underlying d = some .string) (hy : cOpd P x = some y)
    (hx : aexec (.ks y) tm H = some (.v a H')) (he : EvR P ρ tm f) (hr : HR P base ρ H w) : Snd P base ρ H w (execOp f o) a H' := by
  simp only [aexec] at hx
  split at hx
  · rename_i n z hb
    obtain ⟨rfl, rfl⟩ := ok_inj hx
    have hv := he x y _ hy hb
    obtain ⟨s, hs, _⟩ := (by simpa only [VR] using hv : ∃ s : ByteArray, f x = .string s ∧ _)
    refine Snd.same hr ?_ hv
    simp only [execOp, ho, convert, Sem.run_bind, r_und ht, r_und hd, Result.andThen_ok, Sem.run_pure, hs]
  · cases hx

theorem zeroT_spec {t : TypeId} {i : TypeInfo} {z : List AV} (hi : P.info? t = some i) (hz : zeroT P t = some z) : ∃ zv, i.zero = some zv ∧ ∀ ρ : Rn, VRs ρ z zv.cells.toList := by
  unfold zeroT at hz
  rw [hi] at hz
  simp only at hz
  split at hz
  · rename_i v hv
    exact ⟨v, hv, fun ρ => toAV_go hz⟩
  · cases hz

theorem cOpds_len : ∀ {xs : List Operand} {ys : List Opd}, cOpds P xs = some ys → xs.length = ys.length
  | [], ys, h => by simp only [cOpds, Option.some.injEq] at h; subst h; rfl
  | x :: xs, ys, h => by
    simp only [cOpds] at h
    split at h
    · split at h
      · rename_i r hr
        simp only [Option.some.injEq] at h; subst h
        simp [cOpds_len hr]
      · cases h
    · cases h

theorem exec_call {c : Call} (ho : o.op = .call c) (hc : cOp P o = some ao) (hx : aexec ao tm H = some (.v a H')) (he : EvR P ρ tm f) (hr : HR P base ρ H w) :
    Snd P base ρ H w (execOp f o) a H' := by
  simp only [cOp, ho] at hc
  split at hc
  · rename_i g args hcal hargs
    split at hc
    · rename_i fn hfn
      cases h1 : (fn.name == "internal/bytealg.IndexByteString" && (fn.body.isNone && (Extern.allNextRows.lookup fn.origin).isNone))
      · rw [h1] at hc
        simp only [cond_false] at hc
        cases h2 : (fn.name == "internal/bytealg.CountString" && (fn.body.isNone && (Extern.allNextRows.lookup fn.origin).isNone))
        · rw [h2] at hc
          simp only [cond_false, Option.some.injEq] at hc
          subst hc
          simp only [aexec] at hx
          split at hx <;> simp at hx
        · rw [h2] at hc
          simp only [cond_true] at hc
          simp only [Bool.and_eq_true, beq_iff_eq] at h2
          split at hc
          · rename_i x y
            simp only [Option.some.injEq] at hc; subst hc
            obtain ⟨x0, y0, ha, hx0, hy0⟩ := cOpds2 hargs
            exact ex_cb1 ho hcal hfn h2.1 h2.2.1 h2.2.2 ha (fFn he g) hx0 hy0 hx he hr
          · cases hc
      · rw [h1] at hc
        simp only [cond_true] at hc
        simp only [Bool.and_eq_true, beq_iff_eq] at h1
        split at hc
        · rename_i x y
          simp only [Option.some.injEq] at hc; subst hc
          obtain ⟨x0, y0, ha, hx0, hy0⟩ := cOpds2 hargs
          exact ex_ib1 ho hcal hfn h1.1 h1.2.1 h1.2.2 ha (fFn he g) hx0 hy0 hx he hr
        · cases hc
    · cases hc
  · rename_i x args _ hcal hargs
    cases hx0 : cOpd P x with
    | none => simp [hx0] at hc
    | some x' =>
      simp only [hx0, Option.map_some, Option.some.injEq] at hc; subst hc
      simp only [aexec] at hx
      split at hx <;> simp at hx
  · rename_i x hcal hargs
    obtain ⟨x0, ha, hx0⟩ := cOpds1 hargs
    split at hc
    · rename_i t ht
      split at hc
      · rename_i hu
        simp only [Option.some.injEq] at hc; subst hc
        exact ex_lnS ho hcal ha ht hu hx0 hx he hr
      · rename_i e hu
        simp only [Option.some.injEq] at hc; subst hc
        exact ex_lnL ho hcal ha ht hu hx0 hx he hr
      · cases hc
    · cases hc
  · rename_i xs hcal hargs
    simp only [Option.some.injEq] at hc; subst hc
    exact ex_mn ho hcal hargs hx he hr
  · rename_i xs hcal hargs
    simp only [Option.some.injEq] at hc; subst hc
    exact ex_mx ho hcal hargs hx he hr
  · rename_i x y hcal hargs
    obtain ⟨x0, y0, ha, hx0, hy0⟩ := cOpds2 hargs
    split at hc
    · rename_i s t2 h0 h1
      split at hc
      · cases hc
      · rename_i e d hnot hus hut
        split at hc
        · rename_i i z hi hz
          cases hb : Nat.beq z.length i.size
          · rw [hb] at hc; cases hc
          · rw [hb] at hc
            simp only [cond_true, Option.some.injEq] at hc; subst hc
            obtain ⟨zv, hzv, hzr⟩ := zeroT_spec hi hz
            refine ex_ap (zv := zv) (z := z) ho hcal ha ⟨⟨s, h0, hus⟩, ⟨t2, d, h1, hut, ?_⟩, hi, hzv, hzr⟩ (Nat.eq_of_beq_eq_true hb) hx0 hy0 hx he hr
            exact hnot
        · cases hc
      · cases hc
    · cases hc
  · rename_i x y hcal hargs
    obtain ⟨x0, y0, ha, hx0, hy0⟩ := cOpds2 hargs
    split at hc
    · rename_i s h0
      split at hc
      · rename_i e hus
        cases hs : sizeT P e with
        | none => simp [hs] at hc
        | some n =>
          simp only [hs, Option.map_some, Option.some.injEq] at hc; subst hc
          exact ex_cp ho hcal ha h0 hus hs hx0 hy0 hx he hr
      · cases hc
    · cases hc
  · cases hc

theorem hmx_of {mx hi : Option Operand} {mx' hi' : Option Opd} (h1 : cOpt P mx = some mx') (h2 : cOpt P hi = some hi') (h : (mx'.isNone || hi'.isSome) = true) : mx = none ∨ ∃ z, hi = some z := by
  cases mx with
  | none => exact .inl rfl
  | some m => cases hi with
    | none =>
      simp only [cOpt, Option.some.injEq] at h2; subst h2
      simp only [cOpt] at h1
      split at h1
      · simp only [Option.some.injEq] at h1; subst h1; simp at h
      · cases h1
    | some z => exact .inr ⟨z, rfl⟩

theorem exec_build {t : TypeId} {ps : Array (Nat × Operand)} (ho : o.op = .build t ps) (hc : cOp P o = some ao) (hx : aexec ao tm H = some (.v a H')) (he : EvR P ρ tm f) (hr : HR P base ρ H w) :
    Snd P base ρ H w (execOp f o) a H' := by
  simp only [cOp, ho] at hc
  split at hc
  · rename_i fs z hu hz
    cases hb : fs.toList.all (fun f => (sizeT P f.type).isSome)
    · rw [hb] at hc; cases hc
    · rw [hb] at hc
      simp only [cond_true] at hc
      cases hq : cParts P (fplace P fs) ps.toList with
      | none => simp [hq] at hc
      | some qs =>
        simp only [hq, Option.map_some, Option.some.injEq] at hc; subst hc
        refine ex_blS ho hu hz hq ?_ hx he hr
        intro g hg
        have := List.all_eq_true.1 hb g (by simpa using hg)
        exact Option.isSome_iff_exists.1 this
  · rename_i n e z hu hz
    split at hc
    · rename_i s hs
      cases hq : cParts P (fun i => some (i * s, s)) ps.toList with
      | none => simp [hq] at hc
      | some qs =>
        simp only [hq, Option.map_some, Option.some.injEq] at hc; subst hc
        exact ex_blA ho hu hz hs hq hx he hr
    · cases hc
  · cases hc

theorem exec_buildSlice {t : TypeId} {len : Nat} {ps : Array (Nat × Operand)} (ho : o.op = .buildSlice t len ps) (hc : cOp P o = some ao) (hx : aexec ao tm H = some (.v a H')) (he : EvR P ρ tm f) (hr : HR P base ρ H w) :
    Snd P base ρ H w (execOp f o) a H' := by
  simp only [cOp, ho] at hc
  split at hc
  · rename_i e hu
    split at hc
    · rename_i s z hs hz
      cases hb : (Nat.ble (len * s) 16777216 && Nat.beq z.length s)
      · rw [hb] at hc; cases hc
      · rw [hb] at hc
        simp only [cond_true] at hc
        simp only [Bool.and_eq_true] at hb
        cases hq : cParts P (fun i => some (i * s, s)) ps.toList with
        | none => simp [hq] at hc
        | some qs =>
          simp only [hq, Option.map_some, Option.some.injEq] at hc; subst hc
          exact ex_bs ho hu hz hs (Nat.le_of_ble_eq_true hb.1) (Nat.eq_of_beq_eq_true hb.2) hq hx he hr
    · cases hc
  · cases hc

theorem exec_binOp {op : BinOp} {t t2 : TypeId} {x y : Operand} (ho : o.op = .binOp op t x y t2) (hc : cOp P o = some ao) (hx : aexec ao tm H = some (.v a H')) (he : EvR P ρ tm f) (hr : HR P base ρ H w) :
    Snd P base ρ H w (execOp f o) a H' := by
  simp only [cOp, ho] at hc
  split at hc
  · rename_i x' y' h1 h2
    split at hc
    · cases hb : isEqT P t
      · rw [hb] at hc
        simp only [cond_false, Option.some.injEq] at hc; subst hc
        exact ex_b2 ho h1 h2 hx he hr
      · rw [hb] at hc
        simp only [cond_true] at hc
        split at hc
        · rename_i k hk
          simp only [Option.some.injEq] at hc; subst hc
          exact ex_eq ho h1 h2 (.inl ⟨rfl, rfl⟩) hk hx he hr
        · cases hc
    · cases hb : isEqT P t
      · rw [hb] at hc
        simp only [cond_false, Option.some.injEq] at hc; subst hc
        exact ex_b2 ho h1 h2 hx he hr
      · rw [hb] at hc
        simp only [cond_true] at hc
        split at hc
        · rename_i k hk
          simp only [Option.some.injEq] at hc; subst hc
          exact ex_eq ho h1 h2 (.inr ⟨rfl, rfl⟩) hk hx he hr
        · cases hc
    · simp only [Option.some.injEq] at hc; subst hc
      exact ex_b2 ho h1 h2 hx he hr
  · cases hc

theorem exec_convert {t d : TypeId} {x : Operand} (ho : o.op = .convert t d x) (hc : cOp P o = some ao) (hx : aexec ao tm H = some (.v a H')) (he : EvR P ρ tm f) (hr : HR P base ρ H w) :
    Snd P base ρ H w (execOp f o) a H' := by
  simp only [cOp, ho] at hc
  split at hc
  · rename_i k0 k y h1 h2 h3
    simp only [Option.some.injEq] at hc; subst hc
    exact ex_ci ho h1 h2 h3 hx he hr
  · rename_i y h1 h2 h3
    simp only [Option.some.injEq] at hc; subst hc
    exact ex_ks ho h1 h2 h3 hx he hr
  · rename_i e y h1 h2 h3
    split at hc
    · rename_i h4
      simp only [Option.some.injEq] at hc; subst hc
      exact ex_sb ho h1 h2 h4 h3 hx he hr
    · cases hc
  · rename_i e y h1 h2 h3
    split at hc
    · rename_i h4
      simp only [Option.some.injEq] at hc; subst hc
      exact ex_by ho h1 h4 h2 h3 hx he hr
    · cases hc
  · cases hc

theorem exec_makeSlice {t : TypeId} {l c : Operand} (ho : o.op = .makeSlice t l c) (hc : cOp P o = some ao) (hx : aexec ao tm H = some (.v a H')) (he : EvR P ρ tm f) (hr : HR P base ρ H w) :
    Snd P base ρ H w (execOp f o) a H' := by
  simp only [cOp, ho] at hc
  split at hc
  · rename_i e hu
    split at hc
    · rename_i i z l' c' hi hz hl hc'
      cases hb : Nat.beq z.length i.size
      · rw [hb] at hc; cases hc
      · rw [hb] at hc
        simp only [cond_true, Option.some.injEq] at hc; subst hc
        exact ex_ms ho hu hi hz (Nat.eq_of_beq_eq_true hb) hl hc' hx he hr
    · cases hc
  · cases hc

theorem exec_slice {t : TypeId} {x : Operand} {lo hi mx : Option Operand} (ho : o.op = .slice t x lo hi mx) (hc : cOp P o = some ao) (hx : aexec ao tm H = some (.v a H')) (he : EvR P ρ tm f) (hr : HR P base ρ H w) :
    Snd P base ρ H w (execOp f o) a H' := by
  simp only [cOp, ho] at hc
  split at hc
  · rename_i x' lo' hi' mx' h1 h2 h3 h4
    split at hc
    · rename_i hu
      split at hc
      · rename_i h5
        simp only [Option.some.injEq] at hc; subst hc
        cases mx with
        | none => exact ex_ss ho hu h1 h2 h3 hx he hr
        | some m => simp only [cOpt] at h4; split at h4 <;> simp at h4
      · cases hc
    · rename_i e hu
      cases hb : (mx'.isNone || hi'.isSome)
      · rw [hb] at hc; cases hc
      · rw [hb] at hc
        simp only [cond_true] at hc
        cases hs : sizeT P e with
        | none => simp [hs] at hc
        | some s =>
          simp only [hs, Option.map_some, Option.some.injEq] at hc; subst hc
          exact ex_sl ho hu hs h1 h2 h3 h4 (hmx_of h4 h3 hb) hx he hr
    · rename_i n e hu
      cases hb : (mx'.isNone || hi'.isSome)
      · rw [hb] at hc; cases hc
      · rw [hb] at hc
        simp only [cond_true] at hc
        cases hs : sizeT P e with
        | none => simp [hs] at hc
        | some s =>
          simp only [hs, Option.map_some, Option.some.injEq] at hc; subst hc
          exact ex_sa ho hu hs h1 h2 h3 h4 (hmx_of h4 h3 hb) hx he hr
    · cases hc
  · cases hc

theorem exec_range {t : TypeId} {x : Operand} (ho : o.op = .range t x) (hc : cOp P o = some ao) (hx : aexec ao tm H = some (.v a H')) (he : EvR P ρ tm f) (hr : HR P base ρ H w) :
    Snd P base ρ H w (execOp f o) a H' := by
  simp only [cOp, ho] at hc
  split at hc
  · rename_i y hu hy
    simp only [Option.some.injEq] at hc; subst hc
    exact ex_rs ho hu hy hx he hr
  · cases hc

theorem exec_next {x : Operand} (ho : o.op = .next x true) (hc : cOp P o = some ao) (hx : aexec ao tm H = some (.v a H')) (he : EvR P ρ tm f) (hr : HR P base ρ H w) :
    Snd P base ρ H w (execOp f o) a H' := by
  simp only [cOp, ho] at hc
  cases hy : cOpd P x with
  | none => simp [hy] at hc
  | some y =>
    simp only [hy, Option.map_some, Option.some.injEq] at hc; subst hc
    exact ex_nx ho hy hx he hr

/-- every operation that is no call -/
theorem exec_sound (hc : cOp P o = some ao) (hx : aexec ao tm H = some (.v a H')) (he : EvR P ρ tm f) (hr : HR P base ρ H w) : Snd P base ρ H w (execOp f o) a H' := by
  cases ho : o.op with
  | move x => exact ex_mv (.inl ho) hc hx he hr
  | assign x => exact ex_mv (.inr ho) hc hx he hr
  | pick c x y => exact ex_pk ho hc hx he hr
  | alloc t => exact ex_al ho hc hx hr
  | box t x => exact ex_bx ho hc hx he hr
  | build t ps => exact exec_build ho hc hx he hr
  | buildSlice t len ps => exact exec_buildSlice ho hc hx he hr
  | load t x => exact ex_l ho hc hx he hr
  | store t x y => exact ex_st ho hc hx he hr
  | nilCheck x => exact ex_nc ho hc hx he hr
  | binOp op t x y t2 => exact exec_binOp ho hc hx he hr
  | unOp op t x => exact ex_u1 ho hc hx he hr
  | convert t d x => exact exec_convert ho hc hx he hr
  | makeInterface t x => exact ex_mi ho hc hx he hr
  | makeFunc g as cs => cases g with
    | func g => exact ex_mf ho hc hx he hr
    | _ => simp [cOp, ho] at hc
  | makeMap t r => cases r with
    | none => exact ex_mm ho hc hx hr
    | some r => simp [cOp, ho] at hc
  | makeSlice t l c => exact exec_makeSlice ho hc hx he hr
  | slice t x lo hi mx => exact exec_slice ho hc hx he hr
  | fieldAddr t x i => exact ex_fa ho hc hx he hr
  | field t x i => exact ex_fl ho hc hx he hr
  | indexAddr t x i => exact ex_ia ho hc hx he hr
  | index t x i => exact ex_ix ho hc hx he hr
  | range t x => exact exec_range ho hc hx he hr
  | next x b => cases b with
    | true => exact exec_next ho hc hx he hr
    | false => simp [cOp, ho] at hc
  | extract x i => exact ex_ex ho hc hx he hr
  | call c => exact exec_call ho hc hx he hr
  | _ => simp [cOp, ho] at hc

/-! ### the calls -/
def isCall : AO → Bool
  | .cs .. => true
  | .cv .. => true
  | _ => false

end
end Go.Fx

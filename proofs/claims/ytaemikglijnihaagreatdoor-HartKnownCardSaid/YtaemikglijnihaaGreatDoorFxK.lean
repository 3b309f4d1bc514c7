/- FxK: each operation: what makes memory; what calls. -/
import Derived.Test.YtaemikglijnihaaGreatDoorFxJ
import Derived.Laws.IdiomStrings
set_option linter.all false
namespace Go.Fx
variable {P : Program} {base : Nat}
section
variable {ρ : Rn} {tm : Tr AV} {H H' : Hp} {w : World} {f : Operand → Value} {o : Oper} {ao : AO} {a : AV}

/-! parts -/
theorem foldl_set (vs : List Value) : ∀ (cs : Array Value) (off k : Nat), off + k + vs.length ≤ cs.size →
    ((vs.zipIdx k).foldl (fun cs (c, j) => cs.setIfInBounds (off + j) c) cs).toList = cs.toList.take (off + k) ++ vs ++ cs.toList.drop (off + k + vs.length) := by
  induction vs with
  | nil => intro cs off k h; simp
  | cons v r ih =>
    intro cs off k h
    simp only [List.length_cons] at h
    have := ih (cs.setIfInBounds (off + k) v) off (k + 1) (by simp; omega)
    have e := list_seg_step cs.toList (off + k) v r (by simp; omega)
    simp only [List.zipIdx_cons, List.foldl_cons]
    rw [this]
    simpa [Array.toList_setIfInBounds, Nat.add_assoc] using e

theorem fill_sound {place : Nat → Option (Nat × Nat)} (he : EvR P ρ tm f) : ∀ {ps : List (Nat × Operand)} {qs : List (Nat × Nat × Opd)} {l : List (Nat × Nat × AV)} {cs cs' : List AV} {vs : List Value},
    cParts P place ps = some qs → evParts tm qs = some l → fillA cs l = some cs' → VRs ρ cs vs →
    ∃ us, Instr.fill place vs.toArray (ps.map fun p => (p.1, f p.2)) = some us ∧ VRs ρ cs' us.toList
  | [], qs, l, cs, cs', vs, h1, h2, h3, hv => by
    simp only [cParts, Option.some.injEq] at h1; subst h1
    simp only [evParts, Option.some.injEq] at h2; subst h2
    simp only [fillA, Option.some.injEq] at h3; subst h3
    exact ⟨vs.toArray, rfl, by simpa using hv⟩
  | (i, x) :: ps, qs, l, cs, cs', vs, h1, h2, h3, hv => by
    simp only [cParts] at h1
    split at h1
    · rename_i off s y hpl hy
      split at h1
      · rename_i r hr
        simp only [Option.some.injEq] at h1; subst h1
        simp only [evParts] at h2
        split at h2
        · rename_i b hb
          split at h2
          · rename_i l' hl'
            simp only [Option.some.injEq] at h2; subst h2
            simp only [fillA] at h3
            cases hsz : (Nat.beq (cellsA b).length s && Nat.ble (Nat.add off s) cs.length)
            · rw [hsz] at h3; cases h3
            · rw [hsz] at h3
              simp only [cond_true] at h3
              simp only [Bool.and_eq_true] at hsz
              have hsz' : (cellsA b).length = s := Nat.eq_of_beq_eq_true hsz.1
              have hle : off + s ≤ cs.length := Nat.le_of_ble_eq_true hsz.2
              split at h3
              · rename_i cs1 hov
                have hvb := cells_of (he x y b hy hb)
                obtain ⟨k1, k2, k3⟩ := over_spec hov
                have hlen := hvb.len
                have hlv := hv.len
                simp only [Array.length_toList] at hlen
                have hnew : ((f x).cells.zipIdx.foldl (fun cs (c, j) => cs.setIfInBounds (off + j) c) vs.toArray).toList = vs.take off ++ (f x).cells.toList ++ vs.drop (off + (f x).cells.toList.length) := by
                  have e : (f x).cells.zipIdx.foldl (fun cs (c, j) => cs.setIfInBounds (off + j) c) vs.toArray = ((f x).cells.toList.zipIdx 0).foldl (fun cs (c, j) => cs.setIfInBounds (off + j) c) vs.toArray := by
                    rw [← Array.foldl_toList]; simp
                  rw [e, foldl_set (f x).cells.toList vs.toArray off 0 (by simp; omega)]
                  simp
                have hvs1 : VRs ρ cs1 ((f x).cells.zipIdx.foldl (fun cs (c, j) => cs.setIfInBounds (off + j) c) vs.toArray).toList := by
                  rw [hnew]
                  by_cases hnil : cellsA b = []
                  · have h0 : (f x).cells.toList = [] := by
                      apply List.eq_nil_of_length_eq_zero
                      rw [Array.length_toList, hlen, hnil]; rfl
                    rw [hnil] at hov
                    simp only [over] at hov
                    cases hcs : cs <;> (rw [hcs] at hov; simp [over] at hov)
                    all_goals (subst hov; rw [h0]; rw [hcs] at hv; simpa using hv)
                  · rw [k2 hnil]
                    have e2 : (cellsA b).length = (f x).cells.toList.length := hvb.len.symm
                    rw [e2]
                    exact VRs.append (VRs.append (VRs.take off hv) hvb) (VRs.drop _ hv)
                obtain ⟨us, hu1, hu2⟩ := fill_sound he hr hl' h3 hvs1
                refine ⟨us, ?_, hu2⟩
                simp only [List.map_cons, Instr.fill, hpl]
                rw [if_neg]
                · simpa using hu1
                · simp only [Bool.or_eq_true, decide_eq_true_eq, List.size_toArray]
                  omega
              · cases h3
          · cases h2
        · cases h2
      · cases h1
    · cases h1


theorem ex_blS {t : TypeId} {ps : Array (Nat × Operand)} {fs : Array Field} {z : List AV} {qs : List (Nat × Nat × Opd)} (ho : o.op = .build t ps) (hu : P.underlying t = some (.struct fs)) (hz : zeroT P t = some z)
    (hq : cParts P (fplace P fs) ps.toList = some qs)
    (hsz : ∀ f ∈ fs, ∃ s, sizeT P f.type = some s)
    (hx : aexec (.bl z qs) tm H = some (.v a H')) (he : EvR P ρ tm f) (hr : HR P base ρ H w) : Snd P base ρ H w (execOp f o) a H' := by
  simp only [aexec] at hx
  split at hx
  · rename_i l hl
    split at hx
    · rename_i cs hcs
      obtain ⟨rfl, rfl⟩ := ok_inj hx
      obtain ⟨v, h1, h2⟩ := r_zero hz w ρ
      obtain ⟨us, h3, h4⟩ := fill_sound he hq hl hcs h2
      refine Snd.same (v := .agg us) hr ?_ (by simp only [VR]; exact ⟨us.toList, by simp, h4⟩)
      have hplaces : ∃ places : Array (Nat × Nat), (fs.mapM (fun f => do pure (f.offset, ← sizeOf f.type) : Field → Sem (Nat × Nat))).run P w = .ok places w ∧ ∀ i, places[i]? = fplace P fs i := by
        have hlist : ∀ (l : List Field), (∀ f ∈ l, ∃ s, sizeT P f.type = some s) → ∃ pl : List (Nat × Nat), (l.mapM (fun f => do pure (f.offset, ← sizeOf f.type) : Field → Sem (Nat × Nat))).run P w = .ok pl w ∧ ∀ (i : Nat), pl[i]? = match l[i]? with | some (f : Field) => (match sizeT P f.type with | some s => some (f.offset, s) | none => none) | none => none := by
          intro l
          induction l with
          | nil => intro _; exact ⟨[], by simp, by simp⟩
          | cons fd l ih =>
            intro hl
            obtain ⟨s, hs⟩ := hl fd (by simp)
            obtain ⟨pl, h5, h6⟩ := ih (fun g hg => hl g (by simp [hg]))
            refine ⟨(fd.offset, s) :: pl, ?_, ?_⟩
            · simp only [List.mapM_cons, Sem.run_bind, r_size hs, Result.andThen_ok, Sem.run_pure, h5]
            · intro i
              cases i with
              | zero => simp [hs]
              | succ i => simpa using h6 i
        obtain ⟨pl, h5, h6⟩ := hlist fs.toList (fun f hf => hsz f (by simpa using hf))
        refine ⟨pl.toArray, ?_, fun i => by
          have := h6 i
          simp only [List.getElem?_toArray, this, Array.getElem?_toList]
          unfold fplace
          cases fs[i]? <;> rfl⟩
        rw [Array.mapM_eq_mapM_toList]
        simp only [Sem.run_map, h5, Result.andThen_ok]
      obtain ⟨places, h5, h6⟩ := hplaces
      have h7 : (fun i => places[i]?) = fplace P fs := funext h6
      have h8 : (ps.map fun (i, x) => (i, f x)).toList = ps.toList.map fun p => (p.1, f p.2) := by simp
      simp only [execOp, ho, Instr.build, Sem.run_bind, h1, Result.andThen_ok, r_und hu, h5, h8]
      rw [h7]
      simp only [Array.toArray_toList] at h3
      simp only [h3]
      rfl
    · cases hx
  · cases hx

theorem ex_blA {t e : TypeId} {n : Nat} {ps : Array (Nat × Operand)} {z : List AV} {qs : List (Nat × Nat × Opd)} {s : Nat} (ho : o.op = .build t ps) (hu : P.underlying t = some (.array n e)) (hz : zeroT P t = some z) (hs : sizeT P e = some s)
    (hq : cParts P (fun i => some (i * s, s)) ps.toList = some qs)
    (hx : aexec (.bl z qs) tm H = some (.v a H')) (he : EvR P ρ tm f) (hr : HR P base ρ H w) : Snd P base ρ H w (execOp f o) a H' := by
  simp only [aexec] at hx
  split at hx
  · rename_i l hl
    split at hx
    · rename_i cs hcs
      obtain ⟨rfl, rfl⟩ := ok_inj hx
      obtain ⟨v, h1, h2⟩ := r_zero hz w ρ
      obtain ⟨us, h3, h4⟩ := fill_sound he hq hl hcs h2
      refine Snd.same (v := .agg us) hr ?_ (by simp only [VR]; exact ⟨us.toList, by simp, h4⟩)
      have h8 : (ps.map fun (i, x) => (i, f x)).toList = ps.toList.map fun p => (p.1, f p.2) := by simp
      simp only [Array.toArray_toList] at h3
      simp only [execOp, ho, Instr.build, Sem.run_bind, h1, Result.andThen_ok, r_und hu, r_size hs, h8, h3]
      rfl
    · cases hx
  · cases hx

theorem repA_len (z : List AV) : ∀ n, (repA z n).length = n * z.length
  | 0 => by simp [repA]
  | n + 1 => by simp [repA, repA_len z n, Nat.succ_mul]; omega

theorem VRs.of_get : ∀ {l : List AV} {vs : List Value}, vs.length = l.length → (∀ (i : Nat) (a : AV), l[i]? = some a → ∃ v, vs[i]? = some v ∧ VR ρ a v) → VRs ρ l vs
  | [], [], _, _ => VRs.nil
  | [], _ :: _, h, _ => by simp at h
  | _ :: _, [], h, _ => by simp at h
  | a :: l, v :: vs, h, k => by
    obtain ⟨u, h1, h2⟩ := k 0 a (by simp)
    simp only [List.getElem?_cons_zero, Option.some.injEq] at h1; subst h1
    exact VRs.cons h2 (VRs.of_get (by simpa using h) fun i b hb => by simpa using k (i + 1) b (by simpa using hb))

theorem repA_get (z : List AV) : ∀ (n i : Nat) (a : AV), (repA z n)[i]? = some a → z[i % z.length]? = some a
  | 0, i, a, h => by simp [repA] at h
  | n + 1, i, a, h => by
    simp only [repA] at h
    by_cases hi : i < z.length
    · rw [List.getElem?_append_left hi] at h
      rw [Nat.mod_eq_of_lt hi]; exact h
    · rw [List.getElem?_append_right (by omega)] at h
      have := repA_get z n (i - z.length) a h
      rw [← this, Nat.mod_eq_sub_mod (by omega)]

theorem repA_vals {z : List AV} {vs : Array Value} (h : VRs ρ z vs.toList) (n : Nat) : VRs ρ (repA z n) (madeCells vs (n * vs.size)).toList := by
  have hl := h.len
  simp only [Array.length_toList] at hl
  refine VRs.of_get (by simp [madeCells, repA_len, hl]) fun i a ha => ?_
  have hi : i < (repA z n).length := by
    rcases Nat.lt_or_ge i (repA z n).length with h | h
    · exact h
    · rw [List.getElem?_eq_none h] at ha; cases ha
  rw [repA_len] at hi
  obtain ⟨v, h1, h2⟩ := h.get (repA_get z n i a ha)
  refine ⟨v, ?_, h2⟩
  have hpos : 0 < vs.size := by
    rcases Nat.eq_zero_or_pos vs.size with h0 | h0
    · rw [hl] at h0; rw [h0] at hi; omega
    · exact h0
  have hlt : i % vs.size < vs.size := Nat.mod_lt _ hpos
  rw [← hl] at h1 hi
  simp only [Array.getElem?_toList] at h1
  have e : (madeCells vs (n * vs.size)).toList[i]? = some (vs[i % vs.size]!) := by
    simp [madeCells, hi]
  rw [e, getElem!_pos vs _ hlt]
  rw [getElem?_pos vs _ hlt] at h1
  exact h1

theorem ex_bs {t e : TypeId} {len : Nat} {ps : Array (Nat × Operand)} {z : List AV} {qs : List (Nat × Nat × Opd)} {s : Nat} (ho : o.op = .buildSlice t len ps) (hu : P.underlying t = some (.slice e)) (hz : zeroT P e = some z) (hs : sizeT P e = some s)
    (hlim : len * s ≤ 16777216) (hzs : z.length = s) (hq : cParts P (fun i => some (i * s, s)) ps.toList = some qs)
    (hx : aexec (.bs e len (repA z len) qs) tm H = some (.v a H')) (he : EvR P ρ tm f) (hr : HR P base ρ H w) : Snd P base ρ H w (execOp f o) a H' := by
  simp only [aexec] at hx
  split at hx
  · rename_i l hl
    split at hx
    · rename_i cs hcs
      cases hall : cs.all one
      · rw [hall] at hx; cases hx
      rw [hall] at hx
      simp only [cond_true] at hx
      obtain ⟨rfl, rfl⟩ := ok_inj hx
      obtain ⟨v, h1, h2⟩ := r_zero hz w ρ
      have hvs : v.cells.size = s := by have := h2.len; rw [Array.length_toList] at this; omega
      have h2' := repA_vals h2 len
      rw [hvs] at h2'
      obtain ⟨us, h3, h4⟩ := fill_sound he hq hl hcs h2'
      have h8 : (ps.map fun (i, x) => (i, f x)).toList = ps.toList.map fun p => (p.1, f p.2) := by simp
      simp only [Array.toArray_toList] at h3
      have hle : ρ.le (ρ.upd H.next (w.heap.size, us.size)) := Rn.le_upd (hr.fresh _ (Nat.le_refl _))
      refine ⟨.value (.slice (some ⟨w.heap.size, 0, none⟩) len len), w.alloc (.cells us e), _, ?_, .inl ⟨_, rfl, ?_⟩, hr.alloc (.c e false cs) (.cells us e) us.size _ rfl rfl rfl rfl ⟨us, _, rfl, rfl, VRs.mono hle _ _ h4, fun _ => ?_⟩⟩
      · have hno : ¬ (len * s > 2 ^ 24) := by simp; omega
        simp only [execOp, ho, Instr.buildSlice, Sem.run_bind, r_und hu, Result.andThen_ok, r_size hs, if_neg hno]
        by_cases h0 : len * s = 0
        · simp only [if_pos h0, Sem.run_bind, Sem.run_pure, Result.andThen_ok, h8]
          have e0 : madeCells v.cells (len * s) = ((Array.range (len * s)).map fun x => (#[] : Array Value)[x % (#[] : Array Value).size]!) := by simp [madeCells, h0]
          rw [← e0, h3]
          simp [newRow]
        · simp only [if_neg h0, Sem.run_bind, h1, Sem.run_pure, Result.andThen_ok, h8]
          have e0 : ((Array.range (len * s)).map fun x => v.cells[x % v.cells.size]!) = madeCells v.cells (len * s) := rfl
          rw [e0, h3]
          simp [newRow]
      · simp only [VR]; exact ⟨_, _, Rn.upd_same _ _ _, rfl⟩
      · intro i _ hi; simp at hi
    · cases hx
  · cases hx

theorem isU8_eq {z : List AV} (h : isU8 z = true) : z = [.I .u8 0] := by
  unfold isU8 at h
  split at h
  · rfl
  · cases h

theorem enc_zeros (n : Nat) : enc (List.replicate n (0 : UInt8)) = 0 := by
  induction n with
  | zero => rfl
  | succ n ih => simp [List.replicate_succ, enc, ih]

theorem ex_ms {t e : TypeId} {x y : Operand} {i : TypeInfo} {z : List AV} {x' y' : Opd} (ho : o.op = .makeSlice t x y) (hu : P.underlying t = some (.slice e)) (hi : P.info? e = some i) (hz : zeroT P e = some z) (hzs : z.length = i.size)
    (c1 : cOpd P x = some x') (c2 : cOpd P y = some y') (hx : aexec (.ms e i.bytes z x' y') tm H = some (.v a H')) (he : EvR P ρ tm f) (hr : HR P base ρ H w) : Snd P base ρ H w (execOp f o) a H' := by
  simp only [aexec] at hx
  split at hx
  · rename_i l c hl hc
    obtain ⟨k1, e1⟩ := evI_sound he c1 hl
    obtain ⟨k2, e2⟩ := evI_sound he c2 hc
    cases hle : (Nat.ble l c && (Nat.ble (Nat.mul i.bytes c) 281474976710656 && Nat.ble c 9223372036854775807))
    · rw [hle] at hx; cases hx
    rw [hle] at hx
    simp only [cond_true] at hx
    obtain ⟨h1, h2, h3⟩ := and_ble hle
    have hzv : ∃ v, i.zero = some v ∧ VRs ρ z v.cells.toList := by
      unfold zeroT at hz
      rw [hi] at hz
      simp only at hz
      split at hz
      · rename_i v hv; exact ⟨v, hv, toAV_go hz⟩
      · cases hz
    obtain ⟨v, hv, hzr⟩ := hzv
    have hvs : v.cells.size = i.size := by have := hzr.len; rw [Array.length_toList] at this; omega
    have hb2 : i.bytes * c ≤ 281474976710656 := h2
    have hb3 : (i.bytes : Int) * (c : Int) ≤ 281474976710656 := by rw [← Int.natCast_mul]; omega
    have hrun := run_make (P := P) w t e i v hu hi hv k1 k2 l c (Int.natCast_nonneg _) (by omega) hb3 (by omega)
    simp only [Int.toNat_natCast] at hrun
    have hex : (execOp f o).run P w = .ok (.value (.slice (some ⟨w.heap.size, 0, none⟩) l c)) (w.alloc (.cells (madeCells v.cells (c * i.size)) e)) := by
      simp only [execOp, ho, e1, e2, Sem.run_bind, hrun, Result.andThen_ok]; rfl
    cases hu8 : isU8 z
    · rw [hu8] at hx
      simp only [cond_false] at hx
      obtain ⟨rfl, rfl⟩ := ok_inj hx
      have hle : ρ.le (ρ.upd H.next (w.heap.size, c * i.size)) := Rn.le_upd (hr.fresh _ (Nat.le_refl _))
      refine ⟨_, _, _, hex, .inl ⟨_, rfl, ?_⟩, hr.alloc (.c e false (repA z c)) _ (c * i.size) _ rfl rfl rfl rfl ⟨_, _, rfl, size_madeCells _ _, ?_, fun _ => ?_⟩⟩
      · simp only [VR]; exact ⟨_, _, Rn.upd_same _ _ _, rfl⟩
      · have := repA_vals hzr c
        rw [hvs] at this
        exact VRs.mono hle _ _ this
      · intro i _ hi; simp at hi
    · rw [hu8] at hx
      simp only [cond_true] at hx
      obtain ⟨rfl, rfl⟩ := ok_inj hx
      have hz1 := isU8_eq hu8
      subst hz1
      have hs1 : i.size = 1 := by rw [← hzs]; rfl
      simp only [VRs, VR] at hzr
      obtain ⟨u, r, hcl, hu', hr'⟩ := hzr
      subst hu'; subst hr'
      have hvc : v.cells = #[.int .u8 0] := by rw [← Array.toArray_toList (xs := v.cells), hcl]
      refine ⟨_, _, _, hex, .inl ⟨_, rfl, ?_⟩, hr.alloc (.y e c 0 false) _ c _ rfl rfl rfl rfl ⟨_, _, List.replicate c 0, rfl, by rw [size_madeCells, hs1, Nat.mul_one], Nat.le_refl _, fun _ => rfl, by simp, enc_zeros c, ?_, ?_⟩⟩
      · simp only [VR]; exact ⟨_, _, Rn.upd_same _ _ _, rfl⟩
      · rw [hvc, hs1, Nat.mul_one]
        have : (madeCells #[Value.int .u8 0] c).toList = List.replicate c (Value.int .u8 0) := by
          apply List.ext_getElem?
          intro j
          by_cases hj : j < c
          · simp [madeCells, hj, Nat.mod_one]
          · rw [List.getElem?_eq_none (by simp [madeCells]; omega), List.getElem?_eq_none (by simp; omega)]
        rw [this, List.take_of_length_le (by simp)]
        simp [byteVals]
      · intro i _ hi; simp at hi
  · cases hx


theorem src_sound {es : Nat} {y : AV} {v : Value} {n : Nat} {l : List AV} (hr : HR P base ρ H w) (h : srcOf H es y = some (n, l)) (hv : VR ρ y v) (hl : Nat.beq l.length (Nat.mul n es) = true) :
    ∃ vs, VRs ρ l vs ∧ (Builtin.lenOf v).run P w = .ok n w ∧ ∀ m, m ≤ n → (Builtin.firstCells es m v).run P w = .ok (vs.take (m * es)).toArray w := by
  have hl' : l.length = n * es := Nat.eq_of_beq_eq_true hl
  unfold srcOf at h
  split at h
  · simp only [Option.some.injEq, Prod.mk.injEq] at h
    obtain ⟨rfl, rfl⟩ := h
    simp only [VR] at hv; subst hv
    exact ⟨[], VRs.nil, rfl, fun m hm => by simp [Builtin.firstCells]⟩
  · rename_i id off len cap
    split at h
    · rename_i l' hrd
      simp only [Option.some.injEq, Prod.mk.injEq] at h
      obtain ⟨rfl, rfl⟩ := h
      simp only [VR] at hv
      obtain ⟨b, N, hρ, rfl⟩ := hv
      obtain ⟨vs, h1, h2, h3, _⟩ := readN_sound hr hrd hρ
      refine ⟨vs, h1, rfl, fun m hm => ?_⟩
      have hlv := h1.len
      have hmul : m * es ≤ len * es := Nat.mul_le_mul_right es hm
      have := loadCells_run (P := P) w b off (vs.take (m * es)) (fun j v hj => h3 j v (by
        rw [List.getElem?_take] at hj
        split at hj
        · exact hj
        · cases hj))
      have hlen : (vs.take (m * es)).length = m * es := by
        rw [List.length_take]; omega
      rw [hlen] at this
      exact this
    · cases h
  · rename_i id off len es'
    split at h
    · rename_i l' hrd
      simp only [Option.some.injEq, Prod.mk.injEq] at h
      obtain ⟨rfl, rfl⟩ := h
      simp only [VR] at hv
      obtain ⟨b, N, c, hρ, rfl, _⟩ := hv
      obtain ⟨vs, h1, h2, h3, _⟩ := readN_sound hr hrd hρ
      refine ⟨vs, h1, rfl, fun m hm => ?_⟩
      have hlv := h1.len
      have hmul : m * es ≤ len * es := Nat.mul_le_mul_right es hm
      have := loadCells_run (P := P) w b off (vs.take (m * es)) (fun j v hj => h3 j v (by
        rw [List.getElem?_take] at hj
        split at hj
        · exact hj
        · cases hj))
      have hlen : (vs.take (m * es)).length = m * es := by
        rw [List.length_take]; omega
      rw [hlen] at this
      exact this
    · cases h
  · rename_i n' x
    simp only [Option.some.injEq, Prod.mk.injEq] at h
    obtain ⟨rfl, rfl⟩ := h
    simp only [VR] at hv
    obtain ⟨s, rfl, hsl, rfl⟩ := hv
    have hsz : s.size = n' := by rw [← hsl, Array.length_toList]; rfl
    have hb := bytesOf_spec (l := s.data.toList) n' 0 (by omega) ρ
    rw [bytesOf_len] at hl'
    refine ⟨_, hb, by simp [Builtin.lenOf, hsz], fun m hm => ?_⟩
    have hmes : m * es = m := by
      rcases Nat.eq_zero_or_pos n' with h0 | h0
      · have : m = 0 := by omega
        subst this; simp
      · have : es = 1 := by
          have : n' * es = n' * 1 := by omega
          exact Nat.eq_of_mul_eq_mul_left h0 this
        rw [this, Nat.mul_one]
    rw [hmes]
    simp only [Builtin.firstCells, Sem.run_pure]
    congr 1
    apply Array.ext'
    simp only [Array.toList_map, ext_data, byteVals, List.drop_zero, Nat.sub_zero, ← List.map_take]
    rw [List.take_take, Nat.min_eq_left hm]
  · cases h

theorem ex_sb {t d e : TypeId} {x : Operand} {y : Opd} (ho : o.op = .convert t d x) (ht : P.underlying t = some .string) (hd : P.underlying d = some (.slice e)) (hee : P.underlying e = some (.int .u8)) (hy : cOpd P x = some y)
    (hx : aexec (.sb e y) tm H = some (.v a H')) (he : EvR P ρ tm f) (hr : HR P base ρ H w) : Snd P base ρ H w (execOp f o) a H' := by
  simp only [aexec] at hx
  split at hx
  · rename_i n z hb
    obtain ⟨rfl, rfl⟩ := ok_inj hx
    have hv := he x y _ hy hb
    simp only [VR] at hv
    obtain ⟨s, hv, hsl, rfl⟩ := hv
    have hsz : s.size = n := by rw [← hsl, Array.length_toList]; rfl
    subst hsz
    have hrun := run_bytes_of_string (P := P) w t d e s ht hd hee
    have hge := grownCap_ge w s.size 0 e
    have hNs : (bytesRow s (grownCap w s.size 0 e)).size = grownCap w s.size 0 e := by
      simp only [bytesRow, Array.size_append, Array.size_map, Array.size_replicate]
      show s.size + _ = _
      omega
    refine ⟨.value (.slice (some ⟨w.heap.size, 0, none⟩) s.size (grownCap w s.size 0 e)), _, _, ?_, .inl ⟨_, rfl, ?_⟩,
      (Onto.drew hr (w.drawn + 1)).trans ((hr.drew (w.drawn + 1)).alloc (.y e s.size (enc s.data.toList) true) (.cells (bytesRow s (grownCap w s.size 0 e)) e ((bytesRow s (grownCap w s.size 0 e)).size, (bytesRow s (grownCap w s.size 0 e)).size + 1)) (grownCap w s.size 0 e) (w.drew.alloc (.cells (bytesRow s (grownCap w s.size 0 e)) e ((bytesRow s (grownCap w s.size 0 e)).size, (bytesRow s (grownCap w s.size 0 e)).size + 1))) rfl rfl rfl rfl
        ⟨_, _, s.data.toList, rfl, hNs, hge, (fun h => by cases h), hsl, rfl, ?_, ?_⟩)⟩
    · simp only [execOp, ho, hv, Sem.run_bind, hrun, Result.andThen_ok]; rfl
    · simp only [VR]
      exact ⟨_, _, _, Rn.upd_same _ _ _, rfl, hge, by simp⟩
    · simp only [bytesRow, Array.toList_append, Array.toList_map]
      rw [List.take_append_of_le_length (by simp only [List.length_map]; omega), List.take_of_length_le (by simp only [List.length_map]; omega)]
      rfl
    · intro i hi; rw [hNs]; omega
  · cases hx

theorem packB_spec : ∀ {l : List AV} {vs : List Value} {x : Nat}, packB l = some x → VRs ρ l vs → ∃ m : List UInt8, m.length = l.length ∧ vs = byteVals m ∧ enc m = x
  | [], vs, x, h, hv => by
    simp only [packB, Option.some.injEq] at h; subst h
    simp only [VRs] at hv; subst hv
    exact ⟨[], rfl, rfl, rfl⟩
  | a :: l, vs, x, h, hv => by
    simp only [VRs] at hv
    obtain ⟨v, r, rfl, h1, h2⟩ := hv
    simp only [packB] at h
    split at h
    · rename_i b y hb hy
      simp only [Option.some.injEq] at h; subst h
      obtain ⟨hlt, rfl⟩ := byteOfAV_spec hb h1
      obtain ⟨m, hm, rfl, rfl⟩ := packB_spec hy h2
      have hb' : (UInt8.ofNat b).toNat = b := by simp; omega
      exact ⟨UInt8.ofNat b :: m, by simp [hm], by simp [byteVals, hb'], by simp only [enc, hb']; rfl⟩
    · cases h

theorem readS_sound (hr : HR P base ρ H w) {id off n x b N : Nat} (h : readS H id off n = some x) (hb : ρ id = some (b, N)) :
    ∃ l : List UInt8, l.length = n ∧ enc l = x ∧ ∀ j (hj : j < l.length), w.cell? ⟨b, off + j, none⟩ = some (.int .u8 (l[j].toNat : Int)) := by
  have key : ∀ l, readN H id off n = some l → packB l = some x → ∃ l : List UInt8, l.length = n ∧ enc l = x ∧ ∀ j (hj : j < l.length), w.cell? ⟨b, off + j, none⟩ = some (.int .u8 (l[j].toNat : Int)) := by
    intro l h1 h2
    obtain ⟨vs, h3, h4, h5, _⟩ := readN_sound hr h1 hb
    obtain ⟨m, h6, rfl, h7⟩ := packB_spec h2 h3
    exact ⟨m, by omega, h7, fun j hj => h5 j _ (byteVals_get (by simp [hj]))⟩
  unfold readS at h
  split at h
  · rename_i t m z op hg
    obtain ⟨o1, ho1, hbr, _⟩ := hr.blk id _ hg rfl b N hb
    obtain ⟨vs, fz, k, rfl, hN, hle, _, hk, rfl, hvs, _⟩ := hbr
    cases hc : Nat.ble (Nat.add off n) m
    · rw [hc] at h; cases h
    · rw [hc] at h
      have hle2 : off + n ≤ m := Nat.le_of_ble_eq_true hc
      simp only [cond_true, Option.some.injEq] at h
      subst h
      refine ⟨(k.drop off).take n, by simp; omega, (cutN_spec _ _ _).symm, fun j hj => ?_⟩
      rw [cell_at w b _ vs t fz ho1]
      simp only [List.length_take, List.length_drop] at hj
      have hlt : off + j < k.length := by omega
      have e := congrArg (fun l => l[off + j]?) hvs
      simp only [List.getElem?_take, byteVals, List.getElem?_map, List.getElem?_eq_getElem hlt] at e
      rw [if_pos (by omega)] at e
      simpa using e
  · rename_i t ro cs hg
    split at h
    · rename_i l hl
      exact key l (by unfold readN; rw [hg]; exact hl) h
    · cases h
  · rename_i t cs hg
    split at h
    · rename_i l hl
      exact key l (by unfold readN; rw [hg]; exact hl) h
    · cases h
  · cases h

theorem ex_by {t d e : TypeId} {x : Operand} {y : Opd} (ho : o.op = .convert t d x) (ht : P.underlying t = some (.slice e)) (hee : P.underlying e = some (.int .u8)) (hd : P.underlying d = some .string) (hy : cOpd P x = some y)
    (hx : aexec (.by y) tm H = some (.v a H')) (he : EvR P ρ tm f) (hr : HR P base ρ H w) : Snd P base ρ H w (execOp f o) a H' := by
  have key : ∀ (b off len cap z N id : Nat), f x = .slice (some ⟨b, off, none⟩) len cap → ρ id = some (b, N) → readS H id off len = some z → a = .S len z → H' = H → Snd P base ρ H w (execOp f o) a H' := by
    intro b off len cap z N id hfx hρ hrd ha hH
    subst ha; subst hH
    obtain ⟨l, h1, h2, h3⟩ := readS_sound hr hrd hρ
    have hrun := run_convert_bytes_back (P := P) w t d e ⟨b, off, none⟩ cap l ht hee hd (fun j hj => by rw [addr_add]; exact h3 j hj)
    refine Snd.same (v := .string ⟨l.toArray⟩) hr ?_ ?_
    · rw [h1] at hrun
      simp only [execOp, ho, hfx, Sem.run_bind, hrun, Result.andThen_ok]; rfl
    · simp only [VR]; exact ⟨⟨l.toArray⟩, rfl, by simpa using h1, by simpa using h2⟩
  simp only [aexec] at hx
  split at hx
  · rename_i hb
    obtain ⟨rfl, rfl⟩ := ok_inj hx
    have hv := he x y _ hy hb
    simp only [VR] at hv
    refine Snd.same (v := .string .empty) hr ?_ ?_
    · simp [execOp, ho, hv, convert, r_und ht, r_und hd, r_und hee, Conv.bytesToString]
    · simp only [VR]; exact ⟨.empty, rfl, rfl, rfl⟩
  · rename_i id off len cap hb
    split at hx
    · rename_i z hz
      obtain ⟨rfl, rfl⟩ := ok_inj hx
      have hv := he x y _ hy hb
      simp only [VR] at hv
      obtain ⟨b, N, hρ, hv⟩ := hv
      exact key b off len cap z N id hv hρ hz rfl rfl
    · cases hx
  · rename_i id off len es hb
    split at hx
    · rename_i z hz
      obtain ⟨rfl, rfl⟩ := ok_inj hx
      have hv := he x y _ hy hb
      simp only [VR] at hv
      obtain ⟨b, N, c, hρ, hv, _⟩ := hv
      exact key b off len c z N id hv hρ hz rfl rfl
    · cases hx
  · cases hx


/-- an object that was known under one number is known under a new one -/
theorem HR.rekey {ρ : Rn} {H : Hp} {w : World} (hr : HR P base ρ H w) {id b N : Nat} {a0 : AB} (hg : H.t.get id = some a0) (hd : a0.isDead = false) (hb : ρ id = some (b, N))
    (hro : a0.ro = false) (a : AB) (w' : World) (o : Obj) (ho : w'.heap[b]? = some o) (hbr : BR P (ρ.upd H.next (b, N)) N a o) (hsz : w'.heap.size = w.heap.size)
    (hot : ∀ k, k ≠ b → w'.heap[k]? = w.heap[k]?) (hos : w'.os = w.os) (htape : w'.tape = w.tape) (hout : w'.output = w.output) :
    Onto P base ρ H w (ρ.upd H.next (b, N)) ((H.put id .dead).new a) w' := by
  have hbase : base ≤ b := (hr.blk id a0 hg hd b N hb).choose_spec.2.2 hro
  have hf : ρ H.next = none := hr.fresh _ (Nat.le_refl _)
  have hle : ρ.le (ρ.upd H.next (b, N)) := Rn.le_upd hf
  have hidn : id ≠ H.next := by intro e; have := hr.low id a0 hg; omega
  have hget : ∀ j, ((H.put id .dead).new a).t.get j = if j = H.next then some a else if j = id then some .dead else H.t.get j := by
    intro j; rw [get_new, get_put]; rfl
  have hupd : ∀ {i : Nat} {x : Nat × Nat}, i ≠ H.next → (ρ.upd H.next (b, N)) i = some x → ρ i = some x := by
    intro i x hi h; simpa [Rn.upd, hi] using h
  refine ⟨hle, ?_, by simp [Hp.new, Hp.put], ⟨?_, ?_, ?_, ?_, by rw [hsz]; exact hr.big, ?_, ?_⟩, hos, htape, hout, by omega, ?_, ?_, ?_⟩
  · intro i x hx
    by_cases hi : i = H.next
    · exact .inr (by omega)
    · exact .inl (hupd hi hx)
  · intro i c hc hcd k M hk
    rw [hget] at hc
    by_cases hi : i = H.next
    · subst hi
      rw [if_pos rfl] at hc
      simp only [Option.some.injEq] at hc; subst hc
      rw [Rn.upd_same] at hk
      simp only [Option.some.injEq, Prod.mk.injEq] at hk
      obtain ⟨rfl, rfl⟩ := hk
      exact ⟨o, ho, hbr, fun _ => hbase⟩
    · rw [if_neg hi] at hc
      by_cases hj : i = id
      · rw [if_pos hj] at hc
        simp only [Option.some.injEq] at hc; subst hc; cases hcd
      · rw [if_neg hj] at hc
        have hk' := hupd hi hk
        obtain ⟨o', ho', hbr', hba⟩ := hr.blk i c hc hcd k M hk'
        refine ⟨o', ?_, BRmono hle hbr', hba⟩
        rw [hot k ?_]
        · exact ho'
        · rintro rfl
          exact hj (hr.inj i id c a0 _ M N hc hg hcd hd hk' hb)
  · intro i j c d k M L hc hd' hcd hdd hk hl
    rw [hget] at hc hd'
    by_cases hi : i = H.next
    · by_cases hj : j = H.next
      · rw [hi, hj]
      · exfalso
        subst hi
        rw [Rn.upd_same] at hk
        simp only [Option.some.injEq, Prod.mk.injEq] at hk
        rw [if_neg hj] at hd'
        by_cases hj2 : j = id
        · rw [if_pos hj2] at hd'; simp only [Option.some.injEq] at hd'; subst hd'; cases hdd
        · rw [if_neg hj2] at hd'
          have hl' := hupd hj hl
          exact hj2 (hr.inj j id d a0 k L N hd' hg hdd hd hl' (by rw [hk.1] at hb; exact hb))
    · rw [if_neg hi] at hc
      by_cases hi2 : i = id
      · rw [if_pos hi2] at hc; simp only [Option.some.injEq] at hc; subst hc; cases hcd
      · rw [if_neg hi2] at hc
        have hk' := hupd hi hk
        by_cases hj : j = H.next
        · exfalso
          subst hj
          rw [Rn.upd_same] at hl
          simp only [Option.some.injEq, Prod.mk.injEq] at hl
          exact hi2 (hr.inj i id c a0 k M N hc hg hcd hd hk' (by rw [hl.1] at hb; exact hb))
        · rw [if_neg hj] at hd'
          by_cases hj2 : j = id
          · rw [if_pos hj2] at hd'; simp only [Option.some.injEq] at hd'; subst hd'; cases hdd
          · rw [if_neg hj2] at hd'
            exact hr.inj i j c d k M L hc hd' hcd hdd hk' (hupd hj hl)
  · intro i hi
    simp only [Hp.new, Hp.put] at hi
    unfold Rn.upd
    rw [if_neg (by omega)]
    exact hr.fresh i (by omega)
  · intro i c hc
    rw [hget] at hc
    simp only [Hp.new, Hp.put]
    by_cases hi : i = H.next
    · omega
    · rw [if_neg hi] at hc
      by_cases hi2 : i = id
      · have := hr.low id a0 hg; omega
      · rw [if_neg hi2] at hc
        have := hr.low i c hc; omega
  · intro i k M hk
    rw [hsz]
    by_cases hi : i = H.next
    · subst hi
      rw [Rn.upd_same] at hk
      simp only [Option.some.injEq, Prod.mk.injEq] at hk
      have := hr.rng id b N hb
      omega
    · exact hr.rng i k M (hupd hi hk)
  · intro g hg'
    obtain ⟨N', h⟩ := hr.glob g hg'
    exact ⟨N', hle _ _ h⟩
  · intro k hk; exact hot k (by omega)
  · intro k _ hn; exact hot k (fun e => hn id N (e ▸ hb))
  · intro i k M hk
    by_cases hi : i = H.next
    · subst hi
      rw [Rn.upd_same] at hk
      simp only [Option.some.injEq, Prod.mk.injEq] at hk
      exact .inr ⟨id, N, by rw [hb, hk.1]⟩
    · exact .inr ⟨i, M, hupd hi hk⟩

theorem zeroCells_size (z : Array Value) (n : Nat) : (Builtin.zeroCells z n).size = n * z.size := by simp [Builtin.zeroCells]

/-- the block that an append lays, on the abstract side -/
theorem grown_blk {t : TypeId} {u8 : Bool} {es need : Nat} {cs : List AV} {vs : List Value} {ρ' : Rn} (hg : grown t u8 es need cs H = some (.v a H')) (hcs : VRs ρ' cs vs) (hlen : cs.length = need * es)
    (h1 : u8 = true → es = 1) : ∃ blk : AB, a = .G H.next 0 need es ∧ H' = H.new blk ∧ blk.ro = false ∧ blk.isDead = false ∧
      ∀ (cells : Array Value) (fz : Nat × Nat), cells.toList.take (need * es) = vs → need * es ≤ cells.size → loose fz cells.size → BR P ρ' cells.size blk (.cells cells t fz) := by
  have hvl := hcs.len
  unfold grown at hg
  cases hu : u8
  · rw [hu] at hg
    simp only [cond_false] at hg
    cases hall : cs.all one
    · rw [hall] at hg; cases hg
    rw [hall] at hg
    simp only [cond_true] at hg
    obtain ⟨rfl, rfl⟩ := ok_inj hg
    refine ⟨.g t cs, rfl, rfl, rfl, rfl, fun cells fz htake hle hlo => ⟨cells, fz, rfl, rfl, by omega, ?_, hlo⟩⟩
    rw [hlen, htake]; exact hcs
  · rw [hu] at hg
    simp only [cond_true] at hg
    split at hg
    · rename_i x hx
      have hes := h1 hu
      subst hes
      obtain ⟨rfl, rfl⟩ := ok_inj hg
      obtain ⟨m, hm, rfl, rfl⟩ := packB_spec hx hcs
      refine ⟨.y t need (enc m) true, rfl, rfl, rfl, rfl, fun cells fz htake hle hlo => ⟨cells, fz, m, rfl, rfl, by omega, (fun h => by cases h), by omega, rfl, ?_, hlo⟩⟩
      rw [← htake]; simp
    · cases hg

end
end Go.Fx

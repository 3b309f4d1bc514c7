/- FxJ: each operation: places, slices, strings. -/
import Derived.Test.YtaemikglijnihaaGreatDoorFxI
set_option linter.all false
namespace Go.Fx
variable {P : Program} {base : Nat}
section
variable {ρ : Rn} {tm : Tr AV} {H H' : Hp} {w : World} {f : Operand → Value} {o : Oper} {ao : AO} {a : AV}

theorem blt_ff {a b : Nat} (h : Nat.blt a b = false) : ¬ a < b := by
  intro hh
  have : Nat.blt a b = true := by simpa [Nat.blt_eq] using hh
  rw [this] at h; cases h
theorem addr_add (b off n : Nat) : (⟨b, off, none⟩ : Addr).add n = ⟨b, off + n, none⟩ := by unfold Addr.add; split <;> simp_all

theorem ex_fl {t : TypeId} {x : Operand} {i : Nat} (ho : o.op = .field t x i) (hc : cOp P o = some ao) (hx : aexec ao tm H = some (.v a H')) (he : EvR P ρ tm f) (hr : HR P base ρ H w) :
    Snd P base ρ H w (execOp f o) a H' := by
  simp only [cOp, ho] at hc
  split at hc
  · rename_i fs y hu hy
    split at hc
    · rename_i fd hfd
      split at hc
      · rename_i d n hd hn
        simp only [Option.some.injEq] at hc; subst hc
        simp only [aexec] at hx
        split at hx
        · rename_i cs hb
          have hv := he x y _ hy hb
          simp only [VR] at hv
          obtain ⟨vs, hv, hvs⟩ := hv
          cases hA : isAggD d
          · rw [hA] at hx
            simp only [cond_false] at hx
            split at hx
            · rename_i c hcc
              obtain ⟨rfl, rfl⟩ := ok_inj hx
              obtain ⟨v, h1, h2⟩ := hvs.get hcc
              refine Snd.same hr ?_ h2
              simp [execOp, ho, Instr.field, r_und hu, hfd, hv, asAgg, r_part hd hn, hA, h1]
            · cases hx
          · rw [hA] at hx
            simp only [cond_true] at hx
            split at hx
            · rename_i l hl
              obtain ⟨rfl, rfl⟩ := ok_inj hx
              obtain ⟨h1, h2⟩ := takeN_spec hl
              refine Snd.same (v := .agg (vs.toArray.extract fd.offset (fd.offset + n))) hr ?_ ?_
              · simp [execOp, ho, Instr.field, r_und hu, hfd, hv, asAgg, r_part hd hn, hA]
              · simp only [VR]
                refine ⟨(vs.drop fd.offset).take n, ?_, ?_⟩
                · simp [List.extract_eq_take_drop]
                · rw [h1]; exact VRs.take n (VRs.drop _ hvs)
            · cases hx
        · cases hx
      · cases hc
    · cases hc
  · cases hc

theorem ex_ia {t : TypeId} {x i : Operand} (ho : o.op = .indexAddr t x i) (hc : cOp P o = some ao) (hx : aexec ao tm H = some (.v a H')) (he : EvR P ρ tm f) (hr : HR P base ρ H w) :
    Snd P base ρ H w (execOp f o) a H' := by
  simp only [cOp, ho] at hc
  split at hc
  · rename_i n e y j hu hy hj
    cases hs : sizeT P e with
    | none => simp [hs] at hc
    | some s =>
      simp only [hs, Option.map_some, Option.some.injEq] at hc; subst hc
      simp only [aexec] at hx
      split at hx
      · rename_i id off m hb hm
        have hv := he x y _ hy hb
        obtain ⟨k, hk⟩ := evI_sound he hj hm
        simp only [VR] at hv
        obtain ⟨b, N, hρ, hv⟩ := hv
        cases hlt : Nat.blt m n
        · rw [hlt] at hx; cases hx
        · rw [hlt] at hx
          obtain ⟨rfl, rfl⟩ := ok_inj hx
          have hlt' : m < n := by simpa [Nat.blt_eq] using hlt
          refine Snd.same (v := .pointer (some ⟨b, off + m * s, none⟩)) hr ?_ (by simp only [VR]; exact ⟨b, N, hρ, rfl⟩)
          simp [execOp, ho, Instr.indexAt, asIntOf, hk, hv, r_und hu, Instr.sureAddr, hlt', r_size hs, addr_add]
      · cases hx
  · rename_i e y j hu hy hj
    cases hs : sizeT P e with
    | none => simp [hs] at hc
    | some s =>
      simp only [hs, Option.map_some, Option.some.injEq] at hc; subst hc
      simp only [aexec] at hx
      split at hx
      · rename_i id off len cap m hb hm
        have hv := he x y _ hy hb
        obtain ⟨k, hk⟩ := evI_sound he hj hm
        simp only [VR] at hv
        obtain ⟨b, N, hρ, hv⟩ := hv
        cases hlt : Nat.blt m len
        · rw [hlt] at hx; cases hx
        · rw [hlt] at hx
          obtain ⟨rfl, rfl⟩ := ok_inj hx
          have hlt' : m < len := by simpa [Nat.blt_eq] using hlt
          refine Snd.same (v := .pointer (some ⟨b, off + m * s, none⟩)) hr ?_ (by simp only [VR]; exact ⟨b, N, hρ, rfl⟩)
          simp [execOp, ho, Instr.indexAt, asIntOf, hk, hv, r_und hu, hlt', r_size hs, addr_add]
      · rename_i id off len es m hb hm
        have hv := he x y _ hy hb
        obtain ⟨k, hk⟩ := evI_sound he hj hm
        simp only [VR] at hv
        obtain ⟨b, N, c, hρ, hv, _⟩ := hv
        cases hlt : Nat.blt m len
        · rw [hlt] at hx; cases hx
        · rw [hlt] at hx
          obtain ⟨rfl, rfl⟩ := ok_inj hx
          have hlt' : m < len := by simpa [Nat.blt_eq] using hlt
          refine Snd.same (v := .pointer (some ⟨b, off + m * s, none⟩)) hr ?_ (by simp only [VR]; exact ⟨b, N, hρ, rfl⟩)
          simp [execOp, ho, Instr.indexAt, asIntOf, hk, hv, r_und hu, hlt', r_size hs, addr_add]
      · cases hx
  · cases hc

theorem str_get {s : ByteArray} {i : Nat} (h : i < s.data.toList.length) : s[i]? = some (s.data.toList[i]) := by
  have h' : i < s.size := by rw [Array.length_toList] at h; exact h
  rw [getElem?_pos s i h']
  congr 1

theorem ex_ix {t : TypeId} {x i : Operand} (ho : o.op = .index t x i) (hc : cOp P o = some ao) (hx : aexec ao tm H = some (.v a H')) (he : EvR P ρ tm f) (hr : HR P base ρ H w) :
    Snd P base ρ H w (execOp f o) a H' := by
  simp only [cOp, ho] at hc
  split at hc
  · rename_i n e y j hu hy hj
    split at hc
    · rename_i d s hd hs
      simp only [Option.some.injEq] at hc; subst hc
      simp only [aexec] at hx
      split at hx
      · rename_i cs m hb hm
        have hv := he x y _ hy hb
        obtain ⟨k, hk⟩ := evI_sound he hj hm
        simp only [VR] at hv
        obtain ⟨vs, hv, hvs⟩ := hv
        cases hlt : Nat.blt m n
        · rw [hlt] at hx; cases hx
        · rw [hlt] at hx
          simp only [cond_true] at hx
          have hlt' : m < n := by simpa [Nat.blt_eq] using hlt
          cases hA : isAggD d
          · rw [hA] at hx
            simp only [cond_false] at hx
            split at hx
            · rename_i c hcc
              obtain ⟨rfl, rfl⟩ := ok_inj hx
              obtain ⟨v, h1, h2⟩ := hvs.get hcc
              have h1' : vs[m * s]? = some v := h1
              refine Snd.same hr ?_ h2
              simp [execOp, ho, Instr.index, asIntOf, hk, hv, r_und hu, hlt', r_size hs, r_part hd hs, hA, h1']
            · cases hx
          · rw [hA] at hx
            simp only [cond_true] at hx
            split at hx
            · rename_i l hl
              obtain ⟨rfl, rfl⟩ := ok_inj hx
              obtain ⟨h1, h2⟩ := takeN_spec hl
              refine Snd.same (v := .agg (vs.toArray.extract (m * s) (m * s + s))) hr ?_ ?_
              · simp [execOp, ho, Instr.index, asIntOf, hk, hv, r_und hu, hlt', r_size hs, r_part hd hs, hA]
              · simp only [VR]
                refine ⟨(vs.drop (m * s)).take s, ?_, ?_⟩
                · simp [List.extract_eq_take_drop]
                · rw [h1]; exact VRs.take s (VRs.drop _ hvs)
            · cases hx
      · cases hx
    · cases hc
  · rename_i y j hu hy hj
    simp only [Option.some.injEq] at hc; subst hc
    simp only [aexec] at hx
    split at hx
    · rename_i n z m hb hm
      have hv := he x y _ hy hb
      obtain ⟨k, hk⟩ := evI_sound he hj hm
      simp only [VR] at hv
      obtain ⟨s, hv, hl, rfl⟩ := hv
      cases hlt : Nat.blt m n
      · rw [hlt] at hx; cases hx
      · rw [hlt] at hx
        obtain ⟨rfl, rfl⟩ := ok_inj hx
        have hlt' : m < s.data.toList.length := by rw [hl]; simpa [Nat.blt_eq] using hlt
        refine Snd.same (v := .int .u8 (s.data.toList[m]).toNat) hr ?_ (by simp only [VR, byteAt_spec hlt']; rfl)
        simp only [execOp, ho, Instr.index, Sem.run_bind, hk, hv, asIntOf, Sem.run_pure, Result.andThen_ok, r_und hu]
        have h0 : (0 : Int) ≤ (m : Int) := Int.natCast_nonneg m
        show (Sem.run P (match if (0 : Int) ≤ (m : Int) then s[(m : Int).toNat]? else none with | some b => pure (Value.int IntKind.u8 b.toNat) | none => boundsPanic k m s.size .index) w).andThen _ = _
        rw [if_pos h0, Int.toNat_natCast, str_get hlt']
        rfl
    · cases hx
  · cases hc

theorem args1 {c : Call} {x : Operand} (h : c.args.toList = [x]) : c.args = #[x] := by rw [← Array.toArray_toList (xs := c.args), h]
theorem args2 {c : Call} {x y : Operand} (h : c.args.toList = [x, y]) : c.args = #[x, y] := by rw [← Array.toArray_toList (xs := c.args), h]
theorem cOpds1 {xs : List Operand} {y : Opd} (h : cOpds P xs = some [y]) : ∃ x, xs = [x] ∧ cOpd P x = some y := by
  cases xs with
  | nil => simp [cOpds] at h
  | cons x r =>
    simp only [cOpds] at h
    split at h
    · rename_i a ha
      split at h
      · rename_i l hl
        simp only [Option.some.injEq, List.cons.injEq] at h
        obtain ⟨rfl, rfl⟩ := h
        cases r with
        | nil => exact ⟨x, rfl, ha⟩
        | cons z r =>
          simp only [cOpds] at hl
          split at hl
          · split at hl
            · simp at hl
            · cases hl
          · cases hl
      · cases h
    · cases h
theorem cOpds2 {xs : List Operand} {y z : Opd} (h : cOpds P xs = some [y, z]) : ∃ x u, xs = [x, u] ∧ cOpd P x = some y ∧ cOpd P u = some z := by
  cases xs with
  | nil => simp [cOpds] at h
  | cons x r =>
    simp only [cOpds] at h
    split at h
    · rename_i a ha
      split at h
      · rename_i l hl
        simp only [Option.some.injEq, List.cons.injEq] at h
        obtain ⟨rfl, rfl⟩ := h
        obtain ⟨u, rfl, hu⟩ := cOpds1 hl
        exact ⟨x, u, rfl, ha, hu⟩
      · cases h
    · cases h

theorem ex_lnS {c : Call} {t : TypeId} {x : Operand} (ho : o.op = .call c) (hcal : c.callee = .builtin .len) (hargs : c.args.toList = [x]) (ht : c.argTypes[0]? = some t)
    (hu : P.underlying t = some .string) {y : Opd} (hy : cOpd P x = some y) (hx : aexec (.ln true y) tm H = some (.v a H')) (he : EvR P ρ tm f) (hr : HR P base ρ H w) :
    Snd P base ρ H w (execOp f o) a H' := by
  simp only [aexec] at hx
  have ha := args1 hargs
  split at hx
  · rename_i n z _ hb
    obtain ⟨rfl, rfl⟩ := ok_inj hx
    have hv := he x y _ hy hb
    simp only [VR] at hv
    obtain ⟨s, hv, hl, _⟩ := hv
    have hsz : s.size = n := by rw [← hl, Array.length_toList]; rfl
    refine Snd.same (v := .int .i64 n) hr ?_ (by simp only [VR]; rfl)
    simp [execOp, ho, resolve, hcal, ha, hv, invoke, builtin, Builtin.len_, ht, r_und hu, goInt, hsz]
  all_goals first | (rename_i h _; cases h) | cases hx
theorem ex_lnL {c : Call} {t e : TypeId} {x : Operand} (ho : o.op = .call c) (hcal : c.callee = .builtin .len) (hargs : c.args.toList = [x]) (ht : c.argTypes[0]? = some t)
    (hu : P.underlying t = some (.slice e)) {y : Opd} (hy : cOpd P x = some y) (hx : aexec (.ln false y) tm H = some (.v a H')) (he : EvR P ρ tm f) (hr : HR P base ρ H w) :
    Snd P base ρ H w (execOp f o) a H' := by
  simp only [aexec] at hx
  have ha := args1 hargs
  split at hx
  · rename_i h _; cases h
  · rename_i id off n cap _ hb
    obtain ⟨rfl, rfl⟩ := ok_inj hx
    have hv := he x y _ hy hb
    simp only [VR] at hv
    obtain ⟨b, N, _, hv⟩ := hv
    refine Snd.same (v := .int .i64 n) hr ?_ (by simp only [VR]; rfl)
    simp [execOp, ho, resolve, hcal, ha, hv, invoke, builtin, Builtin.len_, ht, r_und hu, goInt]
  · rename_i id off n cap _ hb
    obtain ⟨rfl, rfl⟩ := ok_inj hx
    have hv := he x y _ hy hb
    simp only [VR] at hv
    obtain ⟨b, N, cc, _, hv, _⟩ := hv
    refine Snd.same (v := .int .i64 n) hr ?_ (by simp only [VR]; rfl)
    simp [execOp, ho, resolve, hcal, ha, hv, invoke, builtin, Builtin.len_, ht, r_und hu, goInt]
  · rename_i _ hb
    obtain ⟨rfl, rfl⟩ := ok_inj hx
    have hv := he x y _ hy hb
    simp only [VR] at hv
    refine Snd.same (v := .int .i64 0) hr ?_ (by simp [VR])
    simp [execOp, ho, resolve, hcal, ha, hv, invoke, builtin, Builtin.len_, ht, r_und hu, goInt]
  · cases hx

theorem minI_sound (w : World) : ∀ {l : List AV} {a b : AV} {vs : List Value} {v : Value}, minI a l = some b → VR ρ a v → VRs ρ l vs → ∃ u, (vs.foldlM Builtin.min2 v : Sem Value).run P w = .ok u w ∧ VR ρ b u
  | [], a, b, vs, v, h, hv, hvs => by
    simp only [VRs] at hvs; subst hvs
    simp only [minI, Option.some.injEq] at h; subst h
    exact ⟨v, rfl, hv⟩
  | c :: l, a, b, vs, v, h, hv, hvs => by
    simp only [VRs] at hvs
    obtain ⟨u, r, rfl, h1, h2⟩ := hvs
    cases a <;> cases c <;> simp only [minI, reduceCtorEq] at h
    rename_i k x k' y
    simp only [VR] at hv h1; subst hv; subst h1
    obtain ⟨z, h3, h4⟩ := minI_sound w h (v := .int k (bif fltI y x then y else x)) (by simp [VR]) h2
    refine ⟨z, ?_, h4⟩
    have e : (bif fltI y x then y else x) = if y < x then y else x := by
      rw [fltI_eq]; by_cases hh : y < x <;> simp [hh]
    rw [e] at h3
    simp only [List.foldlM_cons, Builtin.min2, Sem.run_bind, Sem.run_pure, Result.andThen_ok]
    exact h3
theorem maxI_sound (w : World) : ∀ {l : List AV} {a b : AV} {vs : List Value} {v : Value}, maxI a l = some b → VR ρ a v → VRs ρ l vs → ∃ u, (vs.foldlM Builtin.max2 v : Sem Value).run P w = .ok u w ∧ VR ρ b u
  | [], a, b, vs, v, h, hv, hvs => by
    simp only [VRs] at hvs; subst hvs
    simp only [maxI, Option.some.injEq] at h; subst h
    exact ⟨v, rfl, hv⟩
  | c :: l, a, b, vs, v, h, hv, hvs => by
    simp only [VRs] at hvs
    obtain ⟨u, r, rfl, h1, h2⟩ := hvs
    cases a <;> cases c <;> simp only [maxI, reduceCtorEq] at h
    rename_i k x k' y
    simp only [VR] at hv h1; subst hv; subst h1
    obtain ⟨z, h3, h4⟩ := maxI_sound w h (v := .int k (bif fltI x y then y else x)) (by simp [VR]) h2
    refine ⟨z, ?_, h4⟩
    have e : (bif fltI x y then y else x) = if y > x then y else x := by
      rw [fltI_eq]; by_cases hh : x < y <;> simp [hh]
    rw [e] at h3
    simp only [List.foldlM_cons, Builtin.max2, Sem.run_bind, Sem.run_pure, Result.andThen_ok]
    exact h3

theorem ex_mn {c : Call} (ho : o.op = .call c) (hcal : c.callee = .builtin .min) {ys : List Opd} (hy : cOpds P c.args.toList = some ys) (hx : aexec (.mn ys) tm H = some (.v a H')) (he : EvR P ρ tm f) (hr : HR P base ρ H w) :
    Snd P base ρ H w (execOp f o) a H' := by
  simp only [aexec] at hx
  split at hx
  · rename_i b l hb
    split at hx
    · rename_i v hv
      obtain ⟨rfl, rfl⟩ := ok_inj hx
      have hvs := evs_sound he hy hb
      simp only [VRs] at hvs
      obtain ⟨u, r, hl, h1, h2⟩ := hvs
      obtain ⟨z, h3, h4⟩ := minI_sound (P := P) w hv h1 h2
      refine Snd.same hr ?_ h4
      have e : (c.args.map f).toList = u :: r := by simpa using hl
      simp only [execOp, ho, Sem.run_bind, resolve, hcal, Sem.run_pure, Result.andThen_ok, invoke, builtin, Builtin.min_, e, h3]
    · cases hx
  · cases hx
theorem ex_mx {c : Call} (ho : o.op = .call c) (hcal : c.callee = .builtin .max) {ys : List Opd} (hy : cOpds P c.args.toList = some ys) (hx : aexec (.mx ys) tm H = some (.v a H')) (he : EvR P ρ tm f) (hr : HR P base ρ H w) :
    Snd P base ρ H w (execOp f o) a H' := by
  simp only [aexec] at hx
  split at hx
  · rename_i b l hb
    split at hx
    · rename_i v hv
      obtain ⟨rfl, rfl⟩ := ok_inj hx
      have hvs := evs_sound he hy hb
      simp only [VRs] at hvs
      obtain ⟨u, r, hl, h1, h2⟩ := hvs
      obtain ⟨z, h3, h4⟩ := maxI_sound (P := P) w hv h1 h2
      refine Snd.same hr ?_ h4
      have e : (c.args.map f).toList = u :: r := by simpa using hl
      simp only [execOp, ho, Sem.run_bind, resolve, hcal, Sem.run_pure, Result.andThen_ok, invoke, builtin, Builtin.max_, e, h3]
    · cases hx
  · cases hx

theorem ex_rs {t : TypeId} {x : Operand} (ho : o.op = .range t x) (hu : P.underlying t = some .string) {y : Opd} (hy : cOpd P x = some y) (hx : aexec (.rs y) tm H = some (.v a H')) (he : EvR P ρ tm f) (hr : HR P base ρ H w) :
    Snd P base ρ H w (execOp f o) a H' := by
  simp only [aexec] at hx
  split at hx
  · rename_i n z hb
    obtain ⟨rfl, rfl⟩ := ok_inj hx
    have hv := he x y _ hy hb
    simp only [VR] at hv
    obtain ⟨s, hv, h1, h2⟩ := hv
    refine ⟨.value (.pointer (some ⟨w.heap.size, 0, none⟩)), w.alloc (.stringIter s 0), _, ?_, .inl ⟨_, rfl, ?_⟩, hr.alloc (.si n z 0) (.stringIter s 0) 0 _ rfl rfl rfl rfl ⟨s, rfl, h1, h2⟩⟩
    · simp [execOp, ho, Instr.range, r_und hu, hv]
    · simp only [VR]; exact ⟨_, _, Rn.upd_same _ _ _, rfl⟩
  · cases hx

theorem ex_nx {x : Operand} (ho : o.op = .next x true) {y : Opd} (hy : cOpd P x = some y) (hx : aexec (.nx y) tm H = some (.v a H')) (he : EvR P ρ tm f) (hr : HR P base ρ H w) :
    Snd P base ρ H w (execOp f o) a H' := by
  simp only [aexec] at hx
  split at hx
  · rename_i id hb
    have hv := he x y _ hy hb
    simp only [VR] at hv
    obtain ⟨b, N, hρ, hv⟩ := hv
    split at hx
    · rename_i n z pos hg
      obtain ⟨o1, ho1, hbr, _⟩ := hr.blk id _ hg rfl b N hρ
      obtain ⟨s, rfl, hl, rfl⟩ := hbr
      have hsz : s.size = n := by rw [← hl, Array.length_toList]; rfl
      have hget : (getObj b).run P w = .ok (.stringIter s pos) w := by simp [getObj, Sem.run, ho1]
      cases hlt : Nat.blt pos n
      · rw [hlt] at hx
        simp only [cond_false] at hx
        obtain ⟨rfl, rfl⟩ := ok_inj hx
        have hlt' : ¬ pos < s.size := by rw [hsz]; exact blt_ff hlt
        refine Snd.same (v := .tuple #[.bool false]) hr ?_ (by simp only [VR]; exact ⟨[.bool false], rfl, VRs.cons (by simp [VR]) VRs.nil⟩)
        simp [execOp, ho, Instr.next, hv, hget, hlt']
      · rw [hlt] at hx
        simp only [cond_true] at hx
        have hlt' : pos < s.size := by rw [hsz]; simpa [Nat.blt_eq] using hlt
        have hltl : pos < s.data.toList.length := by rw [Array.length_toList]; exact hlt'
        rw [byteAt_spec hltl] at hx
        cases h128 : Nat.blt (s.data.toList[pos]).toNat 128
        · rw [h128] at hx; cases hx
        · rw [h128] at hx
          simp only [cond_true] at hx
          obtain ⟨rfl, rfl⟩ := ok_inj hx
          have h128' : (s.data.toList[pos]).toNat < 128 := by simpa [Nat.blt_eq] using h128
          have hg! : (s.get! pos) = s.data.toList[pos] := by
            show s.data[pos]! = _
            have : pos < s.data.size := hlt'
            rw [getElem!_pos s.data pos this]; simp
          have hdec : Utf8.decode s pos = ((s.data.toList[pos]).toNat, 1) := by
            unfold Utf8.decode
            simp only [Nat.add_zero, hg!]
            rw [if_pos (by omega)]
          have hset : (setObj b (.stringIter s (pos + 1))).run P w = .ok () { w with heap := w.heap.setIfInBounds b (.stringIter s (pos + 1)) } := by simp [setObj, Sem.run, ho1]
          have hbs : b < w.heap.size := hr.rng id b N hρ
          refine ⟨.value (.tuple #[.bool true, .int .i64 pos, .int .i32 (s.data.toList[pos]).toNat]), _, ρ, ?_, .inl ⟨_, rfl, ?_⟩,
            hr.obj hg rfl hρ rfl { w with heap := w.heap.setIfInBounds b (.stringIter s (pos + 1)) } (.stringIter s (pos + 1)) (by simp [hbs]) ⟨s, rfl, hl, rfl⟩ (by simp) (fun k hk => by simp [Ne.symm hk]) rfl rfl rfl⟩
          · simp [execOp, ho, Instr.next, hv, hget, hlt', hdec, hset, goInt]
          · simp only [VR]
            exact ⟨_, rfl, VRs.cons (by simp [VR]) (VRs.cons (by simp only [VR]; rfl) (VRs.cons (by simp only [VR]; rfl) VRs.nil))⟩
    · cases hx
  · cases hx


/-! slices -/
theorem optN_sound (he : EvR P ρ tm f) {x : Option Operand} {y : Option Opd} (hc : cOpt P x = some y) {d n : Nat} (h : optN tm d y = some n) :
    (x = none ∧ y = none ∧ n = d) ∨ ∃ z k, x = some z ∧ f z = .int k n := by
  cases x with
  | none =>
    simp only [cOpt, Option.some.injEq] at hc; subst hc
    simp only [optN, Option.some.injEq] at h
    exact .inl ⟨rfl, rfl, h.symm⟩
  | some z =>
    simp only [cOpt] at hc
    split at hc
    · rename_i u hu
      simp only [Option.some.injEq] at hc; subst hc
      obtain ⟨k, hk⟩ := evI_sound he hu h
      exact .inr ⟨z, k, rfl, hk⟩
    · cases hc

theorem bound_run (k : IntKind) (n y : Nat) (code : BoundsCode) (h : n ≤ y) (w : World) : (Instr.sliceBound (.int k n) y code).run P w = .ok n w := by
  have h' : (0 : Int) ≤ (n : Int) ∧ (n : Int) ≤ (y : Int) := ⟨Int.natCast_nonneg n, by omega⟩
  simp only [Instr.sliceBound, asIntOf, Sem.run_bind, Sem.run_pure, Result.andThen_ok]
  rw [if_pos h']
  simp

theorem bounds_run (he : EvR P ρ tm f) (isS : Bool) {len cap l h m : Nat} {lo hi mx : Option Operand} {lo' hi' mx' : Option Opd} (c1 : cOpt P lo = some lo') (c2 : cOpt P hi = some hi') (c3 : cOpt P mx = some mx')
    (e1 : optN tm 0 lo' = some l) (e2 : optN tm len hi' = some h) (e3 : optN tm cap mx' = some m) (h1 : l ≤ h) (h2 : h ≤ m) (h3 : m ≤ cap) (hmx : mx = none ∨ ∃ z, hi = some z) (w : World) :
    (Instr.sliceBounds isS len cap (lo.map f) (hi.map f) (mx.map f)).run P w = .ok (l, h, m) w := by
  have k1 := optN_sound he c1 e1
  have k2 := optN_sound he c2 e2
  have k3 := optN_sound he c3 e3
  unfold Instr.sliceBounds
  rcases k3 with ⟨rfl, rfl, rfl⟩ | ⟨z3, j3, rfl, hz3⟩
  · rcases k2 with ⟨rfl, rfl, rfl⟩ | ⟨z2, j2, rfl, hz2⟩
    · rcases k1 with ⟨rfl, rfl, rfl⟩ | ⟨z1, j1, rfl, hz1⟩
      · simp
      · simp [hz1, bound_run j1 l h _ h1]
    · rcases k1 with ⟨rfl, rfl, rfl⟩ | ⟨z1, j1, rfl, hz1⟩
      · simp [hz2, bound_run j2 h m _ h2]
      · simp [hz2, hz1, bound_run j2 h m _ h2, bound_run j1 l h _ h1]
  · rcases k2 with ⟨rfl, rfl, rfl⟩ | ⟨z2, j2, rfl, hz2⟩
    · rcases hmx with h | ⟨z, h⟩ <;> cases h
    · rcases k1 with ⟨rfl, rfl, rfl⟩ | ⟨z1, j1, rfl, hz1⟩
      · simp [hz3, hz2, bound_run j3 m cap _ h3, bound_run j2 h m _ h2]
      · simp [hz3, hz2, hz1, bound_run j3 m cap _ h3, bound_run j2 h m _ h2, bound_run j1 l h _ h1]

theorem and_ble {a b c d e g : Nat} (h : (Nat.ble a b && (Nat.ble c d && Nat.ble e g)) = true) : a ≤ b ∧ c ≤ d ∧ e ≤ g := by
  simp only [Bool.and_eq_true] at h
  exact ⟨Nat.le_of_ble_eq_true h.1, Nat.le_of_ble_eq_true h.2.1, Nat.le_of_ble_eq_true h.2.2⟩

theorem ext_data (s : ByteArray) (a b : Nat) : (s.extract a b).data.toList = (s.data.toList.drop a).take (b - a) := by
  simp [ByteArray.data_extract, List.extract_eq_take_drop]

theorem ex_ss {t : TypeId} {x : Operand} {lo hi : Option Operand} (ho : o.op = .slice t x lo hi none) (hu : P.underlying t = some .string) {y : Opd} {lo' hi' : Option Opd} (hy : cOpd P x = some y) (c1 : cOpt P lo = some lo') (c2 : cOpt P hi = some hi')
    (hx : aexec (.ss y lo' hi') tm H = some (.v a H')) (he : EvR P ρ tm f) (hr : HR P base ρ H w) : Snd P base ρ H w (execOp f o) a H' := by
  simp only [aexec] at hx
  split at hx
  · rename_i n z hb
    have hv := he x y _ hy hb
    simp only [VR] at hv
    obtain ⟨s, hv, hl, rfl⟩ := hv
    have hsz : s.size = n := by rw [← hl, Array.length_toList]; rfl
    split at hx
    · rename_i l h e1 e2
      cases hle : (Nat.ble l h && Nat.ble h n)
      · rw [hle] at hx; cases hx
      · rw [hle] at hx
        simp only [cond_true] at hx
        obtain ⟨rfl, rfl⟩ := ok_inj hx
        simp only [Bool.and_eq_true] at hle
        have h1 : l ≤ h := Nat.le_of_ble_eq_true hle.1
        have h2 : h ≤ n := Nat.le_of_ble_eq_true hle.2
        have hb := bounds_run (mx := none) (mx' := none) he false c1 c2 rfl e1 e2 (m := n) (cap := n) rfl h1 h2 (Nat.le_refl _) (.inl rfl) w
        refine Snd.same (v := .string (s.extract l h)) hr ?_ ?_
        · simp only [Option.map_none] at hb
          simp [execOp, ho, Instr.sliceAt, r_und hu, Instr.slice, hv, hsz, hb]
        · simp only [VR]
          refine ⟨_, rfl, ?_, ?_⟩
          · rw [ext_data]; simp only [List.length_take, List.length_drop]; simp only [Nat.sub_eq]; omega
          · rw [ext_data, cutN_spec]; rfl
    · cases hx
  · cases hx

theorem slice_L {b N id off l h m s : Nat} (hρ : ρ id = some (b, N)) : VR ρ (.L id (bif Nat.beq m l then off else Nat.add off (Nat.mul l s)) (Nat.sub h l) (Nat.sub m l))
    (.slice (if m = l then some (⟨b, off, none⟩ : Addr) else Option.map (fun (x : Addr) => x.add (l * s)) (some (⟨b, off, none⟩ : Addr))) (h - l) (m - l)) := by
  simp only [VR]
  refine ⟨b, N, hρ, ?_⟩
  by_cases e : m = l
  · subst e; simp
  · have hb : Nat.beq m l = false := by
      cases hh : Nat.beq m l
      · rfl
      · exact absurd (Nat.eq_of_beq_eq_true hh) e
    rw [hb, if_neg e]
    simp [addr_add]


/-- a slice cut out of a slice, or of an array behind a pointer: both go by this -/
theorem doSlice_sound (he : EvR P ρ tm f) {es : Nat} {x : AV} {lo hi mx : Option Operand} {lo' hi' mx' : Option Opd} (c1 : cOpt P lo = some lo') (c2 : cOpt P hi = some hi') (c3 : cOpt P mx = some mx')
    (hx : doSlice es x tm lo' hi' mx' H = some (.v a H')) {p : Option Addr} {len cap : Nat} (hv : VR ρ x (.slice p len cap)) (hmx : mx = none ∨ ∃ z, hi = some z) (isS : Bool) (w : World) :
    H' = H ∧ ∃ l h m, (Instr.sliceBounds isS len cap (lo.map f) (hi.map f) (mx.map f)).run P w = .ok (l, h, m) w ∧
      VR ρ a (.slice (if m = l then p else p.map (fun (x : Addr) => x.add (l * es))) (h - l) (m - l)) := by
  unfold doSlice at hx
  split at hx
  · -- nil
    simp only [VR, Value.slice.injEq] at hv
    obtain ⟨rfl, rfl, rfl⟩ := hv
    split at hx
    · rename_i e1 e2 e3
      obtain ⟨rfl, rfl⟩ := ok_inj hx
      refine ⟨rfl, 0, 0, 0, bounds_run he isS c1 c2 c3 e1 e2 e3 (Nat.le_refl _) (Nat.le_refl _) (Nat.le_refl _) hmx w, ?_⟩
      simp [VR]
    · cases hx
  · rename_i id off len' cap'
    simp only [VR, Value.slice.injEq] at hv
    obtain ⟨b, N, hρ, rfl, rfl, rfl⟩ := hv
    split at hx
    · rename_i l h m e1 e2 e3
      cases hle : (Nat.ble l h && (Nat.ble h m && Nat.ble m cap))
      · rw [hle] at hx; cases hx
      · rw [hle] at hx
        obtain ⟨rfl, rfl⟩ := ok_inj hx
        obtain ⟨h1, h2, h3⟩ := and_ble hle
        exact ⟨rfl, l, h, m, bounds_run he isS c1 c2 c3 e1 e2 e3 h1 h2 h3 hmx w, slice_L hρ⟩
    · cases hx
  · rename_i id off len' es'
    simp only [VR, Value.slice.injEq] at hv
    obtain ⟨b, N, c, hρ, ⟨rfl, rfl, rfl⟩, hlc, hN⟩ := hv
    split at hx
    · rename_i mo
      split at hx
      · rename_i l h m e1 e2 e3
        cases hle : (Nat.ble l h && (Nat.ble h m && Nat.ble m len))
        · rw [hle] at hx; cases hx
        · rw [hle] at hx
          obtain ⟨rfl, rfl⟩ := ok_inj hx
          obtain ⟨h1, h2, h3⟩ := and_ble hle
          exact ⟨rfl, l, h, m, bounds_run he isS c1 c2 c3 e1 e2 (show optN tm cap (some mo) = some m from e3) h1 h2 (by omega) hmx w, slice_L hρ⟩
      · cases hx
    · split at hx
      · rename_i l h e1 e2
        cases hq : (Nat.beq es es' && (Nat.ble l h && (Nat.ble h len && (Nat.blt l len || Nat.beq l 0))))
        · rw [hq] at hx; cases hx
        · rw [hq] at hx
          simp only [Bool.and_eq_true, Bool.or_eq_true] at hq
          obtain ⟨q1, q2, q3, q4⟩ := hq
          obtain rfl : es = es' := Nat.eq_of_beq_eq_true q1
          have h1 := Nat.le_of_ble_eq_true q2
          have h2 := Nat.le_of_ble_eq_true q3
          obtain ⟨rfl, rfl⟩ := ok_inj hx
          have hmxn : mx = none := by
            cases mx with
            | none => rfl
            | some z => simp only [cOpt] at c3; split at c3 <;> cases c3
          refine ⟨rfl, l, h, cap, bounds_run he isS c1 c2 c3 e1 e2 (by simp [optN]) h1 (by omega) (Nat.le_refl _) hmx w, ?_⟩
          simp only [VR]
          refine ⟨b, N, cap - l, hρ, ?_, by simp only [Nat.sub_eq]; omega, ?_⟩
          · rcases q4 with q4 | q4
            · have hl : l < len := by simpa [Nat.blt_eq] using q4
              rw [if_neg (by omega)]
              simp [addr_add]
            · have hl : l = 0 := Nat.eq_of_beq_eq_true q4
              subst hl
              by_cases hc : cap = 0
              · rw [if_pos hc]; simp
              · rw [if_neg hc]; simp [addr_add]
          · have : l * es + (cap - l) * es = cap * es := by rw [← Nat.add_mul]; congr 1; omega
            show off + l * es + (cap - l) * es ≤ N
            omega
      · cases hx
  · cases hx

theorem vr_slice {es : Nat} {lo' hi' mx' : Option Opd} {x : AV} {v : Value} (hx : doSlice es x tm lo' hi' mx' H = some (.v a H')) (h : VR ρ x v) : ∃ p n c, v = .slice p n c := by
  unfold doSlice at hx
  cases x <;> first
    | (cases hx; done)
    | (simp only [VR] at h; exact ⟨_, _, _, h⟩)
    | (simp only [VR] at h; obtain ⟨_, _, _, h⟩ := h; exact ⟨_, _, _, h⟩)
    | (simp only [VR] at h; obtain ⟨_, _, _, _, h, _⟩ := h; exact ⟨_, _, _, h⟩)

theorem ex_sl {t e : TypeId} {x : Operand} {lo hi mx : Option Operand} (ho : o.op = .slice t x lo hi mx) (hu : P.underlying t = some (.slice e)) {s : Nat} (hs : sizeT P e = some s) {y : Opd} {lo' hi' mx' : Option Opd} (hy : cOpd P x = some y)
    (c1 : cOpt P lo = some lo') (c2 : cOpt P hi = some hi') (c3 : cOpt P mx = some mx') (hmx : mx = none ∨ ∃ z, hi = some z)
    (hx : aexec (.sl s y lo' hi' mx') tm H = some (.v a H')) (he : EvR P ρ tm f) (hr : HR P base ρ H w) : Snd P base ρ H w (execOp f o) a H' := by
  simp only [aexec] at hx
  split at hx
  · rename_i b hb
    have hv := he x y _ hy hb
    obtain ⟨p, n, c, hfx⟩ := vr_slice hx hv
    rw [hfx] at hv
    obtain ⟨rfl, l, h, m, h1, h2⟩ := doSlice_sound he c1 c2 c3 hx hv hmx true w
    refine Snd.same hr ?_ h2
    simp [execOp, ho, Instr.sliceAt, r_und hu, Instr.slice, hfx, h1, r_size hs]
  · cases hx

theorem ex_sa {t e : TypeId} {n : Nat} {x : Operand} {lo hi mx : Option Operand} (ho : o.op = .slice t x lo hi mx) (hu : P.underlying t = some (.array n e)) {s : Nat} (hs : sizeT P e = some s) {y : Opd} {lo' hi' mx' : Option Opd} (hy : cOpd P x = some y)
    (c1 : cOpt P lo = some lo') (c2 : cOpt P hi = some hi') (c3 : cOpt P mx = some mx') (hmx : mx = none ∨ ∃ z, hi = some z)
    (hx : aexec (.sa n s y lo' hi' mx') tm H = some (.v a H')) (he : EvR P ρ tm f) (hr : HR P base ρ H w) : Snd P base ρ H w (execOp f o) a H' := by
  simp only [aexec] at hx
  split at hx
  · rename_i id off hb
    have hv := he x y _ hy hb
    simp only [VR] at hv
    obtain ⟨b, N, hρ, hfx⟩ := hv
    obtain ⟨rfl, l, h, m, h1, h2⟩ := doSlice_sound he c1 c2 c3 hx (p := some ⟨b, off, none⟩) (len := n) (cap := n) (by simp only [VR]; exact ⟨b, N, hρ, rfl⟩) hmx false w
    refine Snd.same (v := .slice (if m = l then some (⟨b, off, none⟩ : Addr) else (some (⟨b, off, none⟩ : Addr)).map (fun (x : Addr) => x.add (l * s))) (h - l) (m - l)) hr ?_ h2
    simp [execOp, ho, Instr.sliceAt, r_und hu, hfx, Instr.sureAddr, h1, r_size hs]
    split <;> rfl
  · cases hx

end
end Go.Fx

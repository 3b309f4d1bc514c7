/- FxI: comparisons. -/
import Derived.Test.YtaemikglijnihaaGreatDoorFxH
set_option linter.all false
namespace Go.Fx
variable {P : Program} {base : Nat}
section
variable {ρ : Rn} {tm : Tr AV} {H H' : Hp} {w : World} {f : Operand → Value} {o : Oper} {ao : AO} {a : AV}

theorem r_part {t : TypeId} {d : TypeDesc} {s : Nat} (hd : P.underlying t = some d) (hs : sizeT P t = some s) (cs : Array Value) (off : Nat) (w : World) :
    (part t cs off).run P w = if isAggD d then .ok (.agg (cs.extract off (off + s))) w else match cs[off]? with | some v => .ok v w | none => .halt (.stuck "part: no such cell") w := by
  simp only [part, Sem.run_bind, r_agg hd, Result.andThen_ok]
  cases isAggD d
  · simp; cases cs[off]? <;> rfl
  · simp [r_size hs]

theorem eqPos_append {l m : List (Nat × Nat)} {xs ys : List AV} : eqPos (l ++ m) xs ys = match eqPos l xs ys with
    | some true => eqPos m xs ys
    | x => x := by
  induction l with
  | nil => simp [eqPos]
  | cons p l ih =>
    obtain ⟨i, k⟩ := p
    simp only [List.cons_append, eqPos]
    split
    · split
      · exact ih
      · rfl
      · rfl
    · rfl

def EqOk (P : Program) (ρ : Rn) (d : Nat) (t : TypeId) (off : Nat) (L : List (Nat × Nat)) : Prop :=
  ∀ (axs ays : List AV) (xs ys : Array Value) (r : Bool) (e : Nat) (w : World), VRs ρ axs xs.toList → VRs ρ ays ys.toList → eqPos L axs ays = some r →
    ∀ dd s, P.underlying t = some dd → sizeT P t = some s →
      (isAggD dd = true → ∀ xs' ys' : Array Value, (∀ j, j < s → xs'[j]? = xs[off + j]?) → (∀ j, j < s → ys'[j]? = ys[off + j]?) → (Op.equalIn (d + e) t (.agg xs') (.agg ys')).run P w = .ok r w) ∧
      (isAggD dd = false → ∃ x y, xs[off]? = some x ∧ ys[off]? = some y ∧ (Op.equalIn (d + e) t x y).run P w = .ok r w)

theorem leaf_ok {d : Nat} {t : TypeId} {dd : TypeDesc} {off k : Nat} (hd : P.underlying t = some dd) (hk : (dd = .bool ∧ k = 0) ∨ (∃ j, dd = .int j ∧ k = 1) ∨ (dd = .string ∧ k = 2)) :
    EqOk P ρ (d + 1) t off [(off, k)] := by
  intro axs ays xs ys r e w hx hy h dd' s hd' hs
  rw [hd] at hd'; cases hd'
  have hagg : isAggD dd = false := by rcases hk with ⟨rfl, _⟩ | ⟨j, rfl, _⟩ | ⟨rfl, _⟩ <;> rfl
  refine ⟨(fun h => by rw [hagg] at h; cases h), fun _ => ?_⟩
  simp only [eqPos] at h
  split at h
  · rename_i a b ha hb
    obtain ⟨v, hv1, hv2⟩ := hx.get ha
    obtain ⟨u, hu1, hu2⟩ := hy.get hb
    refine ⟨v, u, by simpa using hv1, by simpa using hu1, ?_⟩
    have hr : eqLeaf k a b = some r := by
      split at h
      · rename_i hl; simp only [Option.some.injEq] at h; rw [hl, h]
      · rename_i hl; simp only [Option.some.injEq] at h; rw [hl, h]
      · cases h
    rw [show d + 1 + e = (d + e) + 1 from by omega]
    unfold eqLeaf at hr
    split at hr
    · rename_i j m j' n
      simp only [VR] at hv2 hu2; subst hv2; subst hu2
      rcases hk with ⟨rfl, rfl⟩ | ⟨j0, rfl, rfl⟩ | ⟨rfl, rfl⟩
      · cases hr
      · by_cases hj : j = j'
        · subst hj
          simp only [Nat.beq_refl, decide_true, Bool.and_self, cond_true, Option.some.injEq] at hr
          rw [run_equalIn_int w _ t j j0 m n hd, ← hr, feqI_eq]
        · simp [hj] at hr
      · cases hr
    · rename_i m n
      simp only [VR] at hv2 hu2; subst hv2; subst hu2
      rcases hk with ⟨rfl, rfl⟩ | ⟨j0, rfl, rfl⟩ | ⟨rfl, rfl⟩
      · simp only [Nat.beq_refl, cond_true, Option.some.injEq] at hr
        rw [run_equalIn_bool' w _ t m n hd, ← hr]
      · cases hr
      · cases hr
    · rename_i n x m y
      simp only [VR] at hv2 hu2
      obtain ⟨s1, rfl, rfl, rfl⟩ := hv2
      obtain ⟨s2, rfl, rfl, rfl⟩ := hu2
      rcases hk with ⟨rfl, rfl⟩ | ⟨j0, rfl, rfl⟩ | ⟨rfl, rfl⟩
      · cases hr
      · cases hr
      · simp only [Nat.beq_refl, cond_true, Option.some.injEq] at hr
        rw [run_equalIn_string w _ t s1 s2 hd, ← hr, str_eq]
    · cases hr
  · cases h

theorem fields_ok {d : Nat} (ih : ∀ t off L, leaves P d t off = some L → EqOk P ρ d t off L) {off m : Nat} : ∀ {fs : List Field} {L : List (Nat × Nat)}, fieldsL P (leaves P d) off m fs = some L →
    ∀ (axs ays : List AV) (xs ys : Array Value) (r : Bool) (e : Nat) (w : World), VRs ρ axs xs.toList → VRs ρ ays ys.toList → eqPos L axs ays = some r →
      ∀ xs' ys' : Array Value, (∀ j, j < m → xs'[j]? = xs[off + j]?) → (∀ j, j < m → ys'[j]? = ys[off + j]?) → (Op.eqFields (d + e) xs' ys' fs).run P w = .ok r w
  | [], L, h, axs, ays, xs, ys, r, e, w, _, _, hr, xs', ys', _, _ => by
    simp only [fieldsL, Option.some.injEq] at h; subst h
    simp only [eqPos, Option.some.injEq] at hr; subst hr
    simp [Op.eqFields]
  | f :: fs, L, h, axs, ays, xs, ys, r, e, w, hx, hy, hr, xs', ys', hxs, hys => by
    simp only [fieldsL] at h
    cases hn : (f.name == "_")
    · rw [hn] at h
      simp only [cond_false] at h
      split at h
      · rename_i s l hs hl
        cases hle : Nat.ble (f.offset + s) m
        · rw [hle] at h; cases h
        · cases hs0 : Nat.blt 0 s
          · rw [hle, hs0] at h; cases h
          rw [hle, hs0] at h
          have hle' : f.offset + s ≤ m := Nat.le_of_ble_eq_true hle
          have hs0' : 0 < s := by simpa [Nat.blt_eq] using hs0
          simp only [Bool.and_self, cond_true] at h
          split at h
          · rename_i l2 hl2
            simp only [Option.some.injEq] at h; subst h
            rw [eqPos_append] at hr
            have hname : f.name ≠ "_" := by intro hh; rw [hh] at hn; simp at hn
            have hdd : ∃ dd, P.underlying f.type = some dd := by
              cases d with
              | zero => simp [leaves] at hl
              | succ d =>
                simp only [leaves] at hl
                cases hu : P.underlying f.type with
                | none => simp [hu] at hl
                | some dd => exact ⟨dd, rfl⟩
            obtain ⟨dd, hdd⟩ := hdd
            have hext : ∀ (us us' : Array Value), (∀ j, j < m → us'[j]? = us[off + j]?) → ∀ j, j < s → (us'.extract f.offset (f.offset + s))[j]? = us[off + f.offset + j]? := by
              intro us us' hus j hj
              rw [Array.getElem?_extract]
              by_cases hlt : f.offset + j < us'.size
              · rw [if_pos (by omega), hus (f.offset + j) (by omega)]; congr 1; omega
              · rw [if_neg (by omega)]
                have := hus (f.offset + j) (by omega)
                rw [Array.getElem?_eq_none (by omega)] at this
                rw [show off + f.offset + j = off + (f.offset + j) from by omega, ← this]
            have key : ∀ q, eqPos l axs ays = some q → ∃ u v, (part f.type xs' f.offset).run P w = .ok u w ∧ (part f.type ys' f.offset).run P w = .ok v w ∧ (Op.equalIn (d + e) f.type u v).run P w = .ok q w := by
              intro q hq
              obtain ⟨k1, k2⟩ := ih f.type (off + f.offset) l hl axs ays xs ys q e w hx hy hq dd s hdd hs
              cases hA : isAggD dd
              · obtain ⟨x, y, e1, e2, e3⟩ := k2 hA
                refine ⟨x, y, ?_, ?_, e3⟩
                · rw [r_part hdd hs, hA]
                  simp only [Bool.false_eq_true, if_false]
                  rw [hxs f.offset (by omega), e1]
                · rw [r_part hdd hs, hA]
                  simp only [Bool.false_eq_true, if_false]
                  rw [hys f.offset (by omega), e2]
              · exact ⟨_, _, by rw [r_part hdd hs, hA]; rfl, by rw [r_part hdd hs, hA]; rfl, k1 hA _ _ (hext xs xs' hxs) (hext ys ys' hys)⟩
            simp only [Op.eqFields, if_pos hname]
            cases hq : eqPos l axs ays with
            | none => rw [hq] at hr; cases hr
            | some q =>
              obtain ⟨u, v, h1, h2, h3⟩ := key q hq
              simp only [Sem.run_bind, h1, h2, h3, Result.andThen_ok]
              rw [hq] at hr
              cases q
              · simp only [Option.some.injEq] at hr; subst hr
                simp
              · simp only at hr
                have := fields_ok ih hl2 axs ays xs ys r e w hx hy hr xs' ys' hxs hys
                simpa using this
          · cases h
      · cases h
    · rw [hn] at h; cases h

theorem elems_ok {d : Nat} (ih : ∀ t off L, leaves P d t off = some L → EqOk P ρ d t off L) {et : TypeId} {dd : TypeDesc} {s off : Nat} (hdd : P.underlying et = some dd) (hs : sizeT P et = some s)
    {axs ays : List AV} {xs ys : Array Value} {e : Nat} {w : World} (hx : VRs ρ axs xs.toList) (hy : VRs ρ ays ys.toList) {m : Nat} {xs' ys' : Array Value}
    (hxs : ∀ j, j < m → xs'[j]? = xs[off + j]?) (hys : ∀ j, j < m → ys'[j]? = ys[off + j]?) :
    ∀ (n i : Nat) (L : List (Nat × Nat)) (r : Bool), elemsL (leaves P d et) s off n i = some L → (i + n) * s ≤ m → eqPos L axs ays = some r → (s = 0 → isAggD dd = true) →
      ((forIn (List.range' i n) ((none, ()) : Option Bool × Unit) fun i (_ : Option Bool × Unit) => do
          if !(← Op.equalIn (d + e) et (← part et xs' (i * s)) (← part et ys' (i * s))) then pure (ForInStep.done (some false, ())) else pure (ForInStep.yield (none, ()))) : Sem (Option Bool × Unit)).run P w
        = .ok (if r then (none, ()) else (some false, ())) w
  | 0, i, L, r, h, _, hr, _ => by
    simp only [elemsL, Option.some.injEq] at h; subst h
    simp only [eqPos, Option.some.injEq] at hr; subst hr
    simp
  | n + 1, i, L, r, h, hm, hr, h0 => by
    simp only [elemsL] at h
    split at h
    · rename_i l hl
      split at h
      · rename_i l2 hl2
        simp only [Option.some.injEq] at h; subst h
        rw [eqPos_append] at hr
        have hm1 : i * s + s ≤ m := by
          have : (i + 1) * s ≤ (i + (n + 1)) * s := Nat.mul_le_mul_right s (by omega)
          rw [Nat.succ_mul] at this; omega
        have hext : ∀ (us us' : Array Value), (∀ j, j < m → us'[j]? = us[off + j]?) → ∀ j, j < s → (us'.extract (i * s) (i * s + s))[j]? = us[off + i * s + j]? := by
          intro us us' hus j hj
          rw [Array.getElem?_extract]
          by_cases hlt : i * s + j < us'.size
          · rw [if_pos (by omega), hus (i * s + j) (by omega)]; congr 1; omega
          · rw [if_neg (by omega)]
            have := hus (i * s + j) (by omega)
            rw [Array.getElem?_eq_none (by omega)] at this
            rw [show off + i * s + j = off + (i * s + j) from by omega, ← this]
        have key : ∀ q, eqPos l axs ays = some q → ∃ u v, (part et xs' (i * s)).run P w = .ok u w ∧ (part et ys' (i * s)).run P w = .ok v w ∧ (Op.equalIn (d + e) et u v).run P w = .ok q w := by
          intro q hq
          obtain ⟨k1, k2⟩ := ih et (off + i * s) l hl axs ays xs ys q e w hx hy hq dd s hdd hs
          cases hA : isAggD dd
          · obtain ⟨x, y, e1, e2, e3⟩ := k2 hA
            have hpos : 0 < s := by
              rcases Nat.eq_zero_or_pos s with h | h
              · rw [h0 h] at hA; cases hA
              · exact h
            refine ⟨x, y, ?_, ?_, e3⟩
            · rw [r_part hdd hs, hA]
              simp only [Bool.false_eq_true, if_false]
              rw [hxs (i * s) (by omega), e1]
            · rw [r_part hdd hs, hA]
              simp only [Bool.false_eq_true, if_false]
              rw [hys (i * s) (by omega), e2]
          · exact ⟨_, _, by rw [r_part hdd hs, hA]; rfl, by rw [r_part hdd hs, hA]; rfl, k1 hA _ _ (hext xs xs' hxs) (hext ys ys' hys)⟩
        cases hq : eqPos l axs ays with
        | none => rw [hq] at hr; cases hr
        | some q =>
          obtain ⟨u, v, h1, h2, h3⟩ := key q hq
          simp only [List.range'_succ, List.forIn_cons, Sem.run_bind, h1, h2, h3, Result.andThen_ok]
          rw [hq] at hr
          cases q
          · simp only [Option.some.injEq] at hr; subst hr
            simp
          · simp only at hr
            have := elems_ok (e := e) (w := w) ih hdd hs hx hy hxs hys n (i + 1) l2 r hl2 (by rw [show i + 1 + n = i + (n + 1) from by omega]; exact hm) hr h0
            simpa using this
      · cases h
    · cases h

theorem leaves_ok : ∀ (d : Nat) (t : TypeId) (off : Nat) (L : List (Nat × Nat)), leaves P d t off = some L → EqOk P ρ d t off L
  | 0, t, off, L, h => by simp [leaves] at h
  | d + 1, t, off, L, h => by
    have ih := leaves_ok d
    simp only [leaves] at h
    split at h
    · rename_i fs hu
      split at h
      · rename_i m hm
        cases hsi : P.stoodInHeld t
        · rw [hsi] at h
          simp only [cond_false] at h
          intro axs ays xs ys r e w hx hy hr dd s hdd hs
          rw [hu] at hdd; cases hdd
          rw [hm] at hs; cases hs
          refine ⟨fun _ xs' ys' hxs hys => ?_, fun hA => by cases hA⟩
          have hf : P.fieldsOf t = fs := by simp [Program.fieldsOf, hu]
          rw [show d + 1 + e = (d + e) + 1 from by omega, run_equalIn_struct w (d + e) t xs' ys' (by rw [hf, hu]) hsi, hf]
          exact fields_ok ih h axs ays xs ys r e w hx hy hr xs' ys' hxs hys
        · rw [hsi] at h; cases h
      · cases h
    · rename_i n et hu
      split at h
      · rename_i s m hs hm
        cases hle : Nat.ble (n * s) m
        · rw [hle] at h; cases h
        · cases hs0 : Nat.blt 0 s
          · rw [hle, hs0] at h; cases h
          rw [hle, hs0] at h
          have hs0' : 0 < s := by simpa [Nat.blt_eq] using hs0
          simp only [Bool.and_self, cond_true] at h
          have hle' : n * s ≤ m := Nat.le_of_ble_eq_true hle
          intro axs ays xs ys r e w hx hy hr dd s' hdd hs'
          rw [hu] at hdd; cases hdd
          rw [hm] at hs'; cases hs'
          refine ⟨fun _ xs' ys' hxs hys => ?_, fun hA => by cases hA⟩
          rw [show d + 1 + e = (d + e) + 1 from by omega]
          cases n with
          | zero =>
            simp only [elemsL, Option.some.injEq] at h; subst h
            simp only [eqPos, Option.some.injEq] at hr; subst hr
            simp [Op.equalIn, r_und hu, r_size hs]
          | succ n =>
            have hdd : ∃ dd, P.underlying et = some dd ∧ (s = 0 → isAggD dd = true) := by
              simp only [elemsL] at h
              cases d with
              | zero => simp [leaves] at h
              | succ d =>
                simp only [leaves] at h
                cases hu : P.underlying et with
                | none => simp [hu] at h
                | some dd => exact ⟨dd, rfl, fun h => by omega⟩
            obtain ⟨dd, hdd, h0⟩ := hdd
            have := elems_ok (e := e) (w := w) ih hdd hs hx hy hxs hys (n + 1) 0 L r h (by simpa using hle') hr h0
            simp only [Op.equalIn, Sem.run_bind, r_und hu, r_size hs, Result.andThen_ok, Std.Legacy.Range.forIn_eq_forIn_range', Std.Legacy.Range.size, Nat.sub_zero, Nat.add_sub_cancel, Nat.div_one]
            rw [this]
            cases r <;> rfl
      · cases h
    · rename_i hu
      simp only [Option.some.injEq] at h; subst h
      exact leaf_ok hu (.inl ⟨rfl, rfl⟩)
    · rename_i j hu
      simp only [Option.some.injEq] at h; subst h
      exact leaf_ok hu (.inr (.inl ⟨j, rfl, rfl⟩))
    · rename_i hu
      simp only [Option.some.injEq] at h; subst h
      exact leaf_ok hu (.inr (.inr ⟨rfl, rfl⟩))
    · cases h


theorem eqGuard_agg (op : BinOp) (t : TypeId) (x y : Operand) (xs ys : Array Value) (hm : P.eqGuardType P.depth t = false) : (eqGuard op t x y (.agg xs) (.agg ys)).run P w = .ok () w := by
  cases op <;> simp [eqGuard, run_program, hm]
theorem eqGuard_nil (op : BinOp) (t : TypeId) (x y : Operand) (h : (isConstO x || isConstO y) = true) : (eqGuard op t x y .nilIface .nilIface).run P w = .ok () w := by
  cases op <;> try rfl
  all_goals (cases x <;> cases y <;> simp [isConstO] at h <;> rfl)

theorem leaves_size {d : Nat} {t : TypeId} {off : Nat} {L : List (Nat × Nat)} (hl : leaves P d t off = some L) {dd : TypeDesc} (hd : P.underlying t = some dd) (hA : isAggD dd = true) : ∃ s, sizeT P t = some s := by
  cases d with
  | zero => simp [leaves] at hl
  | succ d =>
    simp only [leaves, hd] at hl
    cases hs : sizeT P t with
    | some s => exact ⟨s, rfl⟩
    | none =>
      cases dd <;> simp [isAggD] at hA
      · rename_i n e
        rw [hs] at hl
        simp only at hl
        split at hl
        · rename_i h2; cases h2
        · cases hl
      · rw [hs] at hl; cases hl
set_option maxHeartbeats 2000000 in
theorem eqA_sound {t : TypeId} {k : EqK} {x y : Operand} (hk : cEq P t (isConstO x || isConstO y) = some k) {a b : AV} {u v : Value} {r : Bool} (hu : VR ρ a u) (hv : VR ρ b v) (h : eqA k a b = some r) (op : BinOp) :
    (eqGuard op t x y u v).run P w = .ok () w ∧ (Op.equal t u v).run P w = .ok r w := by
  obtain ⟨dep, e1⟩ : ∃ d, Op.equal t u v = Op.equalIn (d + 1) t u v := ⟨9999, rfl⟩
  have e2 : Op.equal t u v = Op.equalIn (20 + 9980) t u v := rfl
  unfold cEq at hk
  split at hk
  · rename_i hd
    simp only [Option.some.injEq] at hk; subst hk
    cases a <;> cases b <;> simp only [eqA, reduceCtorEq, Option.some.injEq] at h
    simp only [VR] at hu hv; subst hu; subst hv; subst h
    exact ⟨eqGuard_pass _ _ _ _ _ _ (fun _ _ => ⟨(fun h => by cases h), (fun h => by cases h)⟩) w, by rw [e1]; exact run_equalIn_bool' w _ t _ _ hd⟩
  · rename_i el hd
    simp only [Option.some.injEq] at hk; subst hk
    cases a <;> cases b <;> simp only [eqA, reduceCtorEq, Option.some.injEq] at h <;> simp only [VR] at hu hv <;> subst h
    · obtain ⟨b1, N, _, rfl⟩ := hu; subst hv
      exact ⟨eqGuard_pass _ _ _ _ _ _ (fun _ _ => ⟨(fun h => by cases h), (fun h => by cases h)⟩) w, by rw [e1]; simp [Op.equalIn, r_und hd]⟩
    · obtain ⟨b1, N, _, rfl⟩ := hv; subst hu
      exact ⟨eqGuard_pass _ _ _ _ _ _ (fun _ _ => ⟨(fun h => by cases h), (fun h => by cases h)⟩) w, by rw [e1]; simp [Op.equalIn, r_und hd]⟩
    · subst hu; subst hv
      exact ⟨eqGuard_pass _ _ _ _ _ _ (fun _ _ => ⟨(fun h => by cases h), (fun h => by cases h)⟩) w, by rw [e1]; simp [Op.equalIn, r_und hd]⟩
  · rename_i el hd
    simp only [Option.some.injEq] at hk; subst hk
    cases a <;> cases b <;> simp only [eqA, reduceCtorEq, Option.some.injEq] at h <;> simp only [VR] at hu hv <;> subst h
    · obtain ⟨b1, N, _, rfl⟩ := hu; subst hv
      exact ⟨eqGuard_pass _ _ _ _ _ _ (fun _ _ => ⟨(fun h => by cases h), (fun h => by cases h)⟩) w, by rw [e1]; simp [Op.equalIn, r_und hd]⟩
    · obtain ⟨b1, N, c, _, rfl, _⟩ := hu; subst hv
      exact ⟨eqGuard_pass _ _ _ _ _ _ (fun _ _ => ⟨(fun h => by cases h), (fun h => by cases h)⟩) w, by rw [e1]; simp [Op.equalIn, r_und hd]⟩
    · obtain ⟨b1, N, _, rfl⟩ := hv; subst hu
      exact ⟨eqGuard_pass _ _ _ _ _ _ (fun _ _ => ⟨(fun h => by cases h), (fun h => by cases h)⟩) w, by rw [e1]; simp [Op.equalIn, r_und hd]⟩
    · obtain ⟨b1, N, c, _, rfl, _⟩ := hv; subst hu
      exact ⟨eqGuard_pass _ _ _ _ _ _ (fun _ _ => ⟨(fun h => by cases h), (fun h => by cases h)⟩) w, by rw [e1]; simp [Op.equalIn, r_und hd]⟩
    · subst hu; subst hv
      exact ⟨eqGuard_pass _ _ _ _ _ _ (fun _ _ => ⟨(fun h => by cases h), (fun h => by cases h)⟩) w, by rw [e1]; simp [Op.equalIn, r_und hd]⟩
  · rename_i ke el hd
    simp only [Option.some.injEq] at hk; subst hk
    cases a <;> cases b <;> simp only [eqA, reduceCtorEq, Option.some.injEq] at h <;> simp only [VR] at hu hv <;> subst h
    · obtain ⟨b1, N, _, rfl⟩ := hu; subst hv
      exact ⟨eqGuard_pass _ _ _ _ _ _ (fun _ _ => ⟨(fun h => by cases h), (fun h => by cases h)⟩) w, by rw [e1]; simp [Op.equalIn, r_und hd]⟩
    · obtain ⟨b1, N, _, rfl⟩ := hv; subst hu
      exact ⟨eqGuard_pass _ _ _ _ _ _ (fun _ _ => ⟨(fun h => by cases h), (fun h => by cases h)⟩) w, by rw [e1]; simp [Op.equalIn, r_und hd]⟩
    · subst hu; subst hv
      exact ⟨eqGuard_pass _ _ _ _ _ _ (fun _ _ => ⟨(fun h => by cases h), (fun h => by cases h)⟩) w, by rw [e1]; simp [Op.equalIn, r_und hd]⟩
  · rename_i ps rs vr hd
    simp only [Option.some.injEq] at hk; subst hk
    cases a <;> cases b <;> simp only [eqA, reduceCtorEq, Option.some.injEq] at h <;> simp only [VR] at hu hv <;> subst h
    · obtain ⟨as, cs, rfl, _⟩ := hu; subst hv
      exact ⟨eqGuard_pass _ _ _ _ _ _ (fun _ _ => ⟨(fun h => by cases h), (fun h => by cases h)⟩) w, by rw [e1]; simp [Op.equalIn, r_und hd]⟩
    · obtain ⟨as, cs, rfl, _⟩ := hv; subst hu
      exact ⟨eqGuard_pass _ _ _ _ _ _ (fun _ _ => ⟨(fun h => by cases h), (fun h => by cases h)⟩) w, by rw [e1]; simp [Op.equalIn, r_und hd]⟩
    · subst hu; subst hv
      exact ⟨eqGuard_pass _ _ _ _ _ _ (fun _ _ => ⟨(fun h => by cases h), (fun h => by cases h)⟩) w, by rw [e1]; simp [Op.equalIn, r_und hd]⟩
  · rename_i ms hd
    simp only [Option.some.injEq] at hk; subst hk
    cases a <;> cases b <;> simp only [eqA, reduceCtorEq] at h <;> simp only [VR] at hu hv
    · rename_i t1 a1 t2 a2
      obtain ⟨u1, rfl, _⟩ := hu; obtain ⟨u2, rfl, _⟩ := hv
      cases htt : Nat.beq t1 t2
      · rw [htt] at h
        simp only [cond_false, Option.some.injEq] at h; subst h
        have hne : t1 ≠ t2 := by intro he; rw [he, Nat.beq_refl] at htt; cases htt
        exact ⟨eqGuard_pass _ _ _ _ _ _ (fun _ _ => ⟨(fun h => by cases h), (fun h => by cases h)⟩) w, by
          rw [e1]; simp only [Op.equalIn, Sem.run_bind, r_und hd, Result.andThen_ok]; rw [if_pos hne]; rfl⟩
      · rw [htt] at h; cases h
    · simp only [Option.some.injEq] at h; subst h
      obtain ⟨u1, rfl, _⟩ := hu; subst hv
      exact ⟨eqGuard_pass _ _ _ _ _ _ (fun _ _ => ⟨(fun h => by cases h), (fun h => by cases h)⟩) w, by rw [e1]; simp [Op.equalIn, r_und hd]⟩
    · simp only [Option.some.injEq] at h; subst h
      obtain ⟨u1, rfl, _⟩ := hv; subst hu
      exact ⟨eqGuard_pass _ _ _ _ _ _ (fun _ _ => ⟨(fun _ h => by cases h), (fun h => by cases h)⟩) w, by rw [e1]; simp [Op.equalIn, r_und hd]⟩
    · subst hu; subst hv
      cases hcst : (isConstO x || isConstO y)
      · rw [hcst] at h; cases h
      · rw [hcst] at h
        simp only [cond_true, Option.some.injEq] at h; subst h
        exact ⟨eqGuard_nil op t x y hcst, by rw [e1]; simp [Op.equalIn, r_und hd]⟩
  · rename_i fs hd
    cases hg : P.eqGuardType P.depth t
    · rw [hg] at hk
      simp only [Bool.not_false, cond_true] at hk
      cases hl : leaves P 20 t 0 with
      | none => simp [hl] at hk
      | some L =>
        simp only [hl, Option.map_some, Option.some.injEq] at hk; subst hk
        cases a <;> cases b <;> simp only [eqA, reduceCtorEq] at h
        simp only [VR] at hu hv
        obtain ⟨us, rfl, hus⟩ := hu; obtain ⟨vs, rfl, hvs⟩ := hv
        have hs : ∃ s, sizeT P t = some s := leaves_size hl hd rfl
        obtain ⟨s, hs⟩ := hs
        refine ⟨eqGuard_agg op t x y _ _ hg, ?_⟩
        have := ((leaves_ok (ρ := ρ) 20 t 0 L hl) _ _ us.toArray vs.toArray r 9980 w (by simpa using hus) (by simpa using hvs) h _ s hd hs).1 rfl us.toArray vs.toArray (fun j _ => by simp) (fun j _ => by simp)
        rw [e2]; exact this
    · rw [hg] at hk; cases hk
  · rename_i n el hd
    cases hg : P.eqGuardType P.depth t
    · rw [hg] at hk
      simp only [Bool.not_false, cond_true] at hk
      cases hl : leaves P 20 t 0 with
      | none => simp [hl] at hk
      | some L =>
        simp only [hl, Option.map_some, Option.some.injEq] at hk; subst hk
        cases a <;> cases b <;> simp only [eqA, reduceCtorEq] at h
        simp only [VR] at hu hv
        obtain ⟨us, rfl, hus⟩ := hu; obtain ⟨vs, rfl, hvs⟩ := hv
        have hs : ∃ s, sizeT P t = some s := leaves_size hl hd rfl
        obtain ⟨s, hs⟩ := hs
        refine ⟨eqGuard_agg op t x y _ _ hg, ?_⟩
        have := ((leaves_ok (ρ := ρ) 20 t 0 L hl) _ _ us.toArray vs.toArray r 9980 w (by simpa using hus) (by simpa using hvs) h _ s hd hs).1 rfl us.toArray vs.toArray (fun j _ => by simp) (fun j _ => by simp)
        rw [e2]; exact this
    · rw [hg] at hk; cases hk
  · cases hk

theorem binOp_eqT {t : TypeId} {x y : Operand} {k : EqK} (hk : cEq P t (isConstO x || isConstO y) = some k) {a b : AV} {u v : Value} {r : Bool} (hu : VR ρ a u) (hv : VR ρ b v) (h : eqA k a b = some r) :
    binOp .eql t u v = (do pure (.bool (← Op.equal t u v))) ∧ binOp .neq t u v = (do pure (.bool (!(← Op.equal t u v)))) := by
  have hint : (∀ j n, a ≠ .I j n) ∧ (∀ n x, a ≠ .S n x) := by
    constructor <;> (intros; rintro rfl; cases k <;> cases b <;> simp [eqA] at h)
  cases a <;> simp only [VR] at hu
  case I j n => exact (hint.1 j n rfl).elim
  case S n x => exact (hint.2 n x rfl).elim
  all_goals first
    | (subst hu; cases v <;> exact ⟨rfl, rfl⟩)
    | (obtain ⟨_, rfl, _⟩ := hu; cases v <;> exact ⟨rfl, rfl⟩)
    | (obtain ⟨_, _, _, rfl⟩ := hu; cases v <;> exact ⟨rfl, rfl⟩)
    | (obtain ⟨_, _, rfl, _⟩ := hu; cases v <;> exact ⟨rfl, rfl⟩)
    | (obtain ⟨_, _, _, _, rfl, _⟩ := hu; cases v <;> exact ⟨rfl, rfl⟩)

theorem ex_eq {op : BinOp} {t t2 : TypeId} {x y : Operand} (ho : o.op = .binOp op t x y t2) {x' y' : Opd} (h1 : cOpd P x = some x') (h2 : cOpd P y = some y') {k : EqK} {neg : Bool}
    (hop : (op = .eql ∧ neg = false) ∨ (op = .neq ∧ neg = true)) (hk : cEq P t (isConstO x || isConstO y) = some k)
    (hx : aexec (.eq neg k x' y') tm H = some (.v a H')) (he : EvR P ρ tm f) (hr : HR P base ρ H w) : Snd P base ρ H w (execOp f o) a H' := by
  simp only [aexec] at hx
  split at hx
  · rename_i u v hu hv
    have e1 := he _ _ _ h1 hu
    have e2 := he _ _ _ h2 hv
    split at hx
    · rename_i r hr'
      obtain ⟨rfl, rfl⟩ := ok_inj hx
      obtain ⟨g1, g2⟩ := eqA_sound (P := P) (w := w) (x := x) (y := y) hk e1 e2 hr' op
      obtain ⟨b1, b2⟩ := binOp_eqT (P := P) (ρ := ρ) hk e1 e2 hr'
      rcases hop with ⟨rfl, rfl⟩ | ⟨rfl, rfl⟩
      · refine Snd.same (v := .bool r) hr ?_ (by simp [VR])
        simp only [execOp, ho, Sem.run_bind, g1, Result.andThen_ok, b1, g2]
        rfl
      · refine Snd.same (v := .bool !r) hr ?_ (by simp [VR])
        simp only [execOp, ho, Sem.run_bind, g1, Result.andThen_ok, b2, g2]
        rfl
    · cases hx
  · cases hx

end
end Go.Fx

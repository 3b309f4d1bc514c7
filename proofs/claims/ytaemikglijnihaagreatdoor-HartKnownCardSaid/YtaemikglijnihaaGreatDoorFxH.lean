/- FxH: each operation, the second part: reckoning. -/
import Derived.Test.YtaemikglijnihaaGreatDoorFxG
set_option linter.all false
namespace Go.Fx
variable {P : Program} {base : Nat}
section
variable {ρ : Rn} {tm : Tr AV} {H H' : Hp} {w : World} {f : Operand → Value} {o : Oper} {ao : AO} {a : AV}

theorem icmp_sound {op : BinOp} {x y : Int} {c : Bool} (h : icmp op x y = some c) (w : World) : (Op.intCmp op x y).run P w = .ok (.bool c) w := by
  cases op <;> simp only [icmp, Option.some.injEq, reduceCtorEq] at h <;> subst h <;> simp [Op.intCmp, feqI_eq, fltI_eq]
  all_goals first
    | (rw [Bool.eq_iff_iff]; simp; omega)
    | skip
  all_goals (rw [Bool.eq_iff_iff]; simp)

theorem lim_bits (k : IntKind) : lim k ≤ 2 ^ k.bits := by cases k <;> decide
theorem bitsN_eq (k : IntKind) (x : Int) : bitsN k x = (x % (2 ^ k.bits : Int)).toNat := by
  cases x with
  | negSucc m => rfl
  | ofNat m =>
    simp only [bitsN]
    cases h : Nat.blt m (lim k)
    · rfl
    · simp only [cond_true]
      have h' : m < lim k := by simpa [Nat.blt_eq] using h
      have h2 : m < 2 ^ k.bits := Nat.lt_of_lt_of_le h' (lim_bits k)
      have h3 : (Int.ofNat m % (2 ^ k.bits : Int)) = Int.ofNat (m % 2 ^ k.bits) := by
        have : (2 ^ k.bits : Int) = ((2 ^ k.bits : Nat) : Int) := by norm_cast
        rw [this]; rfl
      rw [h3, Nat.mod_eq_of_lt h2]; rfl
theorem bitsN_bv (k : IntKind) (x : Int) : (BitVec.ofInt k.bits x).toNat = bitsN k x := by
  rw [bitsN_eq, BitVec.toNat_ofInt]
  norm_cast

theorem intBits_sound {op : BinOp} {k : IntKind} {x y c : Int} (h : ibin op k x y = some c) (ho : op = .and ∨ op = .or ∨ op = .xor ∨ op = .andNot) (w : World) :
    (Op.intBits op k x y).run P w = .ok (.int k c) w := by
  rcases ho with rfl | rfl | rfl | rfl <;> simp only [ibin, Option.some.injEq] at h <;> subst h <;> simp only [Op.intBits, Sem.run_pure, fwrap_eq]
  · rw [BitVec.toNat_and, bitsN_bv, bitsN_bv]; rfl
  · rw [BitVec.toNat_or, bitsN_bv, bitsN_bv]; rfl
  · rw [BitVec.toNat_xor, bitsN_bv, bitsN_bv]; rfl
  · rw [BitVec.toNat_and, BitVec.toNat_not, bitsN_bv, bitsN_bv, pow2_eq]; rfl

theorem min_eq_nat (a b : Nat) : Nat.min a b = min a b := rfl

theorem shift_sound {op : BinOp} {k yk : IntKind} {x y c : Int} (h : ibin op k x y = some c) (ho : op = .shl ∨ op = .shr) (w : World) :
    (Op.shift op k x yk y).run P w = .ok (.int k c) w := by
  rcases ho with rfl | rfl
  · simp only [ibin] at h
    cases hy : fltI y 0
    · rw [hy] at h
      rw [fltI_eq] at hy
      have hy' : ¬ y < 0 := by simpa using hy
      simp only [cond_false, Option.some.injEq] at h
      simp only [Op.shift, if_neg hy', Sem.run_pure]
      subst h
      cases x with
      | ofNat m =>
        simp only [fwrap_eq]
        have : Nat.shiftLeft m (Nat.min y.toNat k.bits) = m * 2 ^ (min y.toNat k.bits) := Nat.shiftLeft_eq _ _
        rw [this]
        congr 3
      | negSucc m => simp only [fwrap_eq, min_eq_nat]
    · rw [hy] at h; cases h
  · simp only [ibin] at h
    cases hy : fltI y 0
    · rw [hy] at h
      rw [fltI_eq] at hy
      have hy' : ¬ y < 0 := by simpa using hy
      simp only [cond_false, Option.some.injEq] at h
      simp only [Op.shift, if_neg hy', Sem.run_pure]
      subst h
      cases x with
      | ofNat m =>
        show Result.ok (Value.int k ((Int.ofNat m).fdiv (2 ^ min y.toNat k.bits))) w = Result.ok (Value.int k (Int.ofNat (Nat.shiftRight m (min y.toNat k.bits)))) w
        have : Nat.shiftRight m (min y.toNat k.bits) = m / 2 ^ (min y.toNat k.bits) := Nat.shiftRight_eq_div_pow _ _
        rw [this]
        have e : (2 : Int) ^ min y.toNat k.bits = Int.ofNat (2 ^ min y.toNat k.bits) := by simp
        rw [e]
        have e2 : (Int.ofNat m).fdiv (Int.ofNat (2 ^ min y.toNat k.bits)) = Int.ofNat (m / 2 ^ min y.toNat k.bits) := by
          show ((m : Nat) : Int).fdiv ((2 ^ min y.toNat k.bits : Nat) : Int) = _
          rw [Int.fdiv_eq_ediv_of_nonneg _ (Int.natCast_nonneg _)]; rfl
        rw [e2]
      | negSucc m => rfl
    · rw [hy] at h; cases h

theorem intDiv_sound {op : BinOp} {k : IntKind} {x y c : Int} (h : ibin op k x y = some c) (ho : op = .quo ∨ op = .rem) (w : World) :
    (Op.intDiv op k x y).run P w = .ok (.int k c) w := by
  rcases ho with rfl | rfl
  · simp only [ibin] at h
    cases hy : feqI y 0
    · rw [hy] at h
      rw [feqI_eq] at hy
      have hy' : ¬ y = 0 := by simpa using hy
      simp only [cond_false, Option.some.injEq] at h
      simp only [Op.intDiv, if_neg hy', Sem.run_pure]
      subst h
      cases x <;> cases y <;> simp only [fwrap_eq] <;> rfl
    · rw [hy] at h; cases h
  · simp only [ibin] at h
    cases hy : feqI y 0
    · rw [hy] at h
      rw [feqI_eq] at hy
      have hy' : ¬ y = 0 := by simpa using hy
      simp only [cond_false, Option.some.injEq] at h
      simp only [Op.intDiv, if_neg hy', Sem.run_pure]
      subst h
      cases x <;> cases y <;> rfl
    · rw [hy] at h; cases h

theorem intArith_sound {op : BinOp} {k : IntKind} {x y c : Int} (h : ibin op k x y = some c) (ho : op = .add ∨ op = .sub ∨ op = .mul) (w : World) :
    (Op.intArith op k x y).run P w = .ok (.int k c) w := by
  rcases ho with rfl | rfl | rfl <;> simp only [ibin, Option.some.injEq] at h <;> subst h <;> simp only [Op.intArith, Sem.run_pure, fwrap_eq]

theorem str_eq (a b : ByteArray) : (a.toList == b.toList) = (Nat.beq a.data.toList.length b.data.toList.length && Nat.beq (enc a.data.toList) (enc b.data.toList)) := by
  rw [ByteArray.toList_eq, ByteArray.toList_eq, Bool.eq_iff_iff]
  simp only [beq_iff_eq, Bool.and_eq_true]
  constructor
  · intro h; rw [h]; exact ⟨Nat.beq_refl _, Nat.beq_refl _⟩
  · rintro ⟨h1, h2⟩; exact enc_inj _ _ (Nat.eq_of_beq_eq_true h1) (Nat.eq_of_beq_eq_true h2)

theorem sbin_sound {op : BinOp} {n x m y : Nat} {c : AV} (h : sbin op n x m y = some c) {a b : ByteArray} (ha : a.data.toList.length = n ∧ enc a.data.toList = x) (hb : b.data.toList.length = m ∧ enc b.data.toList = y) (w : World) :
    ∃ v, (Op.stringOp op a b).run P w = .ok v w ∧ VR ρ c v := by
  obtain ⟨rfl, rfl⟩ := ha
  obtain ⟨rfl, rfl⟩ := hb
  cases op <;> simp only [sbin, Option.some.injEq, reduceCtorEq] at h
  · cases hc : Nat.ble (Nat.add a.data.toList.length b.data.toList.length) 9223372036854775807
    · rw [hc] at h; cases h
    · rw [hc] at h
      simp only [cond_true, Option.some.injEq] at h; subst h
      have hle : a.data.toList.length + b.data.toList.length ≤ 9223372036854775807 := Nat.le_of_ble_eq_true hc
      have e1 : a.size = a.data.toList.length := by rw [Array.length_toList]; rfl
      have e2 : b.size = b.data.toList.length := by rw [Array.length_toList]; rfl
      refine ⟨.string (a ++ b), ?_, ?_⟩
      · have : ¬ (((a.size + b.size : Nat) : Int) > IntKind.i64.max) := by
          rw [e1, e2]; simp [IntKind.max, IntKind.signed, IntKind.bits]; omega
        simp only [Op.stringOp, if_neg this, Sem.run_pure]
      · simp only [VR]
        refine ⟨a ++ b, rfl, ?_, ?_⟩
        · simp [ByteArray.data_append]
        · rw [catN_spec]; simp [ByteArray.data_append]
  · subst h
    exact ⟨_, by simp only [Op.stringOp, Sem.run_pure]; rfl, by simp only [VR, str_eq]⟩
  · subst h
    exact ⟨_, by simp only [Op.stringOp, Sem.run_pure]; rfl, by simp only [VR, str_eq]⟩


theorem evI_sound (he : EvR P ρ tm f) {x : Operand} {y : Opd} (hc : cOpd P x = some y) {n : Nat} (h : evN tm y = some n) : ∃ k, f x = .int k n := by
  unfold evN at h
  split at h
  · rename_i k m hm
    simp only [Option.some.injEq] at h; subst h
    have := he x y _ hc hm
    simp only [VR] at this
    exact ⟨k, this⟩
  · cases h

theorem b2_int {op : BinOp} {k k' : IntKind} {x y : Int} {t : TypeId} {H : Hp}
    (hx : (match op with
      | .shl => match ibin .shl k x y with | some c => ok (.I k c) H | none => none
      | .shr => match ibin .shr k x y with | some c => ok (.I k c) H | none => none
      | op => bif decide (k = k') then match icmp op x y with
        | some c => ok (.B c) H
        | none => match ibin op k x y with | some c => ok (.I k c) H | none => none
        else none) = some (.v a H')) (w : World) : ∃ v, (binOp op t (.int k x) (.int k' y)).run P w = .ok v w ∧ VR ρ a v ∧ H' = H := by
  by_cases hs : op = .shl ∨ op = .shr
  · rcases hs with rfl | rfl
    · simp only at hx
      split at hx
      · rename_i c hc
        obtain ⟨rfl, rfl⟩ := ok_inj hx
        exact ⟨_, by simp only [binOp]; exact shift_sound hc (.inl rfl) w, by simp [VR], rfl⟩
      · cases hx
    · simp only at hx
      split at hx
      · rename_i c hc
        obtain ⟨rfl, rfl⟩ := ok_inj hx
        exact ⟨_, by simp only [binOp]; exact shift_sound hc (.inr rfl) w, by simp [VR], rfl⟩
      · cases hx
  · have hx' : (bif decide (k = k') then match icmp op x y with
        | some c => ok (.B c) H
        | none => match ibin op k x y with | some c => ok (.I k c) H | none => none
        else none) = some (.v a H') := by
      revert hx; cases op <;> simp at hs ⊢
    clear hx
    by_cases hk : k = k'
    · subst hk
      simp only [decide_true, cond_true] at hx'
      split at hx'
      · rename_i c hc
        obtain ⟨rfl, rfl⟩ := ok_inj hx'
        have := icmp_sound (P := P) hc w
        refine ⟨.bool c, ?_, by simp [VR], rfl⟩
        revert this
        cases op <;> simp at hs <;> simp only [icmp, reduceCtorEq] at hc <;> (intro this; simp only [binOp, ne_eq, not_true_eq_false, if_false]; exact this)
      · split at hx'
        · rename_i c hc
          obtain ⟨rfl, rfl⟩ := ok_inj hx'
          refine ⟨.int k c, ?_, by simp [VR], rfl⟩
          have h1 := fun h => intArith_sound (P := P) hc h w
          have h2 := fun h => intDiv_sound (P := P) hc h w
          have h3 := fun h => intBits_sound (P := P) hc h w
          cases op <;> simp at hs <;> simp only [binOp, ne_eq, not_true_eq_false, if_false] <;> first
            | exact h1 (by simp)
            | exact h2 (by simp)
            | exact h3 (by simp)
            | (simp only [ibin, reduceCtorEq] at hc)
        · cases hx'
    · simp only [hk, decide_false, cond_false, reduceCtorEq] at hx'

/-- comparisons that ask nothing of nil interfaces or parts -/
theorem eqGuard_pass (op : BinOp) (t : TypeId) (x y : Operand) (u v : Value) (h : ∀ p q, (u = .nilIface → v = .nilIface → False) ∧ (u = .agg p → v = .agg q → False)) (w : World) :
    (eqGuard op t x y u v).run P w = .ok () w := by
  unfold eqGuard
  cases op <;> first
    | rfl
    | (cases u <;> cases v <;> first
        | rfl
        | (exact absurd rfl fun e => (h #[] #[]).1 rfl e)
        | (rename_i p q; exact ((h p q).2 rfl rfl).elim))

theorem ex_b2 {op : BinOp} {t t2 : TypeId} {x y : Operand} (ho : o.op = .binOp op t x y t2) {x' y' : Opd} (h1 : cOpd P x = some x') (h2 : cOpd P y = some y')
    (hx : aexec (.b2 op x' y') tm H = some (.v a H')) (he : EvR P ρ tm f) (hr : HR P base ρ H w) :
    Snd P base ρ H w (execOp f o) a H' := by
  simp only [aexec] at hx
  split at hx
  · rename_i k u k' v hu hv
    have e1 := he _ _ _ h1 hu
    have e2 := he _ _ _ h2 hv
    simp only [VR] at e1 e2
    obtain ⟨r, h3, h4, rfl⟩ := b2_int (P := P) (ρ := ρ) (t := t) hx w
    refine Snd.same hr ?_ h4
    have hg := eqGuard_pass (P := P) op t x y (.int k u) (.int k' v) (fun _ _ => ⟨(fun h => by cases h), (fun h => by cases h)⟩) w
    simp only [execOp, ho, e1, e2, Sem.run_bind, hg, Result.andThen_ok, h3]
    rfl
  · rename_i n u m v hu hv
    have e1 := he _ _ _ h1 hu
    have e2 := he _ _ _ h2 hv
    simp only [VR] at e1 e2
    obtain ⟨s1, e1, e3⟩ := e1
    obtain ⟨s2, e2, e4⟩ := e2
    split at hx
    · rename_i c hc
      obtain ⟨rfl, rfl⟩ := ok_inj hx
      obtain ⟨r, h3, h4⟩ := sbin_sound (P := P) (ρ := ρ) hc e3 e4 w
      refine Snd.same hr ?_ h4
      have hg := eqGuard_pass (P := P) op t x y (.string s1) (.string s2) (fun _ _ => ⟨(fun h => by cases h), (fun h => by cases h)⟩) w
      have hb : binOp op t (.string s1) (.string s2) = Op.stringOp op s1 s2 := by cases op <;> rfl
      simp only [execOp, ho, e1, e2, Sem.run_bind, hg, Result.andThen_ok, hb, h3]
      rfl
    · cases hx
  · cases hx

theorem ex_nc {x : Operand} (ho : o.op = .nilCheck x) (hc : cOp P o = some ao) (hx : aexec ao tm H = some (.v a H')) (he : EvR P ρ tm f) (hr : HR P base ρ H w) :
    Snd P base ρ H w (execOp f o) a H' := by
  simp only [cOp, ho] at hc
  cases hy : cOpd P x with
  | none => simp [hy] at hc
  | some y =>
    simp only [hy, Option.map_some, Option.some.injEq] at hc; subst hc
    simp only [aexec] at hx
    split at hx
    · rename_i id off hb
      obtain ⟨rfl, rfl⟩ := ok_inj hx
      have hv := he x y _ hy hb
      refine Snd.same hr ?_ hv
      simp only [VR] at hv
      obtain ⟨b, N, _, hv⟩ := hv
      simp [execOp, ho, hv]
    · rename_i g l c hb
      obtain ⟨rfl, rfl⟩ := ok_inj hx
      have hv := he x y _ hy hb
      refine Snd.same hr ?_ hv
      simp only [VR] at hv
      obtain ⟨as, cs, hv, _⟩ := hv
      simp [execOp, ho, hv]
    · rename_i l hb
      obtain ⟨rfl, rfl⟩ := ok_inj hx
      have hv := he x y _ hy hb
      refine Snd.same hr ?_ hv
      simp only [VR] at hv
      obtain ⟨b, N, _, hv⟩ := hv
      simp [execOp, ho, hv]
    · rename_i t v hb
      obtain ⟨rfl, rfl⟩ := ok_inj hx
      have hv := he x y _ hy hb
      refine Snd.same hr ?_ hv
      simp only [VR] at hv
      obtain ⟨u, hv, _⟩ := hv
      simp [execOp, ho, hv]
    · cases hx

theorem ex_u1 {op : UnOp} {t : TypeId} {x : Operand} (ho : o.op = .unOp op t x) (hc : cOp P o = some ao) (hx : aexec ao tm H = some (.v a H')) (he : EvR P ρ tm f) (hr : HR P base ρ H w) :
    Snd P base ρ H w (execOp f o) a H' := by
  simp only [cOp, ho] at hc
  cases hy : cOpd P x with
  | none => simp [hy] at hc
  | some y =>
    simp only [hy, Option.map_some, Option.some.injEq] at hc; subst hc
    simp only [aexec] at hx
    split at hx
    · rename_i b hb
      obtain ⟨rfl, rfl⟩ := ok_inj hx
      have hv := he x y _ hy hb
      simp only [VR] at hv
      exact Snd.same (v := .bool !b) hr (by simp [execOp, ho, hv, Op.unary]) (by simp [VR])
    · rename_i k n hb
      have hv := he x y _ hy hb
      simp only [VR] at hv
      split at hx
      · rename_i c hc
        obtain ⟨rfl, rfl⟩ := ok_inj hx
        refine Snd.same (v := .int k c) hr ?_ (by simp [VR])
        have := intArith_sound (P := P) hc (by simp) w
        simp [execOp, ho, hv, Op.unary, this]
      · cases hx
    · rename_i k n hb
      have hv := he x y _ hy hb
      simp only [VR] at hv
      split at hx
      · rename_i c hc
        obtain ⟨rfl, rfl⟩ := ok_inj hx
        refine Snd.same (v := .int k c) hr ?_ (by simp [VR])
        have e : (bif k.signed then (-1 : Int) else k.max) = if k.signed then -1 else k.max := by cases k.signed <;> rfl
        rw [e] at hc
        have := intBits_sound (P := P) hc (by simp) w
        simp [execOp, ho, hv, Op.unary, this]
      · cases hx
    · cases hx

theorem ex_fa {t : TypeId} {x : Operand} {i : Nat} (ho : o.op = .fieldAddr t x i) (hc : cOp P o = some ao) (hx : aexec ao tm H = some (.v a H')) (he : EvR P ρ tm f) (hr : HR P base ρ H w) :
    Snd P base ρ H w (execOp f o) a H' := by
  simp only [cOp, ho] at hc
  split at hc
  · rename_i fs y hu hy
    split at hc
    · rename_i fd hfd
      split at hc
      · rename_i n hn
        simp only [Option.some.injEq] at hc; subst hc
        simp only [aexec] at hx
        split at hx
        · rename_i id off hb
          obtain ⟨rfl, rfl⟩ := ok_inj hx
          have hv := he x y _ hy hb
          simp only [VR] at hv
          obtain ⟨b, N, hρ, hv⟩ := hv
          refine Snd.same (v := .pointer (some ⟨b, off + fd.offset, none⟩)) hr ?_ (by simp only [VR]; exact ⟨b, N, hρ, rfl⟩)
          have hadd : (⟨b, off, none⟩ : Addr).add fd.offset = ⟨b, off + fd.offset, none⟩ := by unfold Addr.add; split <;> simp_all
          simp [execOp, ho, Instr.fieldAt, r_und hu, hfd, hv, Instr.sureAddr, fieldPlace, r_size hn, hadd]
        · cases hx
      · cases hc
    · cases hc
  · cases hc

theorem ex_ex {x : Operand} {i : Nat} (ho : o.op = .extract x i) (hc : cOp P o = some ao) (hx : aexec ao tm H = some (.v a H')) (he : EvR P ρ tm f) (hr : HR P base ρ H w) :
    Snd P base ρ H w (execOp f o) a H' := by
  simp only [cOp, ho] at hc
  cases hy : cOpd P x with
  | none => simp [hy] at hc
  | some y =>
    simp only [hy, Option.map_some, Option.some.injEq] at hc; subst hc
    simp only [aexec] at hx
    split at hx
    · rename_i vs hb
      have hv := he x y _ hy hb
      simp only [VR] at hv
      obtain ⟨us, hv, hvs⟩ := hv
      split at hx
      · rename_i c hc
        obtain ⟨rfl, rfl⟩ := ok_inj hx
        obtain ⟨v, h1, h2⟩ := hvs.get hc
        refine Snd.same hr ?_ h2
        simp [execOp, ho, hv, Instr.extract, h1]
      · cases hx
    · cases hx

theorem ex_ci {t d : TypeId} {x : Operand} {k0 k : IntKind} (ho : o.op = .convert t d x) (ht : P.underlying t = some (.int k0)) (hd : P.underlying d = some (.int k)) {y : Opd} (hy : cOpd P x = some y)
    (hx : aexec (.ci k y) tm H = some (.v a H')) (he : EvR P ρ tm f) (hr : HR P base ρ H w) : Snd P base ρ H w (execOp f o) a H' := by
  simp only [aexec] at hx
  split at hx
  · rename_i k' n hb
    obtain ⟨rfl, rfl⟩ := ok_inj hx
    have hv := he x y _ hy hb
    simp only [VR] at hv
    refine Snd.same (v := .int k (k.wrap n)) hr ?_ (by simp only [VR, fwrap_eq])
    simp [execOp, ho, hv, convert, r_und ht, r_und hd, Conv.intToInt]
  · cases hx

theorem ex_mi {t : TypeId} {x : Operand} (ho : o.op = .makeInterface t x) (hc : cOp P o = some ao) (hx : aexec ao tm H = some (.v a H')) (he : EvR P ρ tm f) (hr : HR P base ρ H w) :
    Snd P base ρ H w (execOp f o) a H' := by
  simp only [cOp, ho] at hc
  cases hd : P.underlying t with
  | none => simp [hd] at hc
  | some d =>
    cases hy : cOpd P x with
    | none => rw [hd, hy] at hc; cases d <;> simp at hc
    | some y =>
      have hc' : ao = .mi t y ∧ ∀ ms, d ≠ .interface ms := by
        rw [hd, hy] at hc
        cases d <;> simp at hc <;> exact ⟨hc.symm, fun _ h => by cases h⟩
      obtain ⟨rfl, hni⟩ := hc'
      simp only [aexec] at hx
      split at hx
      · rename_i b hb
        obtain ⟨rfl, rfl⟩ := ok_inj hx
        have hv := he x y _ hy hb
        refine Snd.same (v := .iface t (f x)) hr ?_ (by simp only [VR]; exact ⟨_, rfl, hv⟩)
        cases d <;> first | (exact absurd rfl (hni _)) | (simp [execOp, ho, Instr.makeInterface, r_und hd])
      · cases hx

theorem ex_mf {g : FuncId} {as cs : Array Operand} (ho : o.op = .makeFunc (.func g) as cs) (hc : cOp P o = some ao) (hx : aexec ao tm H = some (.v a H')) (he : EvR P ρ tm f) (hr : HR P base ρ H w) :
    Snd P base ρ H w (execOp f o) a H' := by
  simp only [cOp, ho] at hc
  split at hc
  · rename_i as' cs' h1 h2
    simp only [Option.some.injEq] at hc; subst hc
    simp only [aexec] at hx
    split at hx
    · rename_i l m h3 h4
      obtain ⟨rfl, rfl⟩ := ok_inj hx
      have e1 := evs_sound he h1 h3
      have e2 := evs_sound he h2 h4
      refine Snd.same (v := .func (.func g) (as.map f) (cs.map f)) hr ?_ ?_
      · simp [execOp, ho, Instr.makeFunc]
      · simp only [VR]
        exact ⟨as.toList.map f, cs.toList.map f, by cases as; cases cs; simp, e1, e2⟩
    · cases hx
  · cases hc

theorem ex_mm {t : TypeId} (ho : o.op = .makeMap t none) (hc : cOp P o = some ao) (hx : aexec ao tm H = some (.v a H')) (hr : HR P base ρ H w) :
    Snd P base ρ H w (execOp f o) a H' := by
  simp only [cOp, ho, Option.some.injEq] at hc; subst hc
  simp only [aexec] at hx
  obtain ⟨rfl, rfl⟩ := ok_inj hx
  refine ⟨.value (.map (some w.heap.size)), w.alloc (.map #[] 0), _, by simp [execOp, ho, Instr.makeMap], .inl ⟨_, rfl, ?_⟩, hr.alloc (.m [] 0) (.map #[] 0) 0 _ rfl rfl rfl rfl ⟨#[], rfl, rfl⟩⟩
  simp only [VR]; exact ⟨_, _, Rn.upd_same _ _ _, rfl⟩

end
end Go.Fx

/- FxA: the data of an abstract machine: values with abstract block numbers, blocks, a heap as a tree; and what they stand for in a world. -/
import Derived.WalkKit
set_option linter.all false
namespace Go.Fx

/-! ### Trees keyed by numbers -/
inductive Tr (α : Type) where
  | e : Tr α
  | n (l : Tr α) (v : Option α) (r : Tr α) : Tr α

namespace Tr
variable {α : Type}

noncomputable def get (t : Tr α) : Nat → Option α :=
  @Tr.rec α (fun _ => Nat → Option α) (fun _ => none)
    (fun _ v _ gl gr i => @Nat.rec (fun _ => Option α) v
      (fun k _ => @Bool.rec (fun _ => Option α) (gr (Nat.div k (nat_lit 2))) (gl (Nat.div k (nat_lit 2))) (Nat.beq (Nat.mod k (nat_lit 2)) (nat_lit 0))) i) t

noncomputable def singA (x : α) (fuel : Nat) : Nat → Tr α :=
  @Nat.rec (fun _ => Nat → Tr α) (fun _ => .n .e (some x) .e)
   (fun _ ih i => @Nat.rec (fun _ => Tr α) (.n .e (some x) .e)
     (fun k _ => @Bool.rec (fun _ => Tr α) (.n .e none (ih (Nat.div k (nat_lit 2)))) (.n (ih (Nat.div k (nat_lit 2))) none .e) (Nat.beq (Nat.mod k (nat_lit 2)) (nat_lit 0))) i) fuel

noncomputable def set (t : Tr α) (x : α) : Nat → Tr α :=
  @Tr.rec α (fun _ => Nat → Tr α) (fun i => singA x i i)
    (fun l v r sl sr i => @Nat.rec (fun _ => Tr α) (.n l (some x) r)
      (fun k _ => @Bool.rec (fun _ => Tr α)
        (@Tr.rec α (fun _ => Tr α) (.n l v .e) (fun a b c _ _ => .n l v (.n a b c)) (sr (Nat.div k (nat_lit 2))))
        (@Tr.rec α (fun _ => Tr α) (.n .e v r) (fun a b c _ _ => .n (.n a b c) v r) (sl (Nat.div k (nat_lit 2))))
        (Nat.beq (Nat.mod k (nat_lit 2)) (nat_lit 0))) i) t

theorem get_e (i : Nat) : (Tr.e : Tr α).get i = none := rfl
theorem get_zero (l : Tr α) (v : Option α) (r : Tr α) : (Tr.n l v r).get 0 = v := rfl
theorem get_succ (l : Tr α) (v : Option α) (r : Tr α) (k : Nat) :
    (Tr.n l v r).get (k + 1) = bif Nat.beq (k % 2) 0 then l.get (k / 2) else r.get (k / 2) := by
  show @Bool.rec (fun _ => Option α) (r.get (k / 2)) (l.get (k / 2)) (Nat.beq (k % 2) 0) = _
  cases Nat.beq (k % 2) 0 <;> rfl
theorem singA_zero (x : α) (f : Nat) : singA x f 0 = .n .e (some x) .e := by cases f <;> rfl
theorem singA_succ (x : α) (f k : Nat) :
    singA x (f + 1) (k + 1) = bif Nat.beq (k % 2) 0 then .n (singA x f (k / 2)) none .e else .n .e none (singA x f (k / 2)) := by
  show @Bool.rec (fun _ => Tr α) (.n .e none (singA x f (k / 2))) (.n (singA x f (k / 2)) none .e) (Nat.beq (k % 2) 0) = _
  cases Nat.beq (k % 2) 0 <;> rfl

theorem get_singA (x : α) : ∀ (f i : Nat), i ≤ f → (singA x f i).get i = some x := by
  intro f
  induction f with
  | zero => intro i h; obtain rfl : i = 0 := by omega
            rfl
  | succ f ih =>
    intro i h
    cases i with
    | zero => rw [singA_zero]; rfl
    | succ k =>
      rw [singA_succ]
      cases hb : Nat.beq (k % 2) 0
      · simp only [cond_false, get_succ, hb]; exact ih _ (by omega)
      · simp only [cond_true, get_succ, hb]; exact ih _ (by omega)

theorem get_singA_ne (x : α) : ∀ (f i j : Nat), i ≤ f → j ≠ i → (singA x f i).get j = none := by
  intro f
  induction f with
  | zero => intro i j h hj; obtain rfl : i = 0 := by omega
            rw [singA_zero]; cases j with
            | zero => exact absurd rfl hj
            | succ k => rw [get_succ]; cases Nat.beq (k % 2) 0 <;> rfl
  | succ f ih =>
    intro i j h hj
    cases i with
    | zero =>
      rw [singA_zero]; cases j with
      | zero => exact absurd rfl hj
      | succ k => rw [get_succ]; cases Nat.beq (k % 2) 0 <;> rfl
    | succ k =>
      rw [singA_succ]
      cases hb : Nat.beq (k % 2) 0
      · simp only [cond_false]
        cases j with
        | zero => rfl
        | succ m =>
          rw [get_succ]
          cases hm : Nat.beq (m % 2) 0
          · simp only [cond_false]
            refine ih _ _ (by omega) ?_
            intro he
            have h1 : k % 2 ≠ 0 := by intro hk; rw [hk] at hb; simp at hb
            have h2 : m % 2 ≠ 0 := by intro hk; rw [hk] at hm; simp at hm
            omega
          · rfl
      · simp only [cond_true]
        cases j with
        | zero => rfl
        | succ m =>
          rw [get_succ]
          cases hm : Nat.beq (m % 2) 0
          · rfl
          · simp only [cond_true]
            refine ih _ _ (by omega) ?_
            intro he
            have h1 : k % 2 = 0 := Nat.eq_of_beq_eq_true hb
            have h2 : m % 2 = 0 := Nat.eq_of_beq_eq_true hm
            omega

theorem set_e (x : α) (i : Nat) : (Tr.e : Tr α).set x i = singA x i i := rfl
theorem set_zero (l : Tr α) (v : Option α) (r : Tr α) (x : α) : (Tr.n l v r).set x 0 = .n l (some x) r := rfl
theorem set_succ (l : Tr α) (v : Option α) (r : Tr α) (x : α) (k : Nat) :
    (Tr.n l v r).set x (k + 1) = bif Nat.beq (k % 2) 0 then .n (l.set x (k / 2)) v r else .n l v (r.set x (k / 2)) := by
  show @Bool.rec (fun _ => Tr α)
        (@Tr.rec α (fun _ => Tr α) (.n l v .e) (fun a b c _ _ => .n l v (.n a b c)) (r.set x (k / 2)))
        (@Tr.rec α (fun _ => Tr α) (.n .e v r) (fun a b c _ _ => .n (.n a b c) v r) (l.set x (k / 2))) (Nat.beq (k % 2) 0) = _
  cases Nat.beq (k % 2) 0
  · cases r.set x (k / 2) <;> rfl
  · cases l.set x (k / 2) <;> rfl

theorem get_set (x : α) (t : Tr α) : ∀ i j, (t.set x i).get j = if j = i then some x else t.get j := by
  induction t with
  | e =>
    intro i j
    rw [set_e]
    by_cases h : j = i
    · subst h; rw [if_pos rfl]; exact get_singA x _ _ (Nat.le_refl _)
    · rw [if_neg h, get_singA_ne x _ _ _ (Nat.le_refl _) h]; rfl
  | n l v r ihl ihr =>
    intro i j
    cases i with
    | zero =>
      rw [set_zero]
      cases j with
      | zero => rw [if_pos rfl]; rfl
      | succ m => rw [if_neg (by omega), get_succ, get_succ]
    | succ k =>
      rw [set_succ]
      cases hb : Nat.beq (k % 2) 0
      · simp only [cond_false]
        cases j with
        | zero => rw [if_neg (by omega)]; rfl
        | succ m =>
          rw [get_succ, get_succ]
          cases hm : Nat.beq (m % 2) 0
          · simp only [cond_false, ihr]
            have h1 : k % 2 ≠ 0 := by intro hk; rw [hk] at hb; simp at hb
            have h2 : m % 2 ≠ 0 := by intro hk; rw [hk] at hm; simp at hm
            by_cases h : m / 2 = k / 2
            · rw [if_pos h, if_pos (by omega)]
            · rw [if_neg h, if_neg (by omega)]
          · simp only [cond_true]
            have h1 : k % 2 ≠ 0 := by intro hk; rw [hk] at hb; simp at hb
            have h2 : m % 2 = 0 := Nat.eq_of_beq_eq_true hm
            rw [if_neg (by omega)]
      · simp only [cond_true]
        cases j with
        | zero => rw [if_neg (by omega)]; rfl
        | succ m =>
          rw [get_succ, get_succ]
          have h1 : k % 2 = 0 := Nat.eq_of_beq_eq_true hb
          cases hm : Nat.beq (m % 2) 0
          · simp only [cond_false]
            have h2 : m % 2 ≠ 0 := by intro hk; rw [hk] at hm; simp at hm
            rw [if_neg (by omega)]
          · simp only [cond_true, ihl]
            have h2 : m % 2 = 0 := Nat.eq_of_beq_eq_true hm
            by_cases h : m / 2 = k / 2
            · rw [if_pos h, if_pos (by omega)]
            · rw [if_neg h, if_neg (by omega)]
end Tr

/-! ### Bytes as one number -/
def enc : List UInt8 → Nat
  | [] => 0
  | b :: r => b.toNat + 256 * enc r

/-! ### Abstract values -/
inductive AV where
  | I (k : IntKind) (n : Int)
  | B (b : Bool)
  | S (n x : Nat)
  | p (id off : Nat)
  | p0
  | L (id off len cap : Nat)
  | G (id off len es : Nat)
  | L0
  | M (id : Nat)
  | M0
  | F (f : FuncId) (a c : List AV)
  | FY (l : Nat)
  | F0
  | E (t : TypeId) (v : AV)
  | E0
  | A (cs : List AV)
  | T (vs : List AV)
  deriving Inhabited

abbrev Rn := Nat → Option (Nat × Nat)

mutual
def VR (ρ : Rn) : AV → Value → Prop
  | .I k n, v => v = .int k n
  | .B b, v => v = .bool b
  | .S n x, v => ∃ s : ByteArray, v = .string s ∧ s.data.toList.length = n ∧ enc s.data.toList = x
  | .p id off, v => ∃ b N, ρ id = some (b, N) ∧ v = .pointer (some ⟨b, off, none⟩)
  | .p0, v => v = .pointer none
  | .L id off len cap, v => ∃ b N, ρ id = some (b, N) ∧ v = .slice (some ⟨b, off, none⟩) len cap
  | .G id off len es, v => ∃ b N c, ρ id = some (b, N) ∧ v = .slice (some ⟨b, off, none⟩) len c ∧ len ≤ c ∧ off + c * es ≤ N
  | .L0, v => v = .slice none 0 0
  | .M id, v => ∃ b N, ρ id = some (b, N) ∧ v = .map (some b)
  | .M0, v => v = .map none
  | .F f a c, v => ∃ as cs : List Value, v = .func (.func f) as.toArray cs.toArray ∧ VRs ρ a as ∧ VRs ρ c cs
  | .FY l, v => ∃ b N, ρ l = some (b, N) ∧ v = .func (.yield b) #[] #[]
  | .F0, v => v = .nilFunc
  | .E t a, v => ∃ u, v = .iface t u ∧ VR ρ a u
  | .E0, v => v = .nilIface
  | .A l, v => ∃ vs : List Value, v = .agg vs.toArray ∧ VRs ρ l vs
  | .T l, v => ∃ vs : List Value, v = .tuple vs.toArray ∧ VRs ρ l vs
def VRs (ρ : Rn) : List AV → List Value → Prop
  | [], vs => vs = []
  | a :: l, vs => ∃ v r, vs = v :: r ∧ VR ρ a v ∧ VRs ρ l r
end

def Rn.le (ρ ρ' : Rn) : Prop := ∀ i x, ρ i = some x → ρ' i = some x
theorem Rn.le_refl (ρ : Rn) : ρ.le ρ := fun _ _ h => h
theorem Rn.le.trans {a b c : Rn} (h : a.le b) (k : b.le c) : a.le c := fun i x e => k i x (h i x e)

mutual
theorem VR.mono {ρ ρ' : Rn} (h : ρ.le ρ') : ∀ (a : AV) (v : Value), VR ρ a v → VR ρ' a v
  | .I k n, v, e => by simpa only [VR] using e
  | .B b, v, e => by simpa only [VR] using e
  | .S n x, v, e => by simpa only [VR] using e
  | .p id off, v, e => by
    simp only [VR] at e ⊢; obtain ⟨b, N, e1, e2⟩ := e; exact ⟨b, N, h _ _ e1, e2⟩
  | .p0, v, e => by simpa only [VR] using e
  | .L id off len cap, v, e => by
    simp only [VR] at e ⊢; obtain ⟨b, N, e1, e2⟩ := e; exact ⟨b, N, h _ _ e1, e2⟩
  | .G id off len es, v, e => by
    simp only [VR] at e ⊢; obtain ⟨b, N, c, e1, e2⟩ := e; exact ⟨b, N, c, h _ _ e1, e2⟩
  | .L0, v, e => by simpa only [VR] using e
  | .M id, v, e => by
    simp only [VR] at e ⊢; obtain ⟨b, N, e1, e2⟩ := e; exact ⟨b, N, h _ _ e1, e2⟩
  | .M0, v, e => by simpa only [VR] using e
  | .F f a c, v, e => by
    simp only [VR] at e ⊢; obtain ⟨as, cs, e1, e2, e3⟩ := e; exact ⟨as, cs, e1, VRs.mono h a as e2, VRs.mono h c cs e3⟩
  | .FY l, v, e => by
    simp only [VR] at e ⊢; obtain ⟨b, N, e1, e2⟩ := e; exact ⟨b, N, h _ _ e1, e2⟩
  | .F0, v, e => by simpa only [VR] using e
  | .E t a, v, e => by
    simp only [VR] at e ⊢; obtain ⟨u, e1, e2⟩ := e; exact ⟨u, e1, VR.mono h a u e2⟩
  | .E0, v, e => by simpa only [VR] using e
  | .A l, v, e => by
    simp only [VR] at e ⊢; obtain ⟨vs, e1, e2⟩ := e; exact ⟨vs, e1, VRs.mono h l vs e2⟩
  | .T l, v, e => by
    simp only [VR] at e ⊢; obtain ⟨vs, e1, e2⟩ := e; exact ⟨vs, e1, VRs.mono h l vs e2⟩
theorem VRs.mono {ρ ρ' : Rn} (h : ρ.le ρ') : ∀ (l : List AV) (vs : List Value), VRs ρ l vs → VRs ρ' l vs
  | [], vs, e => by simpa only [VRs] using e
  | a :: l, vs, e => by
    simp only [VRs] at e ⊢; obtain ⟨v, r, e1, e2, e3⟩ := e; exact ⟨v, r, e1, VR.mono h a v e2, VRs.mono h l r e3⟩
end

end Go.Fx

/- FxT: floating operations. -/
import Derived.Test.YtaemikglijnihaaGreatDoorFxS
set_option linter.all false
namespace Go.Fx

theorem pure_frame {ao : AO} (hp : ao.pure = true) {tm : Tr AV} {H H' : Hp} {a : AV} (hx : aexec ao tm H = some (.v a H')) : H' = H ∧ ∀ H2, aexec ao tm H2 = some (.v a H2) := by
  cases ao <;> simp only [AO.pure, Bool.false_eq_true] at hp <;> simp only [aexec, doSlice, ok, Bool.cond_eq_ite] at hx ⊢ <;> (repeat' split at hx) <;>
    first
    | (cases hx; done)
    | (simp only [Option.some.injEq, Res.v.injEq] at hx; obtain ⟨rfl, rfl⟩ := hx; refine ⟨rfl, fun H2 => ?_⟩; simp_all; done)
    | skip
theorem new_get {H : Hp} (hn : H.t.get H.next = none) (b : AB) {id : Nat} (h : ∃ x, H.t.get id = some x) : (H.new b).t.get id = H.t.get id := by
  rw [get_new]
  split
  · rename_i e; subst e; obtain ⟨x, hx⟩ := h; rw [hn] at hx; cases hx
  · rfl
theorem readN_new {H : Hp} (hn : H.t.get H.next = none) (b : AB) {id off n : Nat} {l : List AV} (h : readN H id off n = some l) : readN (H.new b) id off n = some l := by
  have : ∃ x, H.t.get id = some x := by
    cases hg : H.t.get id with
    | none => simp [readN, hg] at h
    | some x => exact ⟨x, rfl⟩
  unfold readN at h ⊢
  rw [new_get hn b this]; exact h
theorem read1_new {H : Hp} (hn : H.t.get H.next = none) (b : AB) {id off : Nat} {a : AV} (h : read1 H id off = some a) : read1 (H.new b) id off = some a := by
  have : ∃ x, H.t.get id = some x := by
    cases hg : H.t.get id with
    | none => simp [read1, hg] at h
    | some x => exact ⟨x, rfl⟩
  unfold read1 at h ⊢
  rw [new_get hn b this]; exact h
theorem readS_new {H : Hp} (hn : H.t.get H.next = none) (b : AB) {id off n : Nat} {x : Nat} (h : readS H id off n = some x) : readS (H.new b) id off n = some x := by
  have : ∃ x, H.t.get id = some x := by
    cases hg : H.t.get id with
    | none => simp [readS, hg] at h
    | some x => exact ⟨x, rfl⟩
  unfold readS at h ⊢
  rw [new_get hn b this]
  exact h

theorem load_frame {ao : AO} (hp : ao.load = true) {tm : Tr AV} {H H' : Hp} {a : AV} (hx : aexec ao tm H = some (.v a H')) : H' = H := by
  cases ao <;> simp only [AO.load, Bool.false_eq_true] at hp <;> simp only [aexec, ok] at hx <;> (repeat' split at hx) <;>
    first
    | (cases hx; done)
    | (simp only [Option.some.injEq, Res.v.injEq] at hx; exact hx.2.symm)
theorem load_new {ao : AO} (hp : ao.load = true) {tm : Tr AV} {H H' : Hp} {a : AV} (hn : H.t.get H.next = none) (b : AB) (hx : aexec ao tm H = some (.v a H')) : aexec ao tm (H.new b) = some (.v a (H.new b)) := by
  cases ao <;> simp only [AO.load, Bool.false_eq_true] at hp <;> simp only [aexec, ok] at hx ⊢ <;> (repeat' split at hx) <;>
    first
    | (cases hx; done)
    | (rename_i h; simp only [Option.some.injEq, Res.v.injEq] at hx; obtain ⟨rfl, rfl⟩ := hx; simp only [read1_new hn b h]; done)
    | (rename_i h; simp only [Option.some.injEq, Res.v.injEq] at hx; obtain ⟨rfl, rfl⟩ := hx; simp only [readN_new hn b h]; done)
    | (rename_i h; simp only [Option.some.injEq, Res.v.injEq] at hx; obtain ⟨rfl, rfl⟩ := hx; simp only [readS_new hn b h]; done)
    | (simp only [Option.some.injEq, Res.v.injEq] at hx; obtain ⟨rfl, rfl⟩ := hx; rfl)

variable {P : Program} {base : Nat}
theorem Onto.pend {ρ : Rn} {H : Hp} {w : World} (hr : HR P base ρ H w) (b : AB) : Onto P base ρ H w ρ (H.new b) w := by
  have hf : ρ H.next = none := hr.fresh _ (Nat.le_refl _)
  refine ⟨Rn.le_refl ρ, fun _ _ e => .inl e, by simp [Hp.new], ⟨?_, ?_, ?_, ?_, hr.big, hr.rng, hr.glob⟩, rfl, rfl, rfl, Nat.le_refl _, fun _ _ => rfl, fun _ _ _ => rfl, fun i b N e => .inr ⟨i, N, e⟩⟩
  · intro i c hc hcd k M hk
    rw [get_new] at hc
    by_cases hi : i = H.next
    · subst hi; rw [hf] at hk; cases hk
    · rw [if_neg hi] at hc; exact hr.blk i c hc hcd k M hk
  · intro i j c d k M L hc hd hcd hdd hk hl
    rw [get_new] at hc hd
    by_cases hi : i = H.next
    · subst hi; rw [hf] at hk; cases hk
    · by_cases hj : j = H.next
      · subst hj; rw [hf] at hl; cases hl
      · rw [if_neg hi] at hc; rw [if_neg hj] at hd; exact hr.inj i j c d k M L hc hd hcd hdd hk hl
  · intro i hi
    simp only [Hp.new] at hi
    exact hr.fresh i (by omega)
  · intro i c hc
    rw [get_new] at hc
    simp only [Hp.new]
    by_cases hi : i = H.next
    · omega
    · rw [if_neg hi] at hc
      have := hr.low i c hc
      omega

/-- a pending block comes to be -/
theorem Onto.fill {ρ0 ρ : Rn} {H0 H : Hp} {w0 w : World} (h : Onto P base ρ0 H0 w0 ρ H w) {id : Nat} {a : AB} (hg : H.t.get id = some a) (hn : ρ id = none) (hid : H0.next ≤ id) {o : Obj} {N : Nat} {w' : World}
    (hw : w'.heap = w.heap.push o) (hos : w'.os = w.os) (htape : w'.tape = w.tape) (hout : w'.output = w.output) (hbr : BR P (ρ.upd id (w.heap.size, N)) N a o) : Onto P base ρ0 H0 w0 (ρ.upd id (w.heap.size, N)) H w' := by
  have hr := h.hr
  have hle : ρ.le (ρ.upd id (w.heap.size, N)) := Rn.le_upd hn
  have hget : ∀ k, k < w.heap.size → w'.heap[k]? = w.heap[k]? := by
    intro k hk; rw [hw, Array.getElem?_push, if_neg (by omega)]
  have hsz : w'.heap.size = w.heap.size + 1 := by rw [hw]; simp
  have hup : ∀ i k M, ρ.upd id (w.heap.size, N) i = some (k, M) → (i = id ∧ k = w.heap.size ∧ M = N) ∨ (i ≠ id ∧ ρ i = some (k, M)) := by
    intro i k M hk
    unfold Rn.upd at hk
    split at hk
    · rename_i e
      simp only [Option.some.injEq, Prod.mk.injEq] at hk
      exact .inl ⟨e, hk.1.symm, hk.2.symm⟩
    · rename_i e; exact .inr ⟨e, hk⟩
  refine ⟨h.le.trans hle, ?_, h.next, ⟨?_, ?_, ?_, hr.low, ?_, ?_, ?_⟩, hos.trans h.os, htape.trans h.tape, hout.trans h.output, ?_, ?_, ?_, ?_⟩
  · intro i x hx
    obtain ⟨k, M⟩ := x
    rcases hup i k M hx with ⟨rfl, _, _⟩ | ⟨_, hx⟩
    · exact .inr hid
    · exact h.new i _ hx
  · intro i c hc hcd k M hk
    rcases hup i k M hk with ⟨rfl, rfl, rfl⟩ | ⟨_, hk⟩
    · rw [hg] at hc
      simp only [Option.some.injEq] at hc; subst hc
      exact ⟨o, by rw [hw]; simp, hbr, fun _ => hr.big⟩
    · obtain ⟨o', ho', hbr', hba⟩ := hr.blk i c hc hcd k M hk
      exact ⟨o', by rw [hget k (hr.rng i k M hk)]; exact ho', BRmono hle hbr', hba⟩
  · intro i j c d k M L hc hd hcd hdd hk hl
    rcases hup i k M hk with ⟨rfl, rfl, rfl⟩ | ⟨_, _⟩
    · rcases hup j _ L hl with ⟨rfl, _, _⟩ | ⟨_, hl'⟩
      · rfl
      · have := hr.rng j _ L hl'; omega
    · rename_i hk'
      rcases hup j _ L hl with ⟨_, e, _⟩ | ⟨_, hl'⟩
      · have := hr.rng i _ M hk'; omega
      · exact hr.inj i j c d k M L hc hd hcd hdd hk' hl'
  · intro i hi
    unfold Rn.upd
    rw [if_neg]
    · exact hr.fresh i hi
    · intro e; subst e; have := hr.low _ _ hg; omega
  · have := hr.big; omega
  · intro i k M hk
    rcases hup i k M hk with ⟨rfl, rfl, rfl⟩ | ⟨_, hk⟩
    · omega
    · have := hr.rng i k M hk; omega
  · intro g hg
    obtain ⟨N', h⟩ := hr.glob g hg
    exact ⟨N', hle _ _ h⟩
  · have := h.size; omega
  · intro b hb
    rw [hget b (Nat.lt_of_lt_of_le hb hr.big)]; exact h.low b hb
  · intro b hb hnn
    rw [hget b (Nat.lt_of_lt_of_le hb h.size)]; exact h.frame b hb hnn
  · intro i b M hk
    rcases hup i b M hk with ⟨rfl, rfl, rfl⟩ | ⟨_, hk⟩
    · exact .inl h.size
    · exact h.old i b M hk

end Go.Fx

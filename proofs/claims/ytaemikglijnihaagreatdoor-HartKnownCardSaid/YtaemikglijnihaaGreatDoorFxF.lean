/- FxF: what abstract frames and heaps say of a world; reading and writing. -/
import Derived.Test.YtaemikglijnihaaGreatDoorFxE
set_option linter.all false
namespace Go.Fx

theorem VRs.len {ρ : Rn} : ∀ {l : List AV} {vs : List Value}, VRs ρ l vs → vs.length = l.length
  | [], _, h => by simp only [VRs] at h; simp [h]
  | _ :: _, _, h => by
    simp only [VRs] at h; obtain ⟨v, r, rfl, _, h2⟩ := h
    simp [VRs.len h2]
theorem VRs.get {ρ : Rn} : ∀ {l : List AV} {vs : List Value}, VRs ρ l vs → ∀ {i : Nat} {a : AV}, l[i]? = some a → ∃ v, vs[i]? = some v ∧ VR ρ a v
  | [], _, _, i, a, e => by simp at e
  | x :: l, _, h, i, a, e => by
    simp only [VRs] at h; obtain ⟨v, r, rfl, h1, h2⟩ := h
    cases i with
    | zero => simp at e; subst e; exact ⟨v, by simp, h1⟩
    | succ k => simp at e; obtain ⟨u, hu, hv⟩ := VRs.get h2 e; exact ⟨u, by simpa using hu, hv⟩
theorem VRs.append {ρ : Rn} : ∀ {l : List AV} {vs : List Value} {m : List AV} {us : List Value}, VRs ρ l vs → VRs ρ m us → VRs ρ (l ++ m) (vs ++ us)
  | [], _, _, _, h, k => by simp only [VRs] at h; subst h; simpa using k
  | x :: l, _, m, us, h, k => by
    simp only [VRs] at h; obtain ⟨v, r, rfl, h1, h2⟩ := h
    simp only [List.cons_append, VRs]
    exact ⟨v, r ++ us, rfl, h1, VRs.append h2 k⟩
theorem VRs.drop {ρ : Rn} : ∀ {l : List AV} {vs : List Value} (n : Nat), VRs ρ l vs → VRs ρ (l.drop n) (vs.drop n)
  | [], _, n, h => by simp only [VRs] at h; subst h; simp [VRs]
  | x :: l, _, n, h => by
    simp only [VRs] at h; obtain ⟨v, r, rfl, h1, h2⟩ := h
    cases n with
    | zero => simp only [List.drop_zero, VRs]; exact ⟨v, r, rfl, h1, h2⟩
    | succ k => simpa using VRs.drop k h2
theorem VRs.take {ρ : Rn} : ∀ {l : List AV} {vs : List Value} (n : Nat), VRs ρ l vs → VRs ρ (l.take n) (vs.take n)
  | [], _, n, h => by simp only [VRs] at h; subst h; simp [VRs]
  | x :: l, _, n, h => by
    simp only [VRs] at h; obtain ⟨v, r, rfl, h1, h2⟩ := h
    cases n with
    | zero => simp [VRs]
    | succ k => simp only [List.take_succ_cons, VRs]; exact ⟨v, r.take k, rfl, h1, VRs.take k h2⟩
theorem VRs.cons {ρ : Rn} {a : AV} {l : List AV} {v : Value} {vs : List Value} (h : VR ρ a v) (k : VRs ρ l vs) : VRs ρ (a :: l) (v :: vs) := by
  simp only [VRs]; exact ⟨v, vs, rfl, h, k⟩
theorem VRs.nil {ρ : Rn} : VRs ρ [] [] := by simp [VRs]

theorem takeN_spec : ∀ {n : Nat} {l r : List AV}, takeN n l = some r → r = l.take n ∧ r.length = n
  | 0, l, r, h => by simp [takeN] at h; subst h; simp
  | n + 1, [], r, h => by simp [takeN] at h
  | n + 1, a :: l, r, h => by
    simp only [takeN] at h
    split at h
    · rename_i r' hr
      obtain ⟨h1, h2⟩ := takeN_spec hr
      simp only [Option.some.injEq] at h; subst h; subst h1; exact ⟨rfl, by simp only [List.length_cons]; omega⟩
    · cases h

/-! ### bytes -/
theorem enc_append (a b : List UInt8) : enc (a ++ b) = enc a + 256 ^ a.length * enc b := by
  induction a with
  | nil => simp [enc]
  | cons x a ih => simp only [List.cons_append, enc, ih, List.length_cons, Nat.pow_succ]; rw [Nat.mul_add, ← Nat.mul_assoc, Nat.mul_comm 256 (256 ^ a.length)]; omega
theorem enc_lt (a : List UInt8) : enc a < 256 ^ a.length := by
  induction a with
  | nil => simp [enc]
  | cons x a ih =>
    have : x.toNat < 256 := x.toNat_lt
    simp only [enc, List.length_cons, Nat.pow_succ]
    omega
theorem enc_inj : ∀ (a b : List UInt8), a.length = b.length → enc a = enc b → a = b
  | [], [], _, _ => rfl
  | [], _ :: _, h, _ => by simp at h
  | _ :: _, [], h, _ => by simp at h
  | x :: a, y :: b, h, e => by
    have hx : x.toNat < 256 := x.toNat_lt
    have hy : y.toNat < 256 := y.toNat_lt
    simp only [enc] at e
    have h1 : x.toNat = y.toNat := by omega
    have h2 : enc a = enc b := by omega
    rw [enc_inj a b (by simpa using h) h2, UInt8.toNat_inj.1 h1]
theorem pow256 (n : Nat) : 2 ^ (8 * n) = 256 ^ n := by rw [Nat.pow_mul]
theorem enc_drop (a : List UInt8) (n : Nat) : enc (a.drop n) = enc a / 256 ^ n := by
  induction n generalizing a with
  | zero => simp
  | succ n ih =>
    cases a with
    | nil => simp [enc]
    | cons x a =>
      have hx : x.toNat < 256 := x.toNat_lt
      simp only [List.drop_succ_cons, ih, enc, Nat.pow_succ]
      rw [Nat.mul_comm (256 ^ n) 256, ← Nat.div_div_eq_div_mul]
      congr 1
      omega
theorem enc_take (a : List UInt8) (n : Nat) : enc (a.take n) = enc a % 256 ^ n := by
  have h := enc_append (a.take n) (a.drop n)
  rw [List.take_append_drop] at h
  have hl := enc_lt (a.take n)
  by_cases hn : n ≤ a.length
  · have e : (a.take n).length = n := by simp [hn]
    rw [e] at h hl
    rw [h, Nat.add_mul_mod_self_left, Nat.mod_eq_of_lt hl]
  · rw [List.take_of_length_le (by omega)]
    have := enc_lt a
    have h2 : 256 ^ a.length ≤ 256 ^ n := Nat.pow_le_pow_right (by omega) (by omega)
    rw [Nat.mod_eq_of_lt (by omega)]
theorem byteAt_spec {a : List UInt8} {i : Nat} (h : i < a.length) : byteAt (enc a) i = (a[i]).toNat := by
  have e : Nat.shiftRight (enc a) (Nat.mul 8 i) = enc (a.drop i) := by
    rw [enc_drop, ← pow256]
    exact Nat.shiftRight_eq_div_pow _ _
  unfold byteAt
  rw [e, List.drop_eq_getElem_cons h]
  have hx : (a[i]).toNat < 256 := (a[i]).toNat_lt
  show (enc _) % 256 = _
  simp only [enc]
  omega
theorem pow2_eq (n : Nat) : pow2 n = 2 ^ n := by
  unfold pow2
  exact Nat.one_shiftLeft n
theorem cutN_spec (a : List UInt8) (lo n : Nat) : cutN (enc a) lo n = enc ((a.drop lo).take n) := by
  have e : Nat.shiftRight (enc a) (Nat.mul 8 lo) = enc (a.drop lo) := by
    rw [enc_drop, ← pow256]
    exact Nat.shiftRight_eq_div_pow _ _
  unfold cutN
  rw [e, enc_take, pow2_eq]
  show _ % 2 ^ (8 * n) = _
  rw [pow256]
theorem catN_spec (a b : List UInt8) : catN a.length (enc a) (enc b) = enc (a ++ b) := by
  unfold catN
  rw [enc_append]
  show enc a + Nat.shiftLeft (enc b) (8 * a.length) = _
  have : Nat.shiftLeft (enc b) (8 * a.length) = enc b * 2 ^ (8 * a.length) := Nat.shiftLeft_eq _ _
  rw [this, pow256, Nat.mul_comm]

/-! ### the relation of heaps -/
variable (P : Program)

def loose (fz : Nat × Nat) (n : Nat) : Prop := ∀ i, i < n → ¬ (fz.1 ≤ i ∧ i < fz.2)

def MR (ρ : Rn) : List (AV × AV × Nat) → List MapEntry → Prop
  | [], es => es = []
  | (k, v, b) :: l, es => ∃ e r, es = e :: r ∧ VR ρ k e.key ∧ VR ρ v e.val ∧ e.born = b ∧ MR ρ l r

def byteVals (l : List UInt8) : List Value := l.map fun b => .int .u8 b.toNat

def TR (ρ : Rn) (nt : Nat) (tm : Tr AV) (tmps : Array Value) : Prop :=
  tmps.size = nt ∧ ∀ i a, tm.get i = some a → ∃ v, tmps[i]? = some v ∧ VR ρ a v

def PR : Option AC → Option Code → Prop
  | none, none => True
  | some .ret, some .ret => True
  | some (.exit i), some (.exit j) => i = j
  | _, _ => False

def BR (ρ : Rn) (N : Nat) : AB → Obj → Prop
  | .c t ro cs, o => ∃ vs fz, o = .cells vs t fz ∧ vs.size = N ∧ VRs ρ cs vs.toList ∧ (ro = false → loose fz N)
  | .g t cs, o => ∃ vs fz, o = .cells vs t fz ∧ vs.size = N ∧ cs.length ≤ N ∧ VRs ρ cs (vs.toList.take cs.length) ∧ loose fz N
  | .y t n x op, o => ∃ vs fz l, o = .cells vs t fz ∧ vs.size = N ∧ n ≤ N ∧ (op = false → N = n) ∧ l.length = n ∧ enc l = x ∧ vs.toList.take n = byteVals l ∧ loose fz N
  | .m es clock, o => ∃ ms, o = .map ms clock ∧ MR ρ es ms.toList
  | .si n x pos, o => ∃ s : ByteArray, o = .stringIter s pos ∧ s.data.toList.length = n ∧ enc s.data.toList = x
  | .lp st pend _ tm _ ps a b df, o => ∃ (lo : Loop) (nt : Nat), o = .loop lo ∧ lo.state = st ∧ PR pend lo.pending ∧ TR ρ nt tm lo.tmps ∧ lo.params.toList = ps ∧ (∀ p ∈ ps, p < nt) ∧
      cCode P nt lo.assign = some a ∧ cCode P nt lo.body = some b ∧ ∃ M, ρ df = some (lo.defers, M)
  | .df, o => o = .deferred (some [])
  | .dead, _ => True

/-- what the abstract heap says of a world -/
structure HR (base : Nat) (ρ : Rn) (H : Hp) (w : World) : Prop where
  blk : ∀ i a, H.t.get i = some a → a.isDead = false → ∀ b N, ρ i = some (b, N) → ∃ o, w.heap[b]? = some o ∧ BR P ρ N a o ∧ (a.ro = false → base ≤ b)
  inj : ∀ i j a c b N M, H.t.get i = some a → H.t.get j = some c → a.isDead = false → c.isDead = false → ρ i = some (b, N) → ρ j = some (b, M) → i = j
  fresh : ∀ i, H.next ≤ i → ρ i = none
  low : ∀ i a, H.t.get i = some a → i < H.next
  big : base ≤ w.heap.size
  rng : ∀ i b N, ρ i = some (b, N) → b < w.heap.size
  glob : ∀ g, g < P.globals.size → ∃ N, ρ g = some (g, N)

/-- from one state to a later one -/
structure Onto (base : Nat) (ρ : Rn) (H : Hp) (w : World) (ρ' : Rn) (H' : Hp) (w' : World) : Prop where
  le : ρ.le ρ'
  new : ∀ i x, ρ' i = some x → ρ i = some x ∨ H.next ≤ i
  next : H.next ≤ H'.next
  hr : HR P base ρ' H' w'
  os : w'.os = w.os
  tape : w'.tape = w.tape
  output : w'.output = w.output
  size : w.heap.size ≤ w'.heap.size
  low : ∀ b, b < base → w'.heap[b]? = w.heap[b]?
  frame : ∀ b, b < w.heap.size → (∀ i N, ρ i ≠ some (b, N)) → w'.heap[b]? = w.heap[b]?
  old : ∀ i b N, ρ' i = some (b, N) → w.heap.size ≤ b ∨ ∃ j M, ρ j = some (b, M)

variable {P} {base : Nat}

theorem Onto.refl {ρ : Rn} {H : Hp} {w : World} (h : HR P base ρ H w) : Onto P base ρ H w ρ H w :=
  ⟨Rn.le_refl ρ, fun _ _ e => .inl e, Nat.le_refl _, h, rfl, rfl, rfl, Nat.le_refl _, fun _ _ => rfl, fun _ _ _ => rfl, fun i b N e => .inr ⟨i, N, e⟩⟩

theorem Onto.trans {ρ ρ' ρ'' : Rn} {H H' H'' : Hp} {w w' w'' : World} (h : Onto P base ρ H w ρ' H' w') (k : Onto P base ρ' H' w' ρ'' H'' w'') :
    Onto P base ρ H w ρ'' H'' w'' where
  le := h.le.trans k.le
  new i x e := by
    rcases k.new i x e with e | e
    · exact h.new i x e
    · exact .inr (Nat.le_trans h.next e)
  next := Nat.le_trans h.next k.next
  hr := k.hr
  os := k.os.trans h.os
  tape := k.tape.trans h.tape
  output := k.output.trans h.output
  size := Nat.le_trans h.size k.size
  low b hb := (k.low b hb).trans (h.low b hb)
  frame b hb hn := by
    rw [k.frame b (Nat.lt_of_lt_of_le hb h.size) ?_, h.frame b hb hn]
    intro i N e
    rcases h.old i b N e with e | ⟨j, M, e⟩
    · omega
    · exact hn j M e
  old i b N e := by
    rcases k.old i b N e with e | ⟨j, M, e⟩
    · exact .inl (Nat.le_trans h.size e)
    · exact h.old j b M e

/-! ### reading -/
theorem cell_at (w : World) (b off : Nat) (vs : Array Value) (t : TypeId) (fz : Nat × Nat) (h : w.heap[b]? = some (.cells vs t fz)) :
    w.cell? ⟨b, off, none⟩ = vs[off]? := cell_of_row w b off vs t fz h

theorem bytesOf_spec {l : List UInt8} : ∀ (n i : Nat), i + n ≤ l.length → ∀ ρ, VRs ρ (bytesOf (enc l) n i) (byteVals ((l.drop i).take n))
  | 0, i, h, ρ => by simp [bytesOf, byteVals, VRs]
  | n + 1, i, h, ρ => by
    have hi : i < l.length := by omega
    rw [List.drop_eq_getElem_cons hi, List.take_succ_cons]
    refine VRs.cons ?_ (bytesOf_spec n (i + 1) (by omega) ρ)
    simp only [VR, byteAt_spec hi]
    rfl
theorem bytesOf_len (x : Nat) : ∀ n i, (bytesOf x n i).length = n
  | 0, _ => rfl
  | n + 1, i => by simp [bytesOf, bytesOf_len x n (i + 1)]

theorem byteVals_get {l : List UInt8} {i : Nat} {b : UInt8} (h : l[i]? = some b) : (byteVals l)[i]? = some (.int .u8 b.toNat) := by
  simp [byteVals, h]

theorem readN_sound {ρ : Rn} {H : Hp} {w : World} (hr : HR P base ρ H w) {id off n b N : Nat} {l : List AV} (h : readN H id off n = some l) (hb : ρ id = some (b, N)) :
    ∃ vs, VRs ρ l vs ∧ l.length = n ∧ (∀ j v, vs[j]? = some v → w.cell? ⟨b, off + j, none⟩ = some v) ∧ (n = 0 ∨ off + n ≤ N) := by
  unfold readN at h
  split at h
  · rename_i t ro cs hg
    obtain ⟨o, ho, hbr, _⟩ := hr.blk id _ hg rfl b N hb
    obtain ⟨vs, fz, rfl, hN, hvs, _⟩ := hbr
    obtain ⟨h1, h2⟩ := takeN_spec h
    refine ⟨(vs.toList.drop off).take n, ?_, h2, ?_, ?_⟩
    · rw [h1]; exact VRs.take n (VRs.drop off hvs)
    · intro j v hv
      rw [cell_at w b _ vs t fz ho]
      rw [List.getElem?_take] at hv
      split at hv
      · simpa [List.getElem?_drop] using hv
      · cases hv
    · have h3 := congrArg List.length h1
      have h4 := hvs.len
      simp at h3 h4
      omega
  · rename_i t cs hg
    obtain ⟨o, ho, hbr, _⟩ := hr.blk id _ hg rfl b N hb
    obtain ⟨vs, fz, rfl, hN, hle, hvs, _⟩ := hbr
    obtain ⟨h1, h2⟩ := takeN_spec h
    refine ⟨((vs.toList.take cs.length).drop off).take n, ?_, h2, ?_, ?_⟩
    · rw [h1]; exact VRs.take n (VRs.drop off hvs)
    · intro j v hv
      rw [cell_at w b _ vs t fz ho]
      rw [List.getElem?_take] at hv
      split at hv
      · rw [List.getElem?_drop, List.getElem?_take] at hv
        split at hv
        · simpa using hv
        · cases hv
      · cases hv
    · have h3 := congrArg List.length h1
      simp at h3
      omega
  · rename_i t m x op hg
    obtain ⟨o, ho, hbr, _⟩ := hr.blk id _ hg rfl b N hb
    obtain ⟨vs, fz, k, rfl, hN, hle, _, hk, hx, hvs, _⟩ := hbr
    cases hc : Nat.ble (Nat.add off n) m
    · rw [hc] at h; cases h
    · rw [hc] at h
      have hle2 : off + n ≤ m := Nat.le_of_ble_eq_true hc
      simp only [cond_true, Option.some.injEq] at h
      subst h; subst hx
      refine ⟨byteVals ((k.drop off).take n), bytesOf_spec n off (by omega) ρ, bytesOf_len _ _ _, ?_, ?_⟩
      · intro j v hv
        rw [cell_at w b _ vs t fz ho]
        simp only [byteVals, List.getElem?_map, List.getElem?_take, List.getElem?_drop] at hv
        split at hv
        · rename_i hj
          have hlt : off + j < k.length := by omega
          rw [List.getElem?_eq_getElem hlt] at hv
          simp only [Option.map_some, Option.some.injEq] at hv
          have e := congrArg (fun l => l[off + j]?) hvs
          simp only [List.getElem?_take, byteVals, List.getElem?_map, List.getElem?_eq_getElem hlt] at e
          rw [if_pos (by omega)] at e
          rw [← hv]
          simpa using e
        · cases hv
      · omega
  · cases h

theorem read1_sound {ρ : Rn} {H : Hp} {w : World} (hr : HR P base ρ H w) {id off b N : Nat} {a : AV} (h : read1 H id off = some a) (hb : ρ id = some (b, N)) :
    ∃ v, VR ρ a v ∧ w.cell? ⟨b, off, none⟩ = some v := by
  unfold read1 at h
  split at h
  · rename_i t ro cs hg
    obtain ⟨o, ho, hbr, _⟩ := hr.blk id _ hg rfl b N hb
    obtain ⟨vs, fz, rfl, hN, hvs, _⟩ := hbr
    obtain ⟨v, h1, h2⟩ := hvs.get h
    exact ⟨v, h2, by rw [cell_at w b _ vs t fz ho]; simpa using h1⟩
  · rename_i t cs hg
    obtain ⟨o, ho, hbr, _⟩ := hr.blk id _ hg rfl b N hb
    obtain ⟨vs, fz, rfl, hN, hle, hvs, _⟩ := hbr
    obtain ⟨v, h1, h2⟩ := hvs.get h
    refine ⟨v, h2, ?_⟩
    rw [cell_at w b _ vs t fz ho]
    rw [List.getElem?_take] at h1
    split at h1
    · simpa using h1
    · cases h1
  · rename_i t m x op hg
    obtain ⟨o, ho, hbr, _⟩ := hr.blk id _ hg rfl b N hb
    obtain ⟨vs, fz, k, rfl, hN, hle, _, hk, hx, hvs, _⟩ := hbr
    cases hc : Nat.blt off m
    · rw [hc] at h; cases h
    · rw [hc] at h
      have hlt : off < m := by simpa [Nat.blt_eq] using hc
      simp only [cond_true, Option.some.injEq] at h
      subst h; subst hx
      have hlt' : off < k.length := by omega
      refine ⟨.int .u8 (k[off]).toNat, by simp only [VR, byteAt_spec hlt']; rfl, ?_⟩
      rw [cell_at w b _ vs t fz ho]
      have e := congrArg (fun l => l[off]?) hvs
      simp only [List.getElem?_take, byteVals, List.getElem?_map, List.getElem?_eq_getElem hlt'] at e
      rw [if_pos (by omega)] at e
      simpa using e
  · cases h

theorem load_run (w : World) (a : Addr) (v : Value) (h : w.cell? a = some v) : (load a).run P w = .ok v w := by simp [h]

theorem loadCells_run (w : World) (b off : Nat) (vs : List Value) (h : ∀ j v, vs[j]? = some v → w.cell? ⟨b, off + j, none⟩ = some v) :
    (loadCells ⟨b, off, none⟩ vs.length).run P w = .ok vs.toArray w :=
  run_loadCells_list (P := P) w _ vs fun j v hv => by
    have hadd : (⟨b, off, none⟩ : Addr).add j = ⟨b, off + j, none⟩ := by unfold Addr.add; split <;> simp_all
    rw [hadd]; exact h j v hv

/-! ### writing -/
theorem storeCells_run (g o : Nat) (t : TypeId) (fz : Nat × Nat) : ∀ (vs : List Value) (i : Nat) (cur : Array Value) (w : World), w.heap[g]? = some (.cells cur t fz) → loose fz cur.size →
    o + i + vs.length ≤ cur.size → (∀ v ∈ vs, v.oneCell' = true) →
    (storeCells ⟨g, o, none⟩ vs i).run P w = .ok () (w.setRow g (cur.toList.take (o + i) ++ vs ++ cur.toList.drop (o + i + vs.length)).toArray)
  | [], i, cur, w, hg, _, _, _ => by
    simp only [storeCells, List.append_nil, List.length_nil, Nat.add_zero, List.take_append_drop, Array.toArray_toList]
    rw [setRow_self w g cur t fz hg]
    rfl
  | v :: rest, i, cur, w, hg, hfz, hl, h1 => by
    have hi : o + i < cur.size := by simp at hl; omega
    have hadd : (⟨g, o, none⟩ : Addr).add i = ⟨g, o + i, none⟩ := by unfold Addr.add; split <;> simp_all
    have hcell : w.cell? ⟨g, o + i, none⟩ = some cur[o + i] := by simp [World.cell?, hg, hi]
    have hfro : w.frozen? ⟨g, o + i, none⟩ = false := by
      have hl2 := hfz (o + i) hi
      obtain ⟨lo, hi'⟩ := fz
      simp only [World.frozen?, hg, Bool.and_eq_false_iff, decide_eq_false_iff_not]
      simp only at hl2
      omega
    have hst : (store ((⟨g, o, none⟩ : Addr).add i) v).run P w = .ok () (w.setRow g (cur.setIfInBounds (o + i) v)) := by
      rw [hadd, run_store P w _ v _ (h1 v (by simp)), hcell]
      simp [hfro, setCell_eq_setRow w g (o + i) cur t fz v hg]
    have ih := storeCells_run g o t fz rest (i + 1) (cur.setIfInBounds (o + i) v) (w.setRow g (cur.setIfInBounds (o + i) v)) (setRow_heap w g cur _ t _ hg) (by simpa using hfz) (by simp at hl ⊢; omega) (fun x hx => h1 x (by simp [hx]))
    simp only [storeCells, Sem.run_bind, hst, Result.andThen_ok, ih, setRow_setRow]
    congr 3
    have e := list_seg_step cur.toList (o + i) v rest (by simp at hl ⊢; omega)
    simpa [Array.toList_setIfInBounds, Nat.add_assoc] using e

theorem one_cell {ρ : Rn} {a : AV} {v : Value} (h : VR ρ a v) (ho : one a = true) : v.oneCell' = true := by
  cases a <;> simp only [VR] at h <;> (try simp [one] at ho)
  all_goals first
    | (subst h; rfl)
    | (obtain ⟨_, rfl, _⟩ := h; rfl)
    | (obtain ⟨_, _, _, rfl⟩ := h; rfl)
    | (obtain ⟨_, _, _, _, rfl, _⟩ := h; rfl)
    | (obtain ⟨_, _, rfl, _⟩ := h; rfl)
theorem ones_cells {ρ : Rn} : ∀ {l : List AV} {vs : List Value}, VRs ρ l vs → l.all one = true → ∀ v ∈ vs, v.oneCell' = true
  | [], _, h, _, v, hv => by simp only [VRs] at h; subst h; cases hv
  | x :: l, _, h, ho, v, hv => by
    simp only [VRs] at h; obtain ⟨u, r, rfl, h1, h2⟩ := h
    simp only [List.all_cons, Bool.and_eq_true] at ho
    rcases List.mem_cons.1 hv with rfl | hv
    · exact one_cell h1 ho.1
    · exact ones_cells h2 ho.2 v hv

theorem over_spec : ∀ {cs : List AV} {off : Nat} {vs cs' : List AV}, over cs off vs = some cs' →
    (vs = [] ∨ off + vs.length ≤ cs.length) ∧ (vs ≠ [] → cs' = cs.take off ++ vs ++ cs.drop (off + vs.length)) ∧ cs'.length = cs.length
  | cs, off, [], cs', h => by simp [over] at h; subst h; simp
  | [], off, v :: vs, cs', h => by simp [over] at h
  | c :: cs, 0, v :: vs, cs', h => by
    simp only [over] at h
    split at h
    · rename_i r hr
      simp only [Option.some.injEq] at h; subst h
      obtain ⟨h1, h2, h3⟩ := over_spec hr
      refine ⟨.inr ?_, fun _ => ?_, ?_⟩
      · rcases h1 with rfl | h1
        · simp
        · simp only [List.length_cons]; omega
      · by_cases hv : vs = []
        · subst hv; simp [over] at hr; subst hr; simp
        · rw [h2 hv]; simp
      · simp [h3]
    · cases h
  | c :: cs, n + 1, v :: vs, cs', h => by
    simp only [over] at h
    split at h
    · rename_i r hr
      simp only [Option.some.injEq] at h; subst h
      obtain ⟨h1, h2, h3⟩ := over_spec hr
      refine ⟨.inr ?_, fun _ => ?_, ?_⟩
      · rcases h1 with h1 | h1
        · cases h1
        · simp only [List.length_cons] at h1 ⊢; omega
      · rw [h2 (by simp)]
        have e : n + 1 + (v :: vs).length = (n + (v :: vs).length) + 1 := by omega
        rw [e]; simp
      · simp [h3]
    · cases h

theorem get_put (H : Hp) (id j : Nat) (a : AB) : (H.put id a).t.get j = if j = id then some a else H.t.get j := Tr.get_set a H.t id j
theorem get_new (H : Hp) (j : Nat) (a : AB) : (H.new a).t.get j = if j = H.next then some a else H.t.get j := Tr.get_set a H.t H.next j

theorem heap_setRow_size (w : World) (g : Nat) (cs : Array Value) : (w.setRow g cs).heap.size = w.heap.size := by simp [World.setRow]

/-- a known block's object is another one -/
theorem HR.obj {ρ : Rn} {H : Hp} {w : World} (hr : HR P base ρ H w) {id b N : Nat} {a0 a : AB} (hg : H.t.get id = some a0) (hd : a0.isDead = false) (hb : ρ id = some (b, N))
    (hro : a0.ro = false) (w' : World) (o : Obj) (ho : w'.heap[b]? = some o) (hbr : BR P ρ N a o) (hsz : w'.heap.size = w.heap.size)
    (hot : ∀ k, k ≠ b → w'.heap[k]? = w.heap[k]?) (hos : w'.os = w.os) (htape : w'.tape = w.tape) (hout : w'.output = w.output) : Onto P base ρ H w ρ (H.put id a) w' := by
  have hbase : base ≤ b := (hr.blk id a0 hg hd b N hb).choose_spec.2.2 hro
  refine ⟨Rn.le_refl ρ, fun _ _ e => .inl e, Nat.le_refl _, ⟨?_, ?_, hr.fresh, ?_, ?_, ?_, hr.glob⟩, hos, htape, hout, by rw [hsz]; exact Nat.le_refl _, ?_, ?_, fun i b N e => .inr ⟨i, N, e⟩⟩
  · intro i c hc hcd k M hk
    rw [get_put] at hc
    by_cases hi : i = id
    · subst hi
      rw [if_pos rfl] at hc
      simp only [Option.some.injEq] at hc; subst hc
      rw [hb] at hk
      simp only [Option.some.injEq, Prod.mk.injEq] at hk
      obtain ⟨rfl, rfl⟩ := hk
      exact ⟨o, ho, hbr, fun _ => hbase⟩
    · rw [if_neg hi] at hc
      obtain ⟨o', ho', hbr', hba⟩ := hr.blk i c hc hcd k M hk
      refine ⟨o', ?_, hbr', hba⟩
      rw [hot k ?_]
      · exact ho'
      · rintro rfl
        exact hi (hr.inj i id c a0 _ M N hc hg hcd hd hk hb)
  · intro i j c d k M L hc hd' hcd hdd hk hl
    rw [get_put] at hc hd'
    by_cases hi : i = id
    · by_cases hj : j = id
      · rw [hi, hj]
      · rw [if_neg hj] at hd'
        subst hi
        exact hr.inj i j a0 d k M L hg hd' hd hdd hk hl
    · rw [if_neg hi] at hc
      by_cases hj : j = id
      · subst hj
        exact hr.inj i j c a0 k M L hc hg hcd hd hk hl
      · rw [if_neg hj] at hd'
        exact hr.inj i j c d k M L hc hd' hcd hdd hk hl
  · intro i c hc
    rw [get_put] at hc
    by_cases hi : i = id
    · subst hi; exact hr.low i a0 hg
    · rw [if_neg hi] at hc; exact hr.low i c hc
  · rw [hsz]; exact hr.big
  · intro i k M hk; rw [hsz]; exact hr.rng i k M hk
  · intro k hk; exact hot k (by omega)
  · intro k _ hn; exact hot k (fun e => hn id N (e ▸ hb))

theorem isDead_of_ro {a : AB} (h : a.isDead = true) : a = .dead := by cases a <;> simp [AB.isDead] at h ⊢

theorem byteOfAV_spec {ρ : Rn} {a : AV} {v : Value} {b : Nat} (h : byteOfAV a = some b) (hv : VR ρ a v) : b < 256 ∧ v = .int .u8 b := by
  unfold byteOfAV at h
  split at h
  · rename_i m
    cases hc : Nat.blt m 256
    · rw [hc] at h; cases h
    · rw [hc] at h
      simp only [cond_true, Option.some.injEq] at h
      subst h
      simp only [VR] at hv
      exact ⟨by simpa [Nat.blt_eq] using hc, hv⟩
  · cases h

theorem enc_set (l : List UInt8) (i : Nat) (c : UInt8) (h : i < l.length) : setByte (enc l) i c.toNat = enc (l.set i c) := by
  unfold setByte
  rw [byteAt_spec h]
  have e1 : Nat.shiftLeft (l[i]).toNat (Nat.mul 8 i) = 256 ^ i * (l[i]).toNat := by
    show Nat.shiftLeft _ (8 * i) = _
    have : Nat.shiftLeft (l[i]).toNat (8 * i) = (l[i]).toNat * 2 ^ (8 * i) := Nat.shiftLeft_eq _ _
    rw [this, pow256, Nat.mul_comm]
  have e2 : Nat.shiftLeft c.toNat (Nat.mul 8 i) = 256 ^ i * c.toNat := by
    show Nat.shiftLeft _ (8 * i) = _
    have : Nat.shiftLeft c.toNat (8 * i) = c.toNat * 2 ^ (8 * i) := Nat.shiftLeft_eq _ _
    rw [this, pow256, Nat.mul_comm]
  rw [e1, e2]
  have hl : enc l = enc (l.take i) + 256 ^ i * ((l[i]).toNat + 256 * enc (l.drop (i + 1))) := by
    have h1 := enc_append (l.take i) (l.drop i)
    rw [List.take_append_drop, List.drop_eq_getElem_cons h] at h1
    simpa [enc, Nat.min_eq_left (Nat.le_of_lt h)] using h1
  have hs : enc (l.set i c) = enc (l.take i) + 256 ^ i * (c.toNat + 256 * enc (l.drop (i + 1))) := by
    have h1 := enc_append (l.take i) (c :: l.drop (i + 1))
    have h2 : l.set i c = l.take i ++ c :: l.drop (i + 1) := by rw [List.set_eq_take_append_cons_drop, if_pos h]
    rw [h2, h1]
    simp [enc, Nat.min_eq_left (Nat.le_of_lt h)]
  rw [hs, hl]
  show enc (l.take i) + 256 ^ i * ((l[i]).toNat + 256 * enc (l.drop (i + 1))) - 256 ^ i * (l[i]).toNat + 256 ^ i * c.toNat = _
  rw [Nat.mul_add, Nat.mul_add]
  omega

theorem setBytes_spec {ρ : Rn} : ∀ {vs : List AV} {us : List Value} {l : List UInt8} {i x : Nat}, VRs ρ vs us → setBytes (enc l) i vs = some x → i + vs.length ≤ l.length →
    ∃ m : List UInt8, m.length = vs.length ∧ us = byteVals m ∧ x = enc (l.take i ++ m ++ l.drop (i + vs.length))
  | [], us, l, i, x, hv, h, hl => by
    simp only [VRs] at hv; subst hv
    simp only [setBytes, Option.some.injEq] at h; subst h
    exact ⟨[], rfl, rfl, by simp⟩
  | v :: vs, us, l, i, x, hv, h, hl => by
    simp only [VRs] at hv; obtain ⟨u, r, rfl, h1, h2⟩ := hv
    simp only [setBytes] at h
    split at h
    · rename_i b hb
      obtain ⟨hlt, rfl⟩ := byteOfAV_spec hb h1
      simp only [List.length_cons] at hl
      have hi : i < l.length := by omega
      have hb' : (UInt8.ofNat b).toNat = b := by simp; omega
      rw [← hb', enc_set l i _ hi] at h
      obtain ⟨m, hm, rfl, rfl⟩ := setBytes_spec (l := l.set i (UInt8.ofNat b)) h2 h (by simp; omega)
      refine ⟨UInt8.ofNat b :: m, by simp [hm], by simp [byteVals, hb'], ?_⟩
      congr 1
      apply List.ext_getElem?
      intro j
      simp only [List.length_cons, List.append_assoc, List.cons_append]
      have hset : (l.set i (UInt8.ofNat b)).take (i + 1) = l.take i ++ [UInt8.ofNat b] := by
        rw [List.set_eq_take_append_cons_drop, if_pos hi, List.take_append]
        simp [Nat.min_eq_left (Nat.le_of_lt hi)]
        rw [List.take_of_length_le (by simp; omega)]
      have hdrop : (l.set i (UInt8.ofNat b)).drop (i + 1 + vs.length) = l.drop (i + (vs.length + 1)) := by
        rw [List.drop_set_of_lt (by omega)]
        congr 1; omega
      rw [hset, hdrop]
      simp
    · cases h

theorem writeN_ne {H : Hp} {id off : Nat} {vs : List AV} (h : vs ≠ []) : writeN H id off vs =
    bif vs.all one then
      match H.t.get id with
      | some (.c t false cs) => match over cs off vs with | some cs' => some (H.put id (.c t false cs')) | none => none
      | some (.g t cs) => match over cs off vs with | some cs' => some (H.put id (.g t cs')) | none => none
      | some (.y t m x op) =>
        bif Nat.ble (Nat.add off vs.length) m then
          match setBytes x off vs with | some x' => some (H.put id (.y t m x' op)) | none => none
        else none
      | _ => none
    else none := by
  cases vs with
  | nil => exact absurd rfl h
  | cons v r => rfl

theorem writeN_sound {ρ : Rn} {H H' : Hp} {w : World} (hr : HR P base ρ H w) {id off b N : Nat} {vs : List AV} {us : List Value} (h : writeN H id off vs = some H') (hb : ρ id = some (b, N))
    (hv : VRs ρ vs us) : ∃ w', (storeCells ⟨b, off, none⟩ us).run P w = .ok () w' ∧ Onto P base ρ H w ρ H' w' := by
  by_cases hne : vs = []
  · subst hne
    simp only [writeN, Option.some.injEq] at h; subst h
    simp only [VRs] at hv; subst hv
    exact ⟨w, rfl, Onto.refl hr⟩
  · rw [writeN_ne hne] at h
    cases hall : vs.all one
    · rw [hall] at h; cases h
    rw [hall] at h
    simp only [cond_true] at h
    have hone := ones_cells hv hall
    have hlen := hv.len
    split at h
    · rename_i t cs hg
      split at h
      · rename_i cs' hov
        simp only [Option.some.injEq] at h; subst h
        obtain ⟨o, ho, hbr, _⟩ := hr.blk id _ hg rfl b N hb
        obtain ⟨ws, fz, rfl, hN, hvs, hlo⟩ := hbr
        obtain ⟨h1, h2, h3⟩ := over_spec hov
        have h4 := hvs.len
        have hle : off + vs.length ≤ cs.length := h1.resolve_left hne
        have hlo' := hlo rfl
        simp only [Array.length_toList] at h4
        refine ⟨_, storeCells_run b off t fz us 0 ws w ho (by rw [hN]; exact hlo') (by omega) hone, ?_⟩
        refine hr.obj hg rfl hb rfl _ _ (setRow_heap w b _ _ t fz ho) ⟨_, _, rfl, ?_, ?_, fun _ => hlo'⟩ (heap_setRow_size _ _ _) (fun k hk => setRow_other _ _ _ _ hk) rfl rfl rfl
        · simp; omega
        · rw [h2 hne, ← hlen]
          simpa using VRs.append (VRs.take off hvs) (VRs.append hv (VRs.drop (off + us.length) hvs))
      · cases h
    · rename_i t cs hg
      split at h
      · rename_i cs' hov
        simp only [Option.some.injEq] at h; subst h
        obtain ⟨o, ho, hbr, _⟩ := hr.blk id _ hg rfl b N hb
        obtain ⟨ws, fz, rfl, hN, hcN, hvs, hlo⟩ := hbr
        obtain ⟨h1, h2, h3⟩ := over_spec hov
        have hle : off + vs.length ≤ cs.length := h1.resolve_left hne
        refine ⟨_, storeCells_run b off t fz us 0 ws w ho (by rw [hN]; exact hlo) (by omega) hone, ?_⟩
        refine hr.obj hg rfl hb rfl _ _ (setRow_heap w b _ _ t fz ho) ⟨_, _, rfl, ?_, by rw [h3]; exact hcN, ?_, hlo⟩ (heap_setRow_size _ _ _) (fun k hk => setRow_other _ _ _ _ hk) rfl rfl rfl
        · simp; omega
        · rw [h3, h2 hne, ← hlen]
          have e : ((ws.toList.take (off + 0) ++ us ++ ws.toList.drop (off + 0 + us.length)).toArray.toList.take cs.length) =
              (ws.toList.take cs.length).take off ++ us ++ (ws.toList.take cs.length).drop (off + us.length) := by
            simp only [Nat.add_zero]
            rw [List.take_append, List.take_append, List.take_take, List.take_take, List.drop_take]
            have : (ws.toList.take off).length = off := by simp; omega
            simp only [List.length_append, this]
            rw [Nat.min_eq_right (by omega), Nat.min_eq_left (by omega), List.take_of_length_le (l := us) (by omega)]
          rw [e]
          simpa using VRs.append (VRs.take off hvs) (VRs.append hv (VRs.drop (off + us.length) hvs))
      · cases h
    · rename_i t m x op hg
      cases hc : Nat.ble (Nat.add off vs.length) m
      · rw [hc] at h; cases h
      rw [hc] at h
      have hle : off + vs.length ≤ m := Nat.le_of_ble_eq_true hc
      simp only [cond_true] at h
      split at h
      · rename_i x' hx'
        simp only [Option.some.injEq] at h; subst h
        obtain ⟨o, ho, hbr, _⟩ := hr.blk id _ hg rfl b N hb
        obtain ⟨ws, fz, l, rfl, hN, hmN, hop, hl, hx, hvs, hlo⟩ := hbr
        subst hx
        obtain ⟨k, hk, rfl, rfl⟩ := setBytes_spec hv hx' (by omega)
        refine ⟨_, storeCells_run b off t fz (byteVals k) 0 ws w ho (by rw [hN]; exact hlo) (by omega) hone, ?_⟩
        refine hr.obj hg rfl hb rfl _ _ (setRow_heap w b _ _ t fz ho) ⟨_, _, l.take off ++ k ++ l.drop (off + vs.length), rfl, ?_, hmN, hop, ?_, rfl, ?_, hlo⟩ (heap_setRow_size _ _ _) (fun k hk => setRow_other _ _ _ _ hk) rfl rfl rfl
        · simp [byteVals]; omega
        · simp; omega
        · have hbl : (byteVals k).length = vs.length := by simp [byteVals, hk]
          simp only [Nat.add_zero, hbl]
          rw [List.take_append, List.take_append, List.take_take]
          have : (ws.toList.take off).length = off := by simp; omega
          simp only [List.length_append, this, hbl]
          rw [Nat.min_eq_right (by omega), List.take_of_length_le (l := byteVals k) (by omega)]
          have e1 : ws.toList.take off = byteVals (l.take off) := by
            have := congrArg (List.take off) hvs
            rw [List.take_take, Nat.min_eq_left (by omega)] at this
            rw [this]; simp [byteVals]
          have e2 : (ws.toList.drop (off + vs.length)).take (m - (off + vs.length)) = byteVals (l.drop (off + vs.length)) := by
            have := congrArg (List.drop (off + vs.length)) hvs
            rw [List.drop_take] at this
            rw [this]; simp [byteVals]
          rw [e1, e2]
          simp [byteVals]
      · cases h
    · cases h

/-! ### new blocks -/
def Rn.upd (ρ : Rn) (i : Nat) (x : Nat × Nat) : Rn := fun j => if j = i then some x else ρ j
theorem Rn.upd_same (ρ : Rn) (i : Nat) (x : Nat × Nat) : ρ.upd i x i = some x := by simp [Rn.upd]
theorem Rn.le_upd {ρ : Rn} {i : Nat} {x : Nat × Nat} (h : ρ i = none) : ρ.le (ρ.upd i x) := by
  intro j y e
  unfold Rn.upd
  split
  · rename_i hj; subst hj; rw [h] at e; cases e
  · exact e

mutual
theorem BRmono {ρ ρ' : Rn} (h : ρ.le ρ') {N : Nat} : ∀ {a : AB} {o : Obj}, BR P ρ N a o → BR P ρ' N a o
  | .c t ro cs, o, e => by obtain ⟨vs, fz, e1, e2, e3, e4⟩ := e; exact ⟨vs, fz, e1, e2, VRs.mono h _ _ e3, e4⟩
  | .g t cs, o, e => by obtain ⟨vs, fz, e1, e2, e3, e4, e5⟩ := e; exact ⟨vs, fz, e1, e2, e3, VRs.mono h _ _ e4, e5⟩
  | .y t n x op, o, e => e
  | .m es clock, o, e => by obtain ⟨ms, e1, e2⟩ := e; exact ⟨ms, e1, MRmono h e2⟩
  | .si n x pos, o, e => e
  | .lp .., o, e => by
    obtain ⟨lo, nt, e1, e2, e3, ⟨e4, e4'⟩, e5, e6, e7, e8, M, e9⟩ := e
    exact ⟨lo, nt, e1, e2, e3, ⟨e4, fun i a hi => let ⟨v, h1, h2⟩ := e4' i a hi; ⟨v, h1, VR.mono h _ _ h2⟩⟩, e5, e6, e7, e8, M, h _ _ e9⟩
  | .df, o, e => e
  | .dead, _, _ => trivial
theorem MRmono {ρ ρ' : Rn} (h : ρ.le ρ') : ∀ {l : List (AV × AV × Nat)} {es : List MapEntry}, MR ρ l es → MR ρ' l es
  | [], _, e => e
  | (k, v, b) :: l, _, e => by
    obtain ⟨x, r, e1, e2, e3, e4, e5⟩ := e
    exact ⟨x, r, e1, VR.mono h _ _ e2, VR.mono h _ _ e3, e4, MRmono h e5⟩
end

theorem TR.mono {ρ ρ' : Rn} (h : ρ.le ρ') {nt : Nat} {tm : Tr AV} {tmps : Array Value} (t : TR ρ nt tm tmps) : TR ρ' nt tm tmps :=
  ⟨t.1, fun i a hi => let ⟨v, h1, h2⟩ := t.2 i a hi; ⟨v, h1, VR.mono h _ _ h2⟩⟩

/-- a new block on both sides -/
theorem HR.alloc {ρ : Rn} {H : Hp} {w : World} (hr : HR P base ρ H w) (a : AB) (o : Obj) (N : Nat) (w' : World) (hw : w'.heap = w.heap.push o)
    (hos : w'.os = w.os) (htape : w'.tape = w.tape) (hout : w'.output = w.output)
    (hbr : BR P (ρ.upd H.next (w.heap.size, N)) N a o) : Onto P base ρ H w (ρ.upd H.next (w.heap.size, N)) (H.new a) w' := by
  have hf : ρ H.next = none := hr.fresh _ (Nat.le_refl _)
  have hle : ρ.le (ρ.upd H.next (w.heap.size, N)) := Rn.le_upd hf
  have hget : ∀ k, k < w.heap.size → w'.heap[k]? = w.heap[k]? := by
    intro k hk; rw [hw, Array.getElem?_push, if_neg (by omega)]
  have hsz : w'.heap.size = w.heap.size + 1 := by rw [hw]; simp
  refine ⟨hle, ?_, by simp [Hp.new], ⟨?_, ?_, ?_, ?_, ?_, ?_, ?_⟩, hos, htape, hout, by omega, ?_, ?_, ?_⟩
  · intro i x hx
    unfold Rn.upd at hx
    split at hx
    · rename_i h; subst h; exact .inr (Nat.le_refl _)
    · exact .inl hx
  · intro i c hc hcd k M hk
    rw [get_new] at hc
    by_cases hi : i = H.next
    · subst hi
      rw [if_pos rfl] at hc
      simp only [Option.some.injEq] at hc; subst hc
      rw [Rn.upd_same] at hk
      simp only [Option.some.injEq, Prod.mk.injEq] at hk
      obtain ⟨rfl, rfl⟩ := hk
      exact ⟨o, by rw [hw]; simp, hbr, fun _ => hr.big⟩
    · rw [if_neg hi] at hc
      have hk' : ρ i = some (k, M) := by simpa [Rn.upd, hi] using hk
      obtain ⟨o', ho', hbr', hba⟩ := hr.blk i c hc hcd k M hk'
      exact ⟨o', by rw [hget k (hr.rng i k M hk')]; exact ho', BRmono hle hbr', hba⟩
  · intro i j c d k M L hc hd hcd hdd hk hl
    rw [get_new] at hc hd
    by_cases hi : i = H.next
    · by_cases hj : j = H.next
      · rw [hi, hj]
      · exfalso
        subst hi
        rw [Rn.upd_same] at hk
        have hl' : ρ j = some (k, L) := by simpa [Rn.upd, hj] using hl
        have := hr.rng j k L hl'
        simp only [Option.some.injEq, Prod.mk.injEq] at hk
        omega
    · rw [if_neg hi] at hc
      have hk' : ρ i = some (k, M) := by simpa [Rn.upd, hi] using hk
      by_cases hj : j = H.next
      · exfalso
        subst hj
        rw [Rn.upd_same] at hl
        have := hr.rng i k M hk'
        simp only [Option.some.injEq, Prod.mk.injEq] at hl
        omega
      · rw [if_neg hj] at hd
        have hl' : ρ j = some (k, L) := by simpa [Rn.upd, hj] using hl
        exact hr.inj i j c d k M L hc hd hcd hdd hk' hl'
  · intro i hi
    simp only [Hp.new] at hi
    unfold Rn.upd
    rw [if_neg (by omega)]
    exact hr.fresh i (by omega)
  · intro i c hc
    rw [get_new] at hc
    simp only [Hp.new]
    by_cases hi : i = H.next
    · omega
    · rw [if_neg hi] at hc
      have := hr.low i c hc
      omega
  · have := hr.big; omega
  · intro i k M hk
    unfold Rn.upd at hk
    split at hk
    · simp only [Option.some.injEq, Prod.mk.injEq] at hk; omega
    · have := hr.rng i k M hk; omega
  · intro g hg
    obtain ⟨N', h⟩ := hr.glob g hg
    exact ⟨N', hle _ _ h⟩
  · intro b hb; exact hget b (Nat.lt_of_lt_of_le hb hr.big)
  · intro b hb _; exact hget b hb
  · intro i b M hk
    unfold Rn.upd at hk
    split at hk
    · simp only [Option.some.injEq, Prod.mk.injEq] at hk; exact .inl (by omega)
    · exact .inr ⟨i, M, hk⟩

theorem HR.drew {ρ : Rn} {H : Hp} {w : World} (hr : HR P base ρ H w) (n : Nat) : HR P base ρ H { w with drawn := n } :=
  ⟨hr.blk, hr.inj, hr.fresh, hr.low, hr.big, hr.rng, hr.glob⟩
theorem Onto.drew {ρ : Rn} {H : Hp} {w : World} (hr : HR P base ρ H w) (n : Nat) : Onto P base ρ H w ρ H { w with drawn := n } :=
  ⟨Rn.le_refl ρ, fun _ _ e => .inl e, Nat.le_refl _, hr.drew n, rfl, rfl, rfl, Nat.le_refl _, fun _ _ => rfl, fun _ _ _ => rfl, fun i b N e => .inr ⟨i, N, e⟩⟩

/-- a block is forgotten -/
theorem HR.kill {ρ : Rn} {H : Hp} {w : World} (hr : HR P base ρ H w) {id : Nat} {a : AB} (hg : H.t.get id = some a) : Onto P base ρ H w ρ (H.put id .dead) w := by
  refine ⟨Rn.le_refl ρ, fun _ _ e => .inl e, Nat.le_refl _, ⟨?_, ?_, hr.fresh, ?_, hr.big, hr.rng, hr.glob⟩, rfl, rfl, rfl, Nat.le_refl _, fun _ _ => rfl, fun _ _ _ => rfl, fun i b N e => .inr ⟨i, N, e⟩⟩
  · intro i c hc hcd
    rw [get_put] at hc
    by_cases hi : i = id
    · rw [if_pos hi] at hc; simp only [Option.some.injEq] at hc; subst hc; cases hcd
    · rw [if_neg hi] at hc; exact hr.blk i c hc hcd
  · intro i j c d k M L hc hd hcd hdd
    rw [get_put] at hc hd
    by_cases hi : i = id
    · rw [if_pos hi] at hc; simp only [Option.some.injEq] at hc; subst hc; cases hcd
    · by_cases hj : j = id
      · rw [if_pos hj] at hd; simp only [Option.some.injEq] at hd; subst hd; cases hdd
      · rw [if_neg hi] at hc; rw [if_neg hj] at hd; exact hr.inj i j c d k M L hc hd hcd hdd
  · intro i c hc
    rw [get_put] at hc
    by_cases hi : i = id
    · subst hi; exact hr.low i a hg
    · rw [if_neg hi] at hc; exact hr.low i c hc

end Go.Fx

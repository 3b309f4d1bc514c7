/- FxZg: a listed variable's datum, as abstract cells. -/
import Derived.Test.YtaemikglijnihaaGreatDoorFxZf
import Derived.OpenShut
import Derived.Lib.LaidU8
set_option linter.all false
namespace Go.Fx
variable {P : Program}

mutual
def flatD : DataW Unit → Option (List AV)
  | .lit (.bool b) => some [.B b]
  | .lit (.int k n) => some [.I k n]
  | .lit (.string bs) => some [.S bs.length (enc bs)]
  | .agg ps => flatDs ps
  | _ => none
def flatDs : List (DataW Unit) → Option (List AV)
  | [] => some []
  | d :: r => match flatD d with
    | some a => match flatDs r with | some b => some (a ++ b) | none => none
    | none => none
end

def packFs (g : TypeId → Bool) (P : Program) : List Field → Nat → Option Nat
  | [], off => some off
  | f :: fs, off => bif Nat.beq f.offset off && g f.type then packFs g P fs (off + P.cellsOf f.type) else none
/-- types whose cells lie one behind the other, and hold no address -/
def packF (P : Program) : Nat → TypeId → Bool
  | 0, _ => false
  | n + 1, t => match P.underlying t with
    | some .bool => true
    | some (.int _) => true
    | some .string => true
    | some (.struct fs) => match packFs (packF P n) P fs.toList 0 with | some k => Nat.beq k (P.cellsOf t) | none => false
    | some (.array k e) => packF P n e && Nat.beq (k * P.cellsOf e) (P.cellsOf t)
    | _ => false

section
variable {w : World} {ρ : Rn}

theorem pack_struct {n : Nat} {g : TypeId → Bool} {cs : List Value} (hg : ∀ t cs d p l, g t = true → DataW.trod (fun _ => ()) P w 0 (fun _ => true) false n t cs = some (d, p) → flatD d = some l → VRs ρ l cs) :
    ∀ (fs : List Field) (xs : List (DataW Unit × List MemPlace)) (off tot : Nat) (l : List AV), packFs g P fs off = some tot → xs.length = fs.length →
      (∀ (i : Nat) (f : Field), fs[i]? = some f → DataW.trod (fun _ => ()) P w 0 (fun _ => true) false n f.type ((cs.drop f.offset).take (P.cellsOf f.type)) = xs[i]?) → flatDs (xs.map (·.1)) = some l → tot ≤ cs.length →
      off ≤ tot ∧ VRs ρ l ((cs.drop off).take (tot - off))
  | [], xs, off, tot, l, h1, h2, h3, h4, h5 => by
    simp only [packFs, Option.some.injEq] at h1
    subst h1
    obtain rfl : xs = [] := by simpa using h2
    simp only [List.map_nil, flatDs, Option.some.injEq] at h4
    subst h4
    simp [VRs]
  | f :: fs, [], off, tot, l, h1, h2, h3, h4, h5 => by simp at h2
  | f :: fs, x :: xs, off, tot, l, h1, h2, h3, h4, h5 => by
    simp only [packFs] at h1
    cases hb : Nat.beq f.offset off && g f.type
    · rw [hb] at h1; cases h1
    rw [hb] at h1
    simp only [cond_true] at h1
    simp only [Bool.and_eq_true] at hb
    have ho : f.offset = off := Nat.eq_of_beq_eq_true hb.1
    simp only [List.map_cons, flatDs] at h4
    split at h4
    · rename_i a ha
      split at h4
      · rename_i b hb'
        simp only [Option.some.injEq] at h4
        subst h4
        obtain ⟨e1, e2⟩ := pack_struct hg fs xs _ tot b h1 (by simpa using h2) (fun i f' hf => h3 (i + 1) f' (by simpa using hf)) hb' h5
        have e3 := h3 0 f (by simp)
        simp only [List.getElem?_cons_zero] at e3
        obtain ⟨d, p⟩ := x
        have e4 := hg _ _ _ _ _ hb.2 e3 ha
        rw [ho] at e4
        refine ⟨by omega, ?_⟩
        have e5 : (cs.drop off).take (tot - off) = (cs.drop off).take (P.cellsOf f.type) ++ (cs.drop (off + P.cellsOf f.type)).take (tot - (off + P.cellsOf f.type)) := by
          have : tot - off = P.cellsOf f.type + (tot - (off + P.cellsOf f.type)) := by omega
          rw [this, List.take_add, List.drop_drop]
        rw [e5]
        exact e4.append e2
      · cases h4
    · cases h4

theorem pack_array {n : Nat} {e : TypeId} {cs : List Value} (hg : ∀ cs d p l, DataW.trod (fun _ => ()) P w 0 (fun _ => true) false n e cs = some (d, p) → flatD d = some l → VRs ρ l cs) :
    ∀ (xs : List (DataW Unit × List MemPlace)) (j : Nat) (l : List AV),
      (∀ (i : Nat), i < xs.length → DataW.trod (fun _ => ()) P w 0 (fun _ => true) false n e ((cs.drop ((j + i) * P.cellsOf e)).take (P.cellsOf e)) = xs[i]?) → flatDs (xs.map (·.1)) = some l →
      VRs ρ l ((cs.drop (j * P.cellsOf e)).take (xs.length * P.cellsOf e))
  | [], j, l, h3, h4 => by
    simp only [List.map_nil, flatDs, Option.some.injEq] at h4
    subst h4
    simp [VRs]
  | x :: xs, j, l, h3, h4 => by
    simp only [List.map_cons, flatDs] at h4
    split at h4
    · rename_i a ha
      split at h4
      · rename_i b hb'
        simp only [Option.some.injEq] at h4
        subst h4
        have e2 := pack_array hg xs (j + 1) b (fun i hi => by
          have := h3 (i + 1) (by simp only [List.length_cons]; omega)
          rw [show j + 1 + i = j + (i + 1) by omega]
          simpa using this) hb'
        have e3 := h3 0 (by simp)
        simp only [List.getElem?_cons_zero, Nat.add_zero] at e3
        obtain ⟨d, p⟩ := x
        have e4 := hg _ _ _ _ e3 ha
        have e5 : (cs.drop (j * P.cellsOf e)).take ((xs.length + 1) * P.cellsOf e) = (cs.drop (j * P.cellsOf e)).take (P.cellsOf e) ++ (cs.drop ((j + 1) * P.cellsOf e)).take (xs.length * P.cellsOf e) := by
          rw [Nat.add_mul, Nat.one_mul, Nat.add_comm (xs.length * P.cellsOf e), List.take_add, List.drop_drop]
          rw [show j * P.cellsOf e + P.cellsOf e = (j + 1) * P.cellsOf e by rw [Nat.add_mul, Nat.one_mul]]
        rw [List.length_cons, e5]
        exact e4.append e2
      · cases h4
    · cases h4

theorem trod_flat : ∀ (n : Nat) {m : Nat} {t : TypeId} {cs : List Value} {d : DataW Unit} {p : List MemPlace} {l : List AV}, packF P n t = true →
    DataW.trod (fun _ => ()) P w 0 (fun _ => true) false m t cs = some (d, p) → flatD d = some l → VRs ρ l cs
  | 0, _, _, _, _, _, _, h, _, _ => by simp [packF] at h
  | n + 1, m, t, cs, d, p, l, h, ht, hl => by
    simp only [packF] at h
    split at h
    · rename_i hu
      cases m with
      | zero => simp [DataW.trod] at ht
      | succ m =>
        unfold DataW.trod at ht
        rw [hu] at ht
        split at ht <;> simp_all
        obtain ⟨rfl, rfl⟩ := ht
        simp only [flatD, Option.some.injEq] at hl
        subst hl
        exact VRs.cons (by simp only [VR]) VRs.nil
    · rename_i k hu
      obtain ⟨z, rfl, hx, _⟩ := DataW.trod_int hu ht
      simp only [Prod.mk.injEq] at hx
      obtain ⟨rfl, _⟩ := hx
      simp only [flatD, Option.some.injEq] at hl
      subst hl
      exact VRs.cons (by simp only [VR]) VRs.nil
    · rename_i hu
      obtain ⟨s, rfl, hx, _⟩ := DataW.trod_string hu ht
      simp only [Prod.mk.injEq] at hx
      obtain ⟨rfl, _⟩ := hx
      simp only [flatD, Option.some.injEq] at hl
      subst hl
      exact VRs.cons (by simp only [VR]; exact ⟨s, rfl, rfl, rfl⟩) VRs.nil
    · rename_i fs hu
      obtain ⟨xs, m', rfl, hx, hlen, hxl, hall⟩ := DataW.trod_struct hu ht
      simp only [Prod.mk.injEq] at hx
      obtain ⟨rfl, _⟩ := hx
      simp only [flatD] at hl
      split at h
      · rename_i k hk
        have hk' : k = P.cellsOf t := Nat.eq_of_beq_eq_true h
        have := pack_struct (g := packF P n) (ρ := ρ) (fun t cs d p l h1 h2 h3 => trod_flat n h1 h2 h3) fs.toList xs 0 k l hk (by simpa using hxl) (fun i f hf => hall i f (by simpa using hf)) hl (by omega)
        have e := this.2
        simp only [List.drop_zero, Nat.sub_zero] at e
        rw [hk', ← hlen, List.take_length] at e
        exact e
      · cases h
    · rename_i k e hu
      obtain ⟨xs, m', rfl, hx, hlen, hxl, hall⟩ := DataW.trod_array hu ht
      simp only [Prod.mk.injEq] at hx
      obtain ⟨rfl, _⟩ := hx
      simp only [flatD] at hl
      simp only [Bool.and_eq_true] at h
      have hk' : k * P.cellsOf e = P.cellsOf t := Nat.eq_of_beq_eq_true h.2
      have := pack_array (ρ := ρ) (fun cs d p l h2 h3 => trod_flat n h.1 h2 h3) xs 0 l (fun i hi => by rw [Nat.zero_add]; exact hall i (by omega)) hl
      simp only [Nat.zero_mul, List.drop_zero] at this
      rw [hxl, hk', ← hlen, List.take_length] at this
      exact this
    · cases h

end

/-- one listed table, as a block -/
theorem glob_of_reads {w : World} {g : Nat} {nm : String} {t t' : TypeId} {d : DataW Unit} {l : List AV} {vs : Array Value} {fz : Nat × Nat} (n : Nat) (hn : P.globalNamed nm = some g) (ht : (P.globals[g]?).map (·.type) = some t) (hp : packF P n t = true) (hl : flatD d = some l)
    (hr : Lib.VarReads P w nm d) (hw : w.heap[g]? = some (.cells vs t' fz)) : ∀ ρ, VRs ρ l vs.toList := by
  obtain ⟨g', t1, cs, fuel, p, h1, h2, h3, h4⟩ := hr
  have e1 : g' = g := Option.some.inj (h1.symm.trans hn)
  subst e1
  have e2 : t1 = t := Option.some.inj (h2.symm.trans ht)
  subst e2
  have e3 : cs = vs := by
    simp only [World.var?, hn, Option.bind_some, hw, Option.some.injEq] at h3
    exact h3.symm
  subst e3
  intro ρ
  exact trod_flat n hp h4 hl

/-- each of the program's variables has its block -/
theorem shaped_all {w : World} (h : w.ShapedOpen P) (hb : ∀ g, g < P.globals.size → (((begin P (fun _ _ => 0) default).world.heap[g]?).bind Obj.row?).isSome = true) : ∀ g, g < P.globals.size → ∃ vs t, w.heap[g]? = some (.cells vs t) := by
  intro g hg
  have := hb g hg
  obtain ⟨⟨zero, t⟩, hx⟩ := Option.isSome_iff_exists.1 this
  obtain ⟨cs, h1, _⟩ := h.1 g zero t hg hx
  exact ⟨cs, t, h1⟩

end Go.Fx

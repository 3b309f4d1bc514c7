/- FxU: blocks that float. -/
import Derived.Test.YtaemikglijnihaaGreatDoorFxT
set_option linter.all false
namespace Go.Fx
variable {P : Program} {base : Nat}

/-- what an operation that lays a block does, wherever -/
structure Lays (P : Program) (ρ : Rn) (f : Operand → Value) (o : Oper) (ao : AO) (tm : Tr AV) (H : Hp) (w : World) (a : AV) (H' : Hp) (blk : AB) : Prop where
  new : H' = H.new blk
  val : a = withId a H.next
  any : ∀ H2, aexec ao tm H2 = some (.v (withId a H2.next) (H2.new blk))
  run : ∃ v ob N w', (execOp f o).run P w = .ok (.value v) w' ∧ w'.heap = w.heap.push ob ∧ w'.os = w.os ∧ w'.tape = w.tape ∧ w'.output = w.output ∧
    (∀ id, VR (ρ.upd id (w.heap.size, N)) (withId a id) v) ∧ ∀ ρ', BR P ρ' N blk ob

section
variable {ρ : Rn} {tm : Tr AV} {H H' : Hp} {w : World} {f : Operand → Value} {o : Oper} {ao : AO} {a : AV}

theorem al_lays {t : TypeId} (ho : o.op = .alloc t) (hc : cOp P o = some ao) (hx : aexec ao tm H = some (.v a H')) : ∃ blk, Lays P ρ f o ao tm H w a H' blk := by
  simp only [cOp, ho] at hc
  cases hz : zeroT P t with
  | none => simp [hz] at hc
  | some z =>
    simp only [hz, Option.map_some, Option.some.injEq] at hc; subst hc
    simp only [aexec] at hx
    obtain ⟨rfl, rfl⟩ := ok_inj hx
    obtain ⟨v, h1, h2⟩ := r_zero hz w ρ
    obtain ⟨zv, hzr⟩ : ∃ zv : Value, (zeroValue t).run P w = .ok zv w ∧ ∀ ρ : Rn, VRs ρ z zv.cells.toList := by
      refine ⟨v, h1, fun ρ' => ?_⟩
      obtain ⟨v', g1, g2⟩ := r_zero hz w ρ'
      rw [h1] at g1; cases g1; exact g2
    refine ⟨.c t false z, rfl, rfl, fun H2 => rfl, .pointer (some ⟨w.heap.size, 0, none⟩), .cells zv.cells t, zv.cells.size, { w with heap := w.heap.push (.cells zv.cells t) }, ?_, rfl, rfl, rfl, rfl, ?_, ?_⟩
    · simp [execOp, ho, Instr.alloc, hzr.1, newVar, newRow]
    · intro id
      simp only [withId, VR]; exact ⟨_, _, Rn.upd_same _ _ _, rfl⟩
    · intro ρ'
      exact ⟨_, _, rfl, rfl, hzr.2 ρ', fun _ i _ hi => by simp at hi⟩

theorem ms_lays {t : TypeId} {x y : Operand} (ho : o.op = .makeSlice t x y) (hc : cOp P o = some ao) (hx : aexec ao tm H = some (.v a H')) (he : EvR P ρ tm f) : ∃ blk, Lays P ρ f o ao tm H w a H' blk := by
  simp only [cOp, ho] at hc
  split at hc
  rotate_left
  · cases hc
  rename_i e hu
  split at hc
  rotate_left
  · cases hc
  rename_i i z x' y' hi hz c1 c2
  cases hzs : Nat.beq z.length i.size
  · rw [hzs] at hc; cases hc
  rw [hzs] at hc
  simp only [cond_true, Option.some.injEq] at hc; subst hc
  have hzs := Nat.eq_of_beq_eq_true hzs
  have hx0 := hx
  simp only [aexec] at hx
  split at hx
  · rename_i l c hl hc
    obtain ⟨k1, e1⟩ := evI_sound he c1 hl
    obtain ⟨k2, e2⟩ := evI_sound he c2 hc
    cases hle : (Nat.ble l c && (Nat.ble (Nat.mul i.bytes c) 281474976710656 && Nat.ble c 9223372036854775807))
    · rw [hle] at hx; cases hx
    rw [hle] at hx
    simp only [cond_true] at hx
    obtain ⟨h1, h2, h3⟩ := and_ble hle
    obtain ⟨v, hv, hzr⟩ := zeroT_spec hi hz
    have hvs : v.cells.size = i.size := by have := (hzr ρ).len; rw [Array.length_toList] at this; omega
    have hb2 : i.bytes * c ≤ 281474976710656 := h2
    have hb3 : (i.bytes : Int) * (c : Int) ≤ 281474976710656 := by rw [← Int.natCast_mul]; omega
    have hrun := run_make (P := P) w t e i v hu hi hv k1 k2 l c (Int.natCast_nonneg _) (by omega) hb3 (by omega)
    simp only [Int.toNat_natCast] at hrun
    have hex : (execOp f o).run P w = .ok (.value (.slice (some ⟨w.heap.size, 0, none⟩) l c)) (w.alloc (.cells (madeCells v.cells (c * i.size)) e)) := by
      simp only [execOp, ho, e1, e2, Sem.run_bind, hrun, Result.andThen_ok]; rfl
    cases hu8 : isU8 z
    · rw [hu8] at hx
      simp only [cond_false] at hx
      obtain ⟨rfl, rfl⟩ := ok_inj hx
      refine ⟨.c e false (repA z c), rfl, rfl, ?_, _, _, c * i.size, _, hex, rfl, rfl, rfl, rfl, ?_, ?_⟩
      · intro H2
        simp only [aexec, hl, hc, hle, hu8, cond_true, cond_false]; rfl
      · intro id; simp only [withId, VR]; exact ⟨_, _, Rn.upd_same _ _ _, rfl⟩
      · intro ρ'
        refine ⟨_, _, rfl, size_madeCells _ _, ?_, fun _ i _ hi => by simp at hi⟩
        have := repA_vals (hzr ρ') c
        rw [hvs] at this
        exact this
    · rw [hu8] at hx
      simp only [cond_true] at hx
      obtain ⟨rfl, rfl⟩ := ok_inj hx
      have hz1 := isU8_eq hu8
      have hs1 : i.size = 1 := by rw [← hzs, hz1]; rfl
      have hvc : v.cells = #[.int .u8 0] := by
        have := hzr ρ
        rw [hz1] at this
        simp only [VRs, VR] at this
        obtain ⟨u, r, hcl, hu', hr'⟩ := this
        rw [← Array.toArray_toList (xs := v.cells), hcl, hu', hr']
      refine ⟨.y e c 0 false, rfl, rfl, ?_, _, _, c, _, hex, rfl, rfl, rfl, rfl, ?_, ?_⟩
      · intro H2
        simp only [aexec, hl, hc, hle, hu8, cond_true]; rfl
      · intro id; simp only [withId, VR]; exact ⟨_, _, Rn.upd_same _ _ _, rfl⟩
      · intro ρ'
        refine ⟨_, _, List.replicate c 0, rfl, by rw [size_madeCells, hs1, Nat.mul_one], Nat.le_refl _, fun _ => rfl, by simp, enc_zeros c, ?_, fun i _ hi => by simp at hi⟩
        rw [hvc, hs1, Nat.mul_one]
        have : (madeCells #[Value.int .u8 0] c).toList = List.replicate c (Value.int .u8 0) := by
          apply List.ext_getElem?
          intro j
          by_cases hj : j < c
          · simp [madeCells, hj, Nat.mod_one]
          · rw [List.getElem?_eq_none (by simp [madeCells]; omega), List.getElem?_eq_none (by simp; omega)]
        rw [this, List.take_of_length_le (by simp)]
        simp [byteVals]
  · cases hx

theorem alloc_lays (hal : ao.alloc = true) (hc : cOp P o = some ao) (hx : aexec ao tm H = some (.v a H')) (he : EvR P ρ tm f) : ∃ blk, Lays P ρ f o ao tm H w a H' blk := by
  have key : (∃ t, o.op = .alloc t) ∨ ∃ t x y, o.op = .makeSlice t x y := by
    have hc' := hc
    cases ho : o.op <;> first | exact .inl ⟨_, rfl⟩ | exact .inr ⟨_, _, _, rfl⟩ | skip
    all_goals
      exfalso
      simp only [cOp, ho, Bool.cond_eq_ite] at hc'
      repeat' split at hc'
      all_goals first
        | (cases hc'; done)
        | (simp only [Option.some.injEq] at hc'; subst hc'; cases hal; done)
        | (simp only [Option.map_eq_some_iff] at hc'; obtain ⟨_, _, hc'⟩ := hc'; subst hc'; cases hal; done)
        | contradiction
  rcases key with ⟨t, ho⟩ | ⟨t, x, y, ho⟩
  · exact al_lays ho hc hx
  · exact ms_lays ho hc hx he
end
end Go.Fx

/- FxL: append, copy, and what is called. -/
import Derived.Test.YtaemikglijnihaaGreatDoorFxK
import Derived.Lib.Bytealg
set_option linter.all false
namespace Go.Fx
variable {P : Program} {base : Nat}
section
variable {ρ : Rn} {tm : Tr AV} {H H' : Hp} {w : World} {f : Operand → Value} {o : Oper} {ao : AO} {a : AV}

structure ApT (P : Program) (at_ : Array TypeId) (e : TypeId) (i : TypeInfo) (zv : Value) (z : List AV) : Prop where
  s : ∃ s, at_[0]? = some s ∧ P.underlying s = some (.slice e)
  t : ∃ t d, at_[1]? = some t ∧ P.underlying t = some d ∧ ∀ k, d ≠ .int k
  inf : P.info? e = some i
  zro : i.zero = some zv
  zr : ∀ ρ : Rn, VRs ρ z zv.cells.toList

/-- the append law, when there is room -/
theorem ap_room {at_ : Array TypeId} {ty e : TypeId} {i : TypeInfo} {zv : Value} {z : List AV} (T : ApT P at_ e i zv z) {p : Option Addr} {sLen sCap n : Nat} {v : Value} {news : List Value}
    (hl : (Builtin.lenOf v).run P w = .ok n w) (hf : (Builtin.firstCells i.size n v).run P w = .ok news.toArray w) (hle : sLen + n ≤ sCap) {w' : World}
    (hst : ∀ a, p = some a → (storeCells (a.add (sLen * i.size)) news).run P w = .ok () w') (hn : p = none → w' = w) :
    (Builtin.append_ at_ ty #[.slice p sLen sCap, v]).run P w = .ok (.slice p (sLen + n) sCap) w' := by
  obtain ⟨s, h0, hs⟩ := T.s
  obtain ⟨t, d, h1, ht, hd⟩ := T.t
  have hsz : (sizeOf e).run P w = .ok i.size w := by simp [sizeOf, r_info T.inf]
  have hz : (do pure ((← underlying t) matches .int _) : Sem Bool).run P w = .ok false w := by
    simp only [Sem.run_bind, r_und ht, Result.andThen_ok]
    cases d <;> first | rfl | (exact absurd rfl (hd _))
  simp only [Builtin.append_, h0, h1, List.getElem?_toArray, List.getElem?_cons_zero, List.getElem?_cons_succ, Sem.run_bind, r_und hs, Result.andThen_ok, hsz, r_und ht]
  have hz2 : (match d with | .int _ => true | _ => false) = false := by cases d <;> first | rfl | (exact absurd rfl (hd _))
  cases p with
  | none =>
    have := hn rfl; subst this
    simp [hl, hle, hf]
  | some a =>
    have := hst a rfl
    simp [hl, hle, hf, this]

/-- the append law, when there is none -/
theorem ap_grow {at_ : Array TypeId} {ty e : TypeId} {i : TypeInfo} {zv : Value} {z : List AV} (T : ApT P at_ e i zv z) {p : Option Addr} {sLen sCap n : Nat} {v : Value} {olds news : List Value}
    (hl : (Builtin.lenOf v).run P w = .ok n w) (hf : (Builtin.firstCells i.size n v).run P w.drew = .ok news.toArray w.drew) (ho : (Builtin.firstCells i.size sLen (.slice p sLen sCap)).run P w.drew = .ok olds.toArray w.drew)
    (hlt : sCap < sLen + n) (hb : (sLen + n) * i.bytes ≤ 140737488355328) (hi63 : sLen + n ≤ 9223372036854775807) :
    (Builtin.append_ at_ ty #[.slice p sLen sCap, v]).run P w = .ok (.slice (some ⟨w.heap.size, 0, none⟩) (sLen + n) (grownCap w (sLen + n) sCap e))
      (w.drew.alloc (.cells ((olds ++ news).toArray ++ Builtin.zeroCells zv.cells (grownCap w (sLen + n) sCap e - (sLen + n))) e)) := by
  obtain ⟨s, h0, hs⟩ := T.s
  obtain ⟨t, d, h1, ht, hd⟩ := T.t
  have hsz : (sizeOf e).run P w = .ok i.size w := by simp [sizeOf, r_info T.inf]
  have hz2 : (match d with | .int _ => true | _ => false) = false := by cases d <;> first | rfl | (exact absurd rfl (hd _))
  have hn : ¬ (sLen + n ≤ sCap) := by omega
  have h63' : ¬ (9223372036854775807 < ((sLen : Int) + (n : Int))) := by omega
  have hfit := growslice_fits hlt hb
  have h48' : ¬ (281474976710656 < Builtin.nextslicecap (sLen + n) sCap * i.bytes) := by omega
  simp only [Builtin.append_, h0, h1, List.getElem?_toArray, List.getElem?_cons_zero, List.getElem?_cons_succ, Sem.run_bind, r_und hs, Result.andThen_ok, hsz, r_und ht]
  simp [hl, hn, h63', h48', r_info T.inf, Question.forced, ho, hf, zeroValue, T.zro, newRow, grownCap]
  congr 2
  apply Array.ext'
  simp [List.append_assoc]

theorem fitsB_spec {n b : Nat} (h : fitsB n b = true) : n * b ≤ 140737488355328 ∧ n ≤ 9223372036854775807 := by
  unfold fitsB at h
  rw [Bool.and_eq_true] at h
  exact ⟨Nat.le_of_ble_eq_true h.1, Nat.le_of_ble_eq_true h.2⟩

theorem append_sound {at_ : Array TypeId} {ty e : TypeId} {i : TypeInfo} {zv : Value} {z : List AV} (T : ApT P at_ e i zv z) (hzs : z.length = i.size) {x y : AV} {u v : Value} (hu : VR ρ x u) (hv : VR ρ y v)
    (hx : doAppend e i.bytes i.size (isU8 z) x y H = some (.v a H')) (hr : HR P base ρ H w) :
    ∃ r w' ρ', (Builtin.append_ at_ ty #[u, v]).run P w = .ok r w' ∧ VR ρ' a r ∧ Onto P base ρ H w ρ' H' w' := by
  have hzv : zv.cells.size = i.size := by have := (T.zr ρ).len; rw [Array.length_toList] at this; omega
  have hu8 : isU8 z = true → i.size = 1 := by intro h; rw [isU8_eq h] at hzs; simpa using hzs.symm
  unfold doAppend at hx
  split at hx
  · cases hx
  rename_i n new hsrc
  cases hnl : Nat.beq new.length (Nat.mul n i.size)
  · rw [hnl] at hx; cases hx
  rw [hnl] at hx
  simp only [Bool.not_true, cond_false] at hx
  obtain ⟨news, hnv, hlen, hfirst⟩ := src_sound hr hsrc hv hnl
  obtain ⟨news2, hnv2, _, hfirst2⟩ := src_sound (hr.drew (w.drawn + 1)) hsrc hv hnl
  have hnl' : new.length = n * i.size := Nat.eq_of_beq_eq_true hnl
  have hnews : news.length = n * i.size := by rw [hnv.len, hnl']
  have hnews2 : news2.length = n * i.size := by rw [hnv2.len, hnl']
  have hf1 : (Builtin.firstCells i.size n v).run P w = .ok news.toArray w := by
    have := hfirst n (Nat.le_refl n); rwa [List.take_of_length_le (by omega)] at this
  have hf2 : (Builtin.firstCells i.size n v).run P w.drew = .ok news2.toArray w.drew := by
    have := hfirst2 n (Nat.le_refl n); rwa [List.take_of_length_le (by omega)] at this
  -- the growing case, once
  have grow : ∀ (p : Option Addr) (sLen sCap : Nat) (olds : List Value) (old : List AV) (H0 : Hp), VRs ρ old olds → old.length = sLen * i.size →
      (Builtin.firstCells i.size sLen (.slice p sLen sCap)).run P w.drew = .ok olds.toArray w.drew → sCap < sLen + n → (sLen + n) * i.bytes ≤ 140737488355328 → sLen + n ≤ 9223372036854775807 →
      grown e (isU8 z) i.size (sLen + n) (old ++ new) H0 = some (.v a H') → Onto P base ρ H w ρ H0 w.drew →
      ∃ r w' ρ', (Builtin.append_ at_ ty #[.slice p sLen sCap, v]).run P w = .ok r w' ∧ VR ρ' a r ∧ Onto P base ρ H w ρ' H' w' := by
    intro p sLen sCap olds old H0 ho hol hrun hlt hb h63 hg hon
    have hge := grownCap_ge w (sLen + n) sCap e
    have hcsv : VRs ρ (old ++ new) (olds ++ news2) := VRs.append ho hnv2
    have hcl : (old ++ new).length = (sLen + n) * i.size := by rw [List.length_append, hol, hnl', Nat.add_mul]
    have hle : ρ.le (ρ.upd H0.next (w.heap.size, grownCap w (sLen + n) sCap e * i.size)) := Rn.le_upd (hon.hr.fresh _ (Nat.le_refl _))
    obtain ⟨blk, rfl, rfl, hro, hde, hbr⟩ := grown_blk (P := P) hg (VRs.mono hle _ _ hcsv) hcl hu8
    have hvl := hcsv.len
    have hcz : ((olds ++ news2).toArray ++ Builtin.zeroCells zv.cells (grownCap w (sLen + n) sCap e - (sLen + n))).size = grownCap w (sLen + n) sCap e * i.size := by
      simp only [Array.size_append, List.size_toArray, zeroCells_size, hzv, hvl, hcl]
      rw [← Nat.add_mul]; congr 1; omega
    refine ⟨_, _, ρ.upd H0.next (w.heap.size, grownCap w (sLen + n) sCap e * i.size), ap_grow T hlen hf2 hrun hlt hb h63, ?_,
      hon.trans (hon.hr.alloc blk _ (grownCap w (sLen + n) sCap e * i.size) _ rfl rfl rfl rfl ?_)⟩
    · simp only [VR]
      exact ⟨_, _, _, Rn.upd_same _ _ _, rfl, hge, by simp⟩
    · have := hbr ((olds ++ news2).toArray ++ Builtin.zeroCells zv.cells (grownCap w (sLen + n) sCap e - (sLen + n))) (0, 0) (by
        simp only [Array.toList_append]
        rw [List.take_append_of_le_length (by simp only [hvl, hcl]; exact Nat.le_refl _), List.take_of_length_le (by simp only [hvl, hcl]; exact Nat.le_refl _)]) (by rw [hcz]; exact Nat.mul_le_mul_right _ hge) (fun j _ hj => by simp at hj)
      rw [hcz] at this
      exact this
  cases x <;> try (cases hx; done)
  · -- L
    rename_i id off len cap
    simp only [VR] at hu
    obtain ⟨b, N, hρ, rfl⟩ := hu
    simp only at hx
    cases hle : Nat.ble (Nat.add len n) cap
    · rw [hle] at hx
      simp only [cond_false] at hx
      have hlt : cap < len + n := by
        rcases Nat.lt_or_ge cap (len + n) with h | h
        · exact h
        · have : Nat.ble (Nat.add len n) cap = true := Nat.ble_eq_true_of_le h
          rw [this] at hle; cases hle
      cases hbb : fitsB (Nat.add len n) i.bytes
      · rw [hbb] at hx; cases hx
      rw [hbb] at hx
      simp only [cond_true] at hx
      split at hx
      · rename_i old hold
        obtain ⟨olds, h1, h2, h3, _⟩ := readN_sound (hr.drew (w.drawn + 1)) hold hρ
        have hol := h1.len
        have hld := loadCells_run (P := P) w.drew b off olds h3
        rw [show olds.length = len * i.size from by rw [hol]; exact h2] at hld
        obtain ⟨f1, f2⟩ := fitsB_spec hbb
        exact grow (some ⟨b, off, none⟩) len cap olds old H h1 h2 hld hlt f1 f2 hx (Onto.drew hr (w.drawn + 1))
      · cases hx
    · rw [hle] at hx
      simp only [cond_true] at hx
      have hle' : len + n ≤ cap := Nat.le_of_ble_eq_true hle
      split at hx
      · rename_i H1 hw
        obtain ⟨rfl, rfl⟩ := ok_inj hx
        obtain ⟨w', h1, h2⟩ := writeN_sound hr hw hρ hnv
        refine ⟨_, w', ρ, ap_room T hlen hf1 hle' (fun a ha => ?_) (fun h => by cases h), ?_, h2⟩
        · cases ha
          rw [addr_add]; exact h1
        · simp only [VR]; exact ⟨b, N, hρ, rfl⟩
      · cases hx
  · -- G
    rename_i id off len es'
    simp only [VR] at hu
    obtain ⟨b, N, c, hρ, rfl, hlc, hcN⟩ := hu
    simp only at hx
    cases hn0 : Nat.beq n 0
    · rw [hn0] at hx
      simp only [cond_false] at hx
      have hn : n ≠ 0 := by intro h; rw [h] at hn0; cases hn0
      cases hcond : (Nat.beq off 0 && (Nat.beq i.size es' && fitsB (Nat.add len n) i.bytes) && growT e (H.t.get id))
      · rw [hcond] at hx; cases hx
      rw [hcond] at hx
      simp only [cond_true] at hx
      simp only [Bool.and_eq_true] at hcond
      obtain ⟨⟨c1, c2, c3⟩, c4⟩ := hcond
      obtain rfl : off = 0 := Nat.eq_of_beq_eq_true c1
      obtain rfl : i.size = es' := Nat.eq_of_beq_eq_true c2
      obtain ⟨hb, hb2⟩ := fitsB_spec c3
      split at hx
      · rename_i old hold
        have hblk : ∃ blk, H.t.get id = some blk ∧ blk.ro = false ∧ blk.isDead = false ∧ ∀ o, BR P ρ N blk o → ∃ ws fz, o = .cells ws e fz ∧ ws.size = N ∧ loose fz N := by
          unfold growT at c4
          split at c4
          · rename_i t' cs hg
            obtain rfl := Nat.eq_of_beq_eq_true c4
            exact ⟨_, hg, rfl, rfl, fun o ⟨ws, fz, h1, h2, _, _, h5⟩ => ⟨ws, fz, h1, h2, h5⟩⟩
          · rename_i t' m x op hg
            obtain rfl := Nat.eq_of_beq_eq_true c4
            exact ⟨_, hg, rfl, rfl, fun o ⟨ws, fz, _, h1, h2, _, _, _, _, _, h5⟩ => ⟨ws, fz, h1, h2, h5⟩⟩
          · cases c4
        obtain ⟨blk, hg, hro, hde, hcell⟩ := hblk
        obtain ⟨o1, ho1, hbr1, _⟩ := hr.blk id _ hg hde b N hρ
        obtain ⟨ws, fz, rfl, hwN, hlo⟩ := hcell o1 hbr1
        have hkill := hr.kill hg
        by_cases hroom : len + n ≤ c
        · -- in place
          obtain ⟨olds, h1, h2, h3, h4⟩ := readN_sound hr hold hρ
          have hol := h1.len
          have hmul : (len + n) * i.size ≤ c * i.size := Nat.mul_le_mul_right _ hroom
          rw [Nat.add_mul] at hmul
          have hone : ∀ v ∈ news, v.oneCell' = true := by
            unfold grown at hx
            cases hu : isU8 z
            · rw [hu] at hx
              simp only [cond_false] at hx
              cases hall : (old ++ new).all one
              · rw [hall] at hx; cases hx
              · rw [List.all_append, Bool.and_eq_true] at hall
                exact ones_cells hnv hall.2
            · rw [hu] at hx
              simp only [cond_true] at hx
              split at hx
              · rename_i x hpk
                obtain ⟨m, _, hm, _⟩ := packB_spec hpk (VRs.append h1 hnv)
                intro v hv
                have : v ∈ byteVals m := by rw [← hm]; exact List.mem_append_right _ hv
                simp only [byteVals, List.mem_map] at this
                obtain ⟨_, _, rfl⟩ := this
                rfl
              · cases hx
          have hst := storeCells_run (P := P) b (len * i.size) e fz news 0 ws w ho1 (by rw [hwN]; exact hlo) (by omega) hone
          have hcsv : VRs ρ (old ++ new) (olds ++ news) := VRs.append h1 hnv
          have hcl : (old ++ new).length = (len + n) * i.size := by rw [List.length_append, h2, hnl', Nat.add_mul]; rfl
          have hle : ρ.le (ρ.upd H.next (b, N)) := Rn.le_upd (hr.fresh _ (Nat.le_refl _))
          obtain ⟨nb, rfl, rfl, hro2, hde2, hbr⟩ := grown_blk (P := P) (H := H.put id .dead) hx (VRs.mono hle _ _ hcsv) hcl hu8
          obtain ⟨X, hX⟩ : ∃ X, X = (ws.toList.take (len * i.size + 0) ++ news ++ ws.toList.drop (len * i.size + 0 + news.length)).toArray := ⟨_, rfl⟩
          rw [← hX] at hst
          have hsz2 : X.size = N := by
            rw [hX]; simp; omega
          have h2' : olds.length = len * i.size := by rw [hol]; exact h2
          have hbr' : ∀ (cells : Array Value) (fz : Nat × Nat), cells.toList.take ((len + n) * i.size) = olds ++ news → (len + n) * i.size ≤ cells.size → loose fz cells.size → BR P (ρ.upd H.next (b, N)) cells.size nb (.cells cells e fz) := hbr
          have hbrX := hbr' X fz (by
            rw [hX]
            simp only [Nat.add_zero]
            have hto : ws.toList.take (len * i.size) = olds := by
              apply List.ext_getElem?
              intro j
              by_cases hj : j < olds.length
              · have hcj := h3 j _ (List.getElem?_eq_getElem hj)
                rw [cell_at w b _ ws e fz ho1, Nat.zero_add] at hcj
                rw [List.getElem?_take, if_pos (by omega), List.getElem?_eq_getElem hj]
                simpa using hcj
              · rw [List.getElem?_eq_none (by simp; omega), List.getElem?_eq_none (by omega)]
            have hln : (olds ++ news).length = (len + n) * i.size := by rw [List.length_append, hol, h2, hnews, Nat.add_mul]; rfl
            rw [hto, List.take_append_of_le_length (by omega), List.take_of_length_le (by omega)]) (by rw [hsz2, Nat.add_mul]; omega) (by rw [hsz2]; exact hlo)
          rw [hsz2] at hbrX
          refine ⟨.slice (some ⟨b, 0, none⟩) (len + n) c, w.setRow b X, ρ.upd H.next (b, N), ap_room T hlen hf1 hroom (fun a ha => ?_) (fun h => by cases h), ?_,
            hr.rekey hg hde hρ hro nb _ _ (setRow_heap w b _ _ e fz ho1) hbrX (heap_setRow_size _ _ _) (fun k hk => setRow_other _ _ _ _ hk) rfl rfl rfl⟩
          · cases ha
            rw [addr_add, Nat.zero_add]; exact hst
          · simp only [VR]
            exact ⟨b, N, c, Rn.upd_same _ _ _, rfl, hroom, hcN⟩
        · -- a new block
          obtain ⟨olds, h1, h2, h3, _⟩ := readN_sound (hr.drew (w.drawn + 1)) hold hρ
          have hol := h1.len
          have hld := loadCells_run (P := P) w.drew b 0 olds h3
          rw [show olds.length = len * i.size from by rw [hol]; exact h2] at hld
          exact grow (some ⟨b, 0, none⟩) len c olds old (H.put id .dead) h1 h2 hld (by omega) hb hb2 hx (hkill.trans (Onto.drew hkill.hr (w.drawn + 1)))
      · cases hx
    · rw [hn0] at hx
      simp only [cond_true] at hx
      have hn : n = 0 := Nat.eq_of_beq_eq_true hn0
      obtain ⟨rfl, rfl⟩ := ok_inj hx
      have hnn : news = [] := List.eq_nil_of_length_eq_zero (by rw [hnews, hn]; simp)
      subst hnn
      subst hn
      refine ⟨_, w, ρ, ap_room T hlen hf1 (by omega) (fun a ha => rfl) (fun h => by cases h), ?_, Onto.refl hr⟩
      simp only [VR]; exact ⟨b, N, c, hρ, rfl, hlc, hcN⟩
  · -- nil
    simp only [VR] at hu; subst hu
    simp only at hx
    cases hn0 : Nat.beq n 0
    · rw [hn0] at hx
      simp only [cond_false] at hx
      have hn : n ≠ 0 := by intro h; rw [h] at hn0; cases hn0
      cases hbb : fitsB n i.bytes
      · rw [hbb] at hx; cases hx
      rw [hbb] at hx
      simp only [cond_true] at hx
      obtain ⟨f1, f2⟩ := fitsB_spec hbb
      exact grow none 0 0 [] [] H VRs.nil (by simp) (by simp [Builtin.firstCells]) (by omega) (by rw [Nat.zero_add]; exact f1) (by rw [Nat.zero_add]; exact f2) (by simpa using hx) (Onto.drew hr (w.drawn + 1))
    · rw [hn0] at hx
      simp only [cond_true] at hx
      have hn : n = 0 := Nat.eq_of_beq_eq_true hn0
      obtain ⟨rfl, rfl⟩ := ok_inj hx
      have hnn : news = [] := List.eq_nil_of_length_eq_zero (by rw [hnews, hn]; simp)
      subst hnn
      subst hn
      refine ⟨_, w, ρ, ap_room T hlen hf1 (by omega) (fun a ha => by cases ha) (fun _ => rfl), ?_, Onto.refl hr⟩
      simp [VR]


theorem ex_ap {c : Call} {x y : Operand} {x' y' : Opd} {e : TypeId} {i : TypeInfo} {zv : Value} {z : List AV} (ho : o.op = .call c) (hcal : c.callee = .builtin .append) (hargs : c.args.toList = [x, y]) (T : ApT P c.argTypes e i zv z) (hzs : z.length = i.size)
    (c1 : cOpd P x = some x') (c2 : cOpd P y = some y') (hx : aexec (.ap e i.bytes i.size (isU8 z) x' y') tm H = some (.v a H')) (he : EvR P ρ tm f) (hr : HR P base ρ H w) : Snd P base ρ H w (execOp f o) a H' := by
  simp only [aexec] at hx
  have ha := args2 hargs
  split at hx
  · rename_i u v hu hv
    obtain ⟨r, w', ρ', h1, h2, h3⟩ := append_sound (ty := o.type) T hzs (he _ _ _ c1 hu) (he _ _ _ c2 hv) hx hr
    refine ⟨.value r, w', ρ', ?_, .inl ⟨r, rfl, h2⟩, h3⟩
    simp only [execOp, ho, Sem.run_bind, resolve, hcal, ha, Sem.run_pure, Result.andThen_ok, invoke, builtin, List.map_toArray, List.map_cons, List.map_nil, h1]
  · cases hx

theorem takeN_len {n : Nat} {l r : List AV} (h : takeN n l = some r) : n ≤ l.length := by
  obtain ⟨h1, h2⟩ := takeN_spec h
  rw [h1, List.length_take] at h2
  omega

theorem ex_cp {c : Call} {x y : Operand} {x' y' : Opd} {s e : TypeId} {es : Nat} (ho : o.op = .call c) (hcal : c.callee = .builtin .copy) (hargs : c.args.toList = [x, y]) (h0 : c.argTypes[0]? = some s) (hs : P.underlying s = some (.slice e)) (hes : sizeT P e = some es)
    (c1 : cOpd P x = some x') (c2 : cOpd P y = some y') (hx : aexec (.cp es x' y') tm H = some (.v a H')) (he : EvR P ρ tm f) (hr : HR P base ρ H w) : Snd P base ρ H w (execOp f o) a H' := by
  simp only [aexec] at hx
  have ha := args2 hargs
  split at hx
  · rename_i d v hd hv
    have hud := he _ _ _ c1 hd
    have huv := he _ _ _ c2 hv
    unfold doCopy at hx
    split at hx
    · cases hx
    rename_i n new hsrc
    cases hnl : Nat.beq new.length (Nat.mul n es)
    · rw [hnl] at hx; cases hx
    rw [hnl] at hx
    simp only [Bool.not_true, cond_false] at hx
    obtain ⟨news, hnv, hlen, hfirst⟩ := src_sound hr hsrc huv hnl
    have key : ∀ (p : Option Addr) (len cap : Nat) (w' : World), f x = .slice p len cap → (∀ a, p = some a → (storeCells a (news.take (min n len * es))).run P w = .ok () w') → (p = none → w' = w) →
        (execOp f o).run P w = .ok (.value (.int .i64 (min n len : Nat))) w' := by
      intro p len cap w' hfx hst hnone
      have hf := hfirst (min n len) (Nat.min_le_left _ _)
      cases p with
      | none =>
        have := hnone rfl; subst this
        simp only [execOp, ho, Sem.run_bind, resolve, hcal, ha, Sem.run_pure, Result.andThen_ok, invoke, builtin, List.map_toArray, List.map_cons, List.map_nil, Builtin.copy_, h0, List.getElem?_toArray, List.getElem?_cons_zero, List.getElem?_cons_succ, hfx, r_und hs, hlen, r_size hes, min_eq_nat, hf, goInt]
      | some a =>
        have := hst a rfl
        simp only [execOp, ho, Sem.run_bind, resolve, hcal, ha, Sem.run_pure, Result.andThen_ok, invoke, builtin, List.map_toArray, List.map_cons, List.map_nil, Builtin.copy_, h0, List.getElem?_toArray, List.getElem?_cons_zero, List.getElem?_cons_succ, hfx, r_und hs, hlen, r_size hes, min_eq_nat, hf, goInt, this]
    split at hx
    · obtain ⟨rfl, rfl⟩ := ok_inj hx
      simp only [VR] at hud
      refine ⟨_, w, ρ, key none 0 0 w hud (fun a h => by cases h) (fun _ => rfl), .inl ⟨_, rfl, ?_⟩, Onto.refl hr⟩
      simp [VR]
    · rename_i id off len cap
      split at hx
      · rename_i l hl
        split at hx
        · rename_i H1 hw
          obtain ⟨rfl, rfl⟩ := ok_inj hx
          simp only [VR] at hud
          obtain ⟨b, N, hρ, hfx⟩ := hud
          obtain ⟨t1, t2⟩ := takeN_spec hl
          have hv2 : VRs ρ l (news.take (min n len * es)) := by rw [t1]; exact VRs.take _ hnv
          obtain ⟨w', h1, h2⟩ := writeN_sound hr hw hρ hv2
          refine ⟨_, w', ρ, key _ len cap w' hfx (fun a h => by cases h; exact h1) (fun h => by cases h), .inl ⟨_, rfl, ?_⟩, h2⟩
          simp only [VR]; rfl
        · cases hx
      · cases hx
    · rename_i id off len es'
      split at hx
      · rename_i l hl
        split at hx
        · rename_i H1 hw
          obtain ⟨rfl, rfl⟩ := ok_inj hx
          simp only [VR] at hud
          obtain ⟨b, N, cap, hρ, hfx, _⟩ := hud
          obtain ⟨t1, t2⟩ := takeN_spec hl
          have hv2 : VRs ρ l (news.take (min n len * es)) := by rw [t1]; exact VRs.take _ hnv
          obtain ⟨w', h1, h2⟩ := writeN_sound hr hw hρ hv2
          refine ⟨_, w', ρ, key _ len cap w' hfx (fun a h => by cases h; exact h1) (fun h => by cases h), .inl ⟨_, rfl, ?_⟩, h2⟩
          simp only [VR]; rfl
        · cases hx
      · cases hx
    · cases hx
  · cases hx

/-! two functions of the library without a Go body -/
open Extern in
theorem look1 : allGenericRows.lookup "internal/bytealg.IndexByteString" = none := by kernel_rfl
open Extern in
theorem look2 : allTypedRows.lookup "internal/bytealg.IndexByteString" = none := by kernel_rfl
open Extern in
theorem look3 : allRows.lookup "internal/bytealg.IndexByteString" = some BytealgIndexByte.indexByte := by kernel_rfl
open Extern in
theorem look4 : allNextRows.lookup "internal/bytealg.IndexByteString" = none := by kernel_rfl
open Extern in
theorem lookc1 : allGenericRows.lookup "internal/bytealg.CountString" = none := by kernel_rfl
open Extern in
theorem lookc2 : allTypedRows.lookup "internal/bytealg.CountString" = none := by kernel_rfl
open Extern in
theorem lookc3 : allRows.lookup "internal/bytealg.CountString" = some BytealgCount.count := by kernel_rfl
open Extern in
theorem lookc4 : allNextRows.lookup "internal/bytealg.CountString" = none := by kernel_rfl

theorem nbeq (a b : Nat) : (a == b) = Nat.beq a b := by
  rw [Bool.eq_iff_iff]; simp only [beq_iff_eq]
  exact ⟨fun h => h ▸ Nat.beq_refl _, Nat.eq_of_beq_eq_true⟩
theorem idxB_sound (l : List UInt8) (c : Nat) : ∀ (n i : Nat), i + n = l.length → idxB (enc l) c n i = (List.range' i n).find? fun j => (l.getD j 0).toNat == c
  | 0, i, _ => rfl
  | n + 1, i, h => by
    have hi : i < l.length := by omega
    simp only [idxB, List.range'_succ, List.find?_cons]
    rw [byteAt_spec hi, idxB_sound l c n (i + 1) (by omega)]
    have hg : l.getD i 0 = l[i] := by simp [List.getD, hi]
    rw [hg]
    cases hb : Nat.beq (l[i]).toNat c
    · have : ((l[i]).toNat == c) = false := by rw [nbeq]; exact hb
      rw [this]; rfl
    · have : ((l[i]).toNat == c) = true := by rw [nbeq]; exact hb
      rw [this]; rfl

theorem cntB_sound (l : List UInt8) (c : Nat) : ∀ (n i a : Nat), i + n = l.length → cntB (enc l) c n i a = (l.drop i).foldl (fun k x => if x.toNat == c then k + 1 else k) a
  | 0, i, a, h => by
    rw [List.drop_eq_nil_of_le (by omega)]; rfl
  | n + 1, i, a, h => by
    have hi : i < l.length := by omega
    simp only [cntB]
    rw [byteAt_spec hi, cntB_sound l c n (i + 1) _ (by omega), List.drop_eq_getElem_cons hi, List.foldl_cons]
    congr 1
    cases hb : Nat.beq (l[i]).toNat c
    · have : ((l[i]).toNat == c) = false := by rw [nbeq]; exact hb
      rw [this]; rfl
    · have : ((l[i]).toNat == c) = true := by rw [nbeq]; exact hb
      rw [this]; rfl


theorem byte_back {m : Nat} (h : m < 256) (x : UInt8) : (x == ((m : Int).toNat).toUInt8) = (x.toNat == m) := by
  rw [Bool.eq_iff_iff]
  simp only [beq_iff_eq, Int.toNat_natCast]
  constructor
  · intro e; rw [e]; simp; omega
  · intro e; apply UInt8.toNat_inj.1; simp; omega

theorem find_ib {fn : Func} (hn : fn.name = "internal/bytealg.IndexByteString") (ho : (Extern.allNextRows.lookup fn.origin).isNone = true) : Extern.findNext fn = none ∧ Extern.find fn = some Extern.BytealgIndexByte.indexByte := by
  constructor
  · simp only [Extern.findNext, hn, look4]
    cases h : Extern.allNextRows.lookup fn.origin with
    | none => rfl
    | some x => rw [h] at ho; cases ho
  · simp only [Extern.find, hn, look1, look2, look3]; rfl
theorem find_cb {fn : Func} (hn : fn.name = "internal/bytealg.CountString") (ho : (Extern.allNextRows.lookup fn.origin).isNone = true) : Extern.findNext fn = none ∧ Extern.find fn = some Extern.BytealgCount.count := by
  constructor
  · simp only [Extern.findNext, hn, lookc4]
    cases h : Extern.allNextRows.lookup fn.origin with
    | none => rfl
    | some x => rw [h] at ho; cases ho
  · simp only [Extern.find, hn, lookc1, lookc2, lookc3]; rfl

theorem ex_ib1 {c : Call} {g : FuncId} {fn : Func} {x y : Operand} {x' y' : Opd} (ho : o.op = .call c) (hcal : c.callee = .value (.func g)) (hg : P.funcs[g]? = some fn) (hname : fn.name = "internal/bytealg.IndexByteString") (hbody : fn.body.isNone = true)
    (hor : (Extern.allNextRows.lookup fn.origin).isNone = true) (hargs : c.args.toList = [x, y]) (hfg : f (.func g) = .func (.func g) #[] #[])
    (c1 : cOpd P x = some x') (c2 : cOpd P y = some y') (hx : aexec (.ib1 x' y') tm H = some (.v a H')) (he : EvR P ρ tm f) (hr : HR P base ρ H w) : Snd P base ρ H w (execOp f o) a H' := by
  have ha := args2 hargs
  obtain ⟨e1, e2⟩ := find_ib hname hor
  simp only [aexec] at hx
  split at hx
  · rename_i n z b hn hb
    split at hx
    · rename_i m hm
      have hu := he _ _ _ c1 hn
      have hv := he _ _ _ c2 hb
      simp only [VR] at hu
      obtain ⟨s, hu, hl, rfl⟩ := hu
      obtain ⟨hlt, hv⟩ := byteOfAV_spec hm hv
      have hcall := run_callFunc_extern hg (by rw [hname]; kernel_rfl) hbody e1 e2 #[.string s, .int .u8 m] w
      have hidx := idxB_sound s.data.toList m n 0 (by omega)
      have hrange : (List.range s.size).find? (fun i => s[i]! == ((m : Int).toNat).toUInt8) = (List.range' 0 n).find? fun j => (s.data.toList.getD j 0).toNat == m := by
        have hsz : s.size = n := by rw [← hl, Array.length_toList]; rfl
        rw [hsz, List.range_eq_range']
        have : ∀ (l : List Nat), (∀ i ∈ l, i < n) → l.find? (fun i => s[i]! == ((m : Int).toNat).toUInt8) = l.find? fun j => (s.data.toList.getD j 0).toNat == m := by
          intro l hl2
          induction l with
          | nil => rfl
          | cons i l ih =>
            have hi := hl2 i (by simp)
            have e3 : s[i]! = s.data.toList.getD i 0 := by
              have h2 : i < s.size := by omega
              have h3 : i < s.data.toList.length := by omega
              rw [getElem!_pos s i h2, List.getD_eq_getElem?_getD, List.getElem?_eq_getElem h3, Option.getD_some]; rfl
            simp only [List.find?_cons]
            rw [e3, byte_back hlt, ih (fun j hj => hl2 j (by simp [hj]))]
        exact this _ (fun i hi => by simp at hi; omega)
      have hrun : (Extern.BytealgIndexByte.indexByte #[.string s, .int .u8 m]).run P w = .ok (.int .i64 (match idxB (enc s.data.toList) m n 0 with | some i => (i : Int) | none => -1)) w := by
        rw [run_indexByte_string]
        unfold firstIdx
        rw [hrange, hidx]
        cases (List.range' 0 n).find? (fun j => (s.data.toList.getD j 0).toNat == m) <;> rfl
      have hex : (execOp f o).run P w = .ok (.value (.int .i64 (match idxB (enc s.data.toList) m n 0 with | some i => (i : Int) | none => -1))) w := by
        simp only [execOp, ho, Sem.run_bind, resolve, hcal, hfg, Deferred.ofValue, Sem.run_pure, Result.andThen_ok, invoke, ha, List.map_toArray, List.map_cons, List.map_nil, hu, hv]
        rw [hrun] at hcall
        exact hcall
      split at hx
      · rename_i k hk
        obtain ⟨rfl, rfl⟩ := ok_inj hx
        rw [hk] at hex
        exact Snd.same hr hex (by simp only [VR]; rfl)
      · rename_i hk
        obtain ⟨rfl, rfl⟩ := ok_inj hx
        rw [hk] at hex
        exact Snd.same hr hex (by simp only [VR])
    · cases hx
  · cases hx

theorem ex_cb1 {c : Call} {g : FuncId} {fn : Func} {x y : Operand} {x' y' : Opd} (ho : o.op = .call c) (hcal : c.callee = .value (.func g)) (hg : P.funcs[g]? = some fn) (hname : fn.name = "internal/bytealg.CountString") (hbody : fn.body.isNone = true)
    (hor : (Extern.allNextRows.lookup fn.origin).isNone = true) (hargs : c.args.toList = [x, y]) (hfg : f (.func g) = .func (.func g) #[] #[])
    (c1 : cOpd P x = some x') (c2 : cOpd P y = some y') (hx : aexec (.cb1 x' y') tm H = some (.v a H')) (he : EvR P ρ tm f) (hr : HR P base ρ H w) : Snd P base ρ H w (execOp f o) a H' := by
  have ha := args2 hargs
  obtain ⟨e1, e2⟩ := find_cb hname hor
  simp only [aexec] at hx
  split at hx
  · rename_i n z b hn hb
    split at hx
    · rename_i m hm
      obtain ⟨rfl, rfl⟩ := ok_inj hx
      have hu := he _ _ _ c1 hn
      have hv := he _ _ _ c2 hb
      simp only [VR] at hu
      obtain ⟨s, hu, hl, rfl⟩ := hu
      obtain ⟨hlt, hv⟩ := byteOfAV_spec hm hv
      have hcall := run_callFunc_extern hg (by rw [hname]; kernel_rfl) hbody e1 e2 #[.string s, .int .u8 m] w
      have hcnt := cntB_sound s.data.toList m n 0 0 (by omega)
      have hrun := Go.Lib.run_countString (P := P) s m w
      have hfold : Go.Lib.countByte s.data.toList ((m : Int).toNat.toUInt8) = cntB (enc s.data.toList) m n 0 0 := by
        rw [hcnt, List.drop_zero]
        have e3 : ∀ (l : List UInt8) (k : Nat), l.foldl (fun k x => if x.toNat == m then k + 1 else k) k = k + l.count ((m : Int).toNat.toUInt8) := by
          intro l
          induction l with
          | nil => intro k; simp
          | cons x l ih =>
            intro k
            rw [List.foldl_cons, ih, List.count_cons, byte_back hlt]
            cases x.toNat == m <;> simp; omega
        rw [e3]
        simp [Go.Lib.countByte]
      rw [hfold] at hrun
      have hex : (execOp f o).run P w = .ok (.value (.int .i64 (cntB (enc s.data.toList) m n 0 0 : Nat))) w := by
        simp only [execOp, ho, Sem.run_bind, resolve, hcal, hfg, Deferred.ofValue, Sem.run_pure, Result.andThen_ok, invoke, ha, List.map_toArray, List.map_cons, List.map_nil, hu, hv]
        rw [hrun] at hcall
        exact hcall
      exact Snd.same hr hex (by simp only [VR]; rfl)
    · cases hx
  · cases hx

end
end Go.Fx

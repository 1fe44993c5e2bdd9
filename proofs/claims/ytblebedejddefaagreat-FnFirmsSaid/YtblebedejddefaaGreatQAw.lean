/- The drawing of arguments: a field; a worth; a list of sites; The drawing of arguments: a list of sites; The drawing of arguments for the laws on gains; The drawing of classes and limits of sites; The drawing of arguments for the law on firms. No condition. -/
import Derived.Test.YtblebedejddefaaGreatQAv
import Derived.Test.YtblebedejddefaaGreatQAc
import Derived.Test.YtblebedejddefaaGreatQAa
import Derived.Test.YtblebedejddefaaGreatQAn
namespace Go.Proofs.YtblebedejddefaaGreat
open Go.RowKit Go.Sort

theorem DFld.shape {w : World} {b : Nat} {v : Value} (h : DFld w b v) : ∃ A n c B k d, v = .agg #[.slice A n c, .slice B k d] ∧ n ≤ 9223372036854775807 := by
  obtain ⟨F, A, c, B, d, e, h1, h2⟩ := h
  exact ⟨A, F.op.length, c, B, F.di.length, d, e, h1.1.1⟩
theorem DFld.shape2 {w : World} {b : Nat} {v : Value} (h : DFld w b v) : ∃ A n c B k d, v = .agg #[.slice A n c, .slice B k d] ∧ n ≤ 9223372036854775807 ∧ k ≤ 90 := by
  obtain ⟨F, A, c, B, d, e, h1, h2⟩ := h
  exact ⟨A, F.op.length, c, B, F.di.length, d, e, h1.1.1, h2.1⟩
theorem DFld.shape3 {w : World} {b : Nat} {v : Value} (h : DFld w b v) : ∃ A n c B k d, v = .agg #[.slice A n c, .slice B k d] ∧ n ≤ 100 ∧ k ≤ 90 := by
  obtain ⟨F, A, c, B, d, e, h1, h2⟩ := h
  exact ⟨A, F.op.length, c, B, F.di.length, d, e, h1.2.2, h2.1⟩
theorem DFld.turn {S : Nat → Prop} {w w' : World} {b : Nat} {v : Value} (h : DFld w b v) (ht : Turn S w w') (hn : ∀ i, b ≤ i → ¬ S i) : DFld w' b v := by
  obtain ⟨F, hf⟩ := h
  exact ⟨F, hf.turn ht hn⟩
theorem DFld.kp {w w' : World} {b : Nat} {v : Value} (h : DFld w b v) (hk : Kp w w') : DFld w' b v := h.turn (Turn.of_kp (S := fun _ => False) hk) (fun _ _ h => h)
theorem DFld.mono {w : World} {b b' : Nat} {v : Value} (h : DFld w b v) (hb : b' ≤ b) : DFld w b' v := by
  obtain ⟨F, hf⟩ := h
  exact ⟨F, hf.mono (fun i hi => by omega)⟩
/-- The result's cells, when the field is stored there. -/
theorem fld_ret {w w2 : World} {p m rb : Nat} {x y : Value} (hf : DFld w2 (rb + 1) (.agg #[x, y])) (ht : w2.there rb 0 2) (hc : Cur w2 p m) (hp : p < rb) (k : Tp p w w2) (hr : w.heap.size ≤ rb) : (w2.setCells rb 0 [x, y]).cell? ⟨rb, 0, none⟩ = some x ∧ (w2.setCells rb 0 [x, y]).cell? ⟨rb, 1, none⟩ = some y ∧ DFld (w2.setCells rb 0 [x, y]) w.heap.size (.agg #[x, y]) ∧ Cur (w2.setCells rb 0 [x, y]) p m ∧ Tp p w (w2.setCells rb 0 [x, y]) := by
  have ts := turn_setCellsD rb [x, y] 0 w2
  have hg := World.rangeAt_setCells_same w2 rb 0 [x, y] ht
  exact ⟨hg 0 _ rfl, hg 1 _ rfl, (hf.turn ts (fun i hi => by omega)).mono (by omega), hc.turn ts (fun i hi => by omega), ⟨ts.os.trans k.os, ts.tape.trans k.tape, ts.output.trans k.output, Nat.le_trans k.size ts.size, fun i hi hn => by
    rw [ts.block i (Nat.lt_of_lt_of_le hi k.size) (by omega), k.block i hi hn]⟩⟩
set_option maxRecDepth 100000 in
set_option maxHeartbeats 2000000 in
theorem fieldOf_any (p m : Nat) (most : Int) (w : World) (hc : Cur w p m) (hm : m < 100000000) (hmost : 1 ≤ most) :
    Calls Tryz.prog 30 #[.pointer (some ⟨p, 0, none⟩), .int .i64 most] w fun e w' => ∃ v, e = .returned v ∧ DFld w' w.heap.size v ∧ Cur w' p (m + 5000) ∧ Tp p w w' := by
  have hp := hc.lt
  have t0 := there_newD w [.slice none 0 0, .slice none 0 0] 27
  simp only [List.length_cons, List.length_nil, Nat.zero_add, Nat.reduceAdd] at t0
  have k0 : Tp p w (w.alloc (.cells #[.slice none 0 0, .slice none 0 0] 27)) := Turn.of_kp ((Kp.refl w).alloc _)
  have c0 := hc.kp ((Kp.refl w).alloc (.cells #[.slice none 0 0, .slice none 0 0] 27))
  have hsz : Hid ((w.alloc (.cells #[.slice none 0 0, .slice none 0 0] 27)).heap.size = w.heap.size + 1) := by show _ = _; simp
  have CP := Lib.hid (pick_any p m 3 (w.alloc (.cells #[.slice none 0 0, .slice none 0 0] 27)) c0 (by omega) (by omega))
  go_enter Tryz.func30, Tryz.ntmps30
  go_wp2_with fail
  generalize w.alloc (.cells #[.slice none 0 0, .slice none 0 0] 27) = wa at *
  with_reducible refine Calls.mono CP.out ?_
  rintro e w1 ⟨r, rfl, hr, c1, u1⟩
  clear CP
  have hw1 : w.heap.size + 1 ≤ w1.heap.size := by have := u1.size; rw [hsz.out] at this; exact this
  have hr3 : r = 0 ∨ r = 1 ∨ r = 2 := by have := hr.2.2 (by omega); omega
  clear hr c0
  rcases hr3 with rfl | rfl | rfl
  · have CC := Lib.hid (rawField_any p (m + 2) most w1 c1 (by omega) hmost)
    go_wp2_with fail
    with_reducible refine Calls.mono CC.out ?_
    rintro e w2 ⟨a, d, rfl, ⟨xs, J, B, Cp, f, hrf, hrb⟩, c2, u2⟩
    clear CC
    have CC := Lib.hid (spoilt2_any p _ a d w1.heap.size xs J B Cp f wa w2 c2 (by omega) (u1.trans u2) (by rw [hsz.out]; exact hw1) (by rw [hsz.out]; omega) u2.size hrf hrb)
    go_wp2_with fail
    with_reducible refine Calls.mono CC.out ?_
    rintro e w3 ⟨v, rfl, hv, cv, kv⟩
    clear CC
    rw [hsz.out] at hv
    obtain ⟨A9, n9, c9, B9, k9, d9, rfl, _⟩ := hv.shape
    have ht9 := turn_thereD kv t0 (by show ¬ w.heap.size = p; omega)
    have HE := Lib.hid (fld_ret hv ht9 cv hp (k0.trans kv) (Nat.le_refl _))
    go_wp2_with (first | (refine wpList_store_mid rfl 27 (.tmp 4) (.tmp 13) rfl w.heap.size 0 #[.slice A9 n9 c9, .slice B9 k9 d9] rfl rfl ht9 (by kernel_rfl) (by simp [Value.oneCell']) ?_) | fail)
    obtain ⟨z0, z1, z2, z3, z4⟩ := HE.out
    exact bodyPost_ret (v := .agg #[.slice A9 n9 c9, .slice B9 k9 d9]) (by simp [results, Tryz.results30, go_sem, z0, z1]) rfl ⟨_, rfl, z2, z3.mono (by omega), z4⟩
  · have CC := Lib.hid (lineField_any p (m + 2) most w1 c1 (by omega) hmost)
    go_wp2_with fail
    with_reducible refine Calls.mono CC.out ?_
    rintro e w2 ⟨a, d, rfl, ⟨xs, J, B, Cp, f, hrf, hrb⟩, c2, u2⟩
    clear CC
    have CC := Lib.hid (spoilt2_any p _ a d w1.heap.size xs J B Cp f wa w2 c2 (by omega) (u1.trans u2) (by rw [hsz.out]; exact hw1) (by rw [hsz.out]; omega) u2.size hrf hrb)
    go_wp2_with fail
    with_reducible refine Calls.mono CC.out ?_
    rintro e w3 ⟨v, rfl, hv, cv, kv⟩
    clear CC
    rw [hsz.out] at hv
    obtain ⟨A9, n9, c9, B9, k9, d9, rfl, _⟩ := hv.shape
    have ht9 := turn_thereD kv t0 (by show ¬ w.heap.size = p; omega)
    have HE := Lib.hid (fld_ret hv ht9 cv hp (k0.trans kv) (Nat.le_refl _))
    go_wp2_with (first | (refine wpList_store_mid rfl 27 (.tmp 4) (.tmp 20) rfl w.heap.size 0 #[.slice A9 n9 c9, .slice B9 k9 d9] rfl rfl ht9 (by kernel_rfl) (by simp [Value.oneCell']) ?_) | fail)
    obtain ⟨z0, z1, z2, z3, z4⟩ := HE.out
    exact bodyPost_ret (v := .agg #[.slice A9 n9 c9, .slice B9 k9 d9]) (by simp [results, Tryz.results30, go_sem, z0, z1]) rfl ⟨_, rfl, z2, z3.mono (by omega), z4⟩
  · have CC := Lib.hid (rawField_any p (m + 2) most w1 c1 (by omega) hmost)
    go_wp2_with fail
    with_reducible refine Calls.mono CC.out ?_
    rintro e w2 ⟨a, d, rfl, ⟨xs, J, B, Cp, f, hrf, hrb⟩, c2, u2⟩
    clear CC
    have CC := Lib.hid (l2Close_any a d w1.heap.size xs J B Cp f w2 hrf hrb)
    go_wp2_with fail
    with_reducible refine Calls.mono CC.out ?_
    rintro e w3 ⟨a', d', rfl, ⟨xs', J', B', Cp', f', hrf', hrb'⟩, k3⟩
    clear CC
    have h23 := u2.size
    have CC := Lib.hid (spoilt2_any p _ a' d' w2.heap.size xs' J' B' Cp' f' wa w3 (c2.kp k3) (by omega) ((u1.trans u2).trans (Turn.of_kp k3)) (by rw [hsz.out]; omega) (by rw [hsz.out]; omega) k3.le hrf' hrb')
    go_wp2_with fail
    with_reducible refine Calls.mono CC.out ?_
    rintro e w4 ⟨v, rfl, hv, cv, kv⟩
    clear CC
    rw [hsz.out] at hv
    obtain ⟨A9, n9, c9, B9, k9, d9, rfl, _⟩ := hv.shape
    have ht9 := turn_thereD kv t0 (by show ¬ w.heap.size = p; omega)
    have HE := Lib.hid (fld_ret hv ht9 cv hp (k0.trans kv) (Nat.le_refl _))
    go_wp2_with (first | (refine wpList_store_mid rfl 27 (.tmp 4) (.tmp 26) rfl w.heap.size 0 #[.slice A9 n9 c9, .slice B9 k9 d9] rfl rfl ht9 (by kernel_rfl) (by simp [Value.oneCell']) ?_) | fail)
    obtain ⟨z0, z1, z2, z3, z4⟩ := HE.out
    exact bodyPost_ret (v := .agg #[.slice A9 n9 c9, .slice B9 k9 d9]) (by simp [results, Tryz.results30, go_sem, z0, z1]) rfl ⟨_, rfl, z2, z3.mono (by omega), z4⟩
set_option maxRecDepth 100000 in
set_option maxHeartbeats 1000000 in
theorem field_any (p m : Nat) (w : World) (hc : Cur w p m) (hm : m < 100000000) :
    Calls Tryz.prog 47 #[.pointer (some ⟨p, 0, none⟩)] w fun e w' => ∃ v, e = .returned v ∧ DFld w' w.heap.size v ∧ Cur w' p (m + 5000) ∧ Tp p w w' := by
  have hp := hc.lt
  have t0 := there_newD w [.slice none 0 0, .slice none 0 0] 27
  simp only [List.length_cons, List.length_nil, Nat.zero_add, Nat.reduceAdd] at t0
  have k0 : Tp p w (w.alloc (.cells #[.slice none 0 0, .slice none 0 0] 27)) := Turn.of_kp ((Kp.refl w).alloc _)
  have c0 := hc.kp ((Kp.refl w).alloc (.cells #[.slice none 0 0, .slice none 0 0] 27))
  have hsz : Hid ((w.alloc (.cells #[.slice none 0 0, .slice none 0 0] 27)).heap.size = w.heap.size + 1) := by show _ = _; simp
  have CC := Lib.hid (fieldOf_any p m 7 (w.alloc (.cells #[.slice none 0 0, .slice none 0 0] 27)) c0 hm (by omega))
  go_enter Tryz.func47, Tryz.ntmps47
  go_wp2_with fail
  generalize w.alloc (.cells #[.slice none 0 0, .slice none 0 0] 27) = wa at *
  with_reducible refine Calls.mono CC.out ?_
  rintro e w3 ⟨v, rfl, hv, cv, kv⟩
  clear CC
  rw [hsz.out] at hv
  obtain ⟨A9, n9, c9, B9, k9, d9, rfl, _⟩ := hv.shape
  have ht9 := turn_thereD kv t0 (by show ¬ w.heap.size = p; omega)
  have HE := Lib.hid (fld_ret hv ht9 cv hp (k0.trans kv) (Nat.le_refl _))
  go_wp2_with (first | (refine wpList_store_mid rfl 27 (.tmp 2) (.tmp 4) rfl w.heap.size 0 #[.slice A9 n9 c9, .slice B9 k9 d9] rfl rfl ht9 (by kernel_rfl) (by simp [Value.oneCell']) ?_) | fail)
  obtain ⟨z0, z1, z2, z3, z4⟩ := HE.out
  exact bodyPost_ret (v := .agg #[.slice A9 n9 c9, .slice B9 k9 d9]) (by simp [results, Tryz.results47, go_sem, z0, z1]) rfl ⟨_, rfl, z2, z3.mono (by omega), z4⟩
end Go.Proofs.YtblebedejddefaaGreat

namespace Go.Proofs.YtblebedejddefaaGreat
open Go.RowKit Go.Sort

/-- A list that has been drawn. -/
def DInts (w : World) (b : Nat) (v : Value) : Prop := ∃ xs : List Int, Own w b v xs ∧ xs.length ≤ 200
theorem DInts.mono {w : World} {b b' : Nat} {v : Value} (h : DInts w b v) (hb : b' ≤ b) : DInts w b' v := by
  obtain ⟨xs, h1, h2⟩ := h
  exact ⟨xs, h1.mono hb, h2⟩
theorem DInts.turn {S : Nat → Prop} {w w' : World} {b : Nat} {v : Value} (h : DInts w b v) (ht : Turn S w w') (hn : ∀ i, b ≤ i → ¬ S i) : DInts w' b v := by
  obtain ⟨xs, h1, h2⟩ := h
  exact ⟨xs, own_low h1 ht hn, h2⟩
theorem DInts.kp {w w' : World} {b : Nat} {v : Value} (h : DInts w b v) (hk : Kp w w') : DInts w' b v := h.turn (Turn.of_kp (S := fun _ => False) hk) (fun _ _ h => h)
theorem DInts.ints {w : World} {b : Nat} {v : Value} (h : DInts w b v) : ∃ A c xs, v = .slice A xs.length c ∧ IntsAt w A xs ∧ xs.length ≤ 200 ∧ xs.length ≤ c := by
  obtain ⟨xs, h1, h2⟩ := h
  obtain ⟨A, c, e, hi⟩ := h1.ints (by omega)
  exact ⟨A, c, xs, e, hi, h2, h1.capL e⟩
theorem own_oneD (w : World) (base : Nat) (a : Int) (hb : base ≤ w.heap.size) : Own (w.alloc (.cells #[.int .i64 a] 3)) base (.slice (some ⟨w.heap.size, 0, none⟩) 1 1) [a] :=
  World.ownsRow_lit w #[.int .i64 a] 1 hb (by unfold maxLen; omega) (by simp)
/-- Own memory has turned. -/
theorem tp_own {w w1 w2 : World} {p : Nat} {S : Nat → Prop} (k : Tp p w w1) (ht : Turn S w1 w2) (hs : ∀ i, S i → w.heap.size ≤ i) : Tp p w w2 :=
  ⟨ht.os.trans k.os, ht.tape.trans k.tape, ht.output.trans k.output, Nat.le_trans k.size ht.size, fun i hi hn => by
    rw [ht.block i (Nat.lt_of_lt_of_le hi k.size) (fun e => by have := hs i e; omega), k.block i hi hn]⟩
set_option maxRecDepth 100000 in
set_option maxHeartbeats 2000000 in
theorem sites_any (p m : Nat) (A : Option Addr) (n c : Nat) (B : Option Addr) (k d : Nat) (w : World) (hc : Cur w p m) (hm : m < 100000000) (hn : n ≤ 9223372036854775807) :
    Calls Tryz.prog 48 #[.pointer (some ⟨p, 0, none⟩), .agg #[.slice A n c, .slice B k d]] w fun e w' => ∃ v, e = .returned v ∧ DInts w' w.heap.size v ∧ Cur w' p (m + 30) ∧ Tp p w w' := by
  have hp := hc.lt
  have k0 : Kp w (w.alloc (.cells #[.slice A n c, .slice B k d] 27)) := (Kp.refl w).alloc _
  obtain ⟨d0, d1⟩ := box2 w (.slice A n c) (.slice B k d) 27
  obtain ⟨nn, hnn⟩ : ∃ nn : Nat, min (n : Int) 7 = (nn : Int) := ⟨min n 7, by omega⟩
  have hn7 : nn ≤ 7 := by omega
  have CL := Lib.hid (l1Least_any (n : Int) 7 (w.alloc (.cells #[.slice A n c, .slice B k d] 27)))
  rw [hnn] at CL
  obtain ⟨P, HP, hpw, hP⟩ := pow_wrap (nn : Int) (by omega) (by omega)
  rw [Int.toNat_natCast] at hpw
  have hP1 : 1 ≤ P := by rw [HP.out]; exact Nat.one_le_two_pow
  have c0 := hc.kp k0
  have t0 : Tp p w (w.alloc (.cells #[.slice A n c, .slice B k d] 27)) := Turn.of_kp k0
  have CP := Lib.hid (pick_any p m P (w.alloc (.cells #[.slice A n c, .slice B k d] 27)) c0 (by omega) (by omega))
  clear hnn
  go_enter Tryz.func48, Tryz.ntmps48
  go_wp2_with fail
  generalize w.alloc (.cells #[.slice A n c, .slice B k d] 27) = wa at *
  with_reducible refine Calls.mono CL.out ?_
  rintro e w1 ⟨rfl, hw⟩
  obtain rfl := hw
  clear CL
  go_wp2_with fail
  with_reducible refine Calls.mono CP.out ?_
  rintro e w2 ⟨r, rfl, hr, c2, u2⟩
  clear CP
  obtain ⟨q, rfl⟩ := Int.eq_ofNat_of_zero_le hr.1
  have hq : q < P := by have := hr.2.2 (by omega); omega
  have CB := Lib.hid (l2Bits_any nn (q + 1) w2 (by omega) (by omega))
  rw [show (((q + 1 : Nat)) : Int) = 1 + (q : Int) from by push_cast; omega] at CB
  have t2 := t0.trans u2
  clear hr c0 t0 u2
  go_wp2_with fail
  with_reducible refine Calls.mono CB.out ?_
  rintro e w3 ⟨v, rfl, ho, hk3⟩
  clear CB
  have hbl := bitsL_len nn (q + 1)
  obtain ⟨ys, hys⟩ : ∃ ys, bitsL nn (q + 1) = ys := ⟨_, rfl⟩
  rw [hys] at ho hbl
  have ho3 := ho.mono t2.size
  have t3 := t2.trans (Turn.of_kp hk3)
  have c3 := c2.kp hk3
  have CP := Lib.hid (one_any p (m + 2) 20 w3 c3 (by omega) (by omega))
  clear ho hys
  go_wp2_with fail
  with_reducible refine Calls.mono CP.out ?_
  rintro e w4 ⟨b, rfl, c4, u4⟩
  clear CP
  have ho4 := own_low ho3 u4 (fun i hi => by omega)
  have t4 := t3.trans u4
  clear ho3 t3 c3 hk3 c2 t2 u4
  cases b
  · obtain ⟨xs, rfl⟩ : ∃ xs, xs = ys := ⟨_, rfl⟩
    have hos := ho4
    have hcs := c4.mono (m' := m + 8) (by omega)
    have hts := t4
    clear ho4 c4 t4
    obtain ⟨As, cs, hvs⟩ := hos.shape
    obtain ⟨l, hl⟩ : ∃ l, xs.length = l := ⟨_, rfl⟩
    rw [hl] at hvs
    subst hvs
    have hl8 : l ≤ 8 := by omega
    by_cases hl0 : l = 0
    · subst hl0
      by_cases hn0 : nn = 0
      · subst hn0
        go_wp2_with fail
        go_ret
        exact ⟨_, rfl, ⟨xs, hos, by omega⟩, hcs.mono (by omega), hts⟩
      · have hnI : (0 : Int) < (nn : Int) := by omega
        have CP := Lib.hid (one_any p (m + 8) 6 w4 (hcs.mono (by omega)) (by omega) (by omega))
        go_wp2_with fail
        with_reducible refine Calls.mono CP.out ?_
        rintro e wz ⟨b, rfl, cz, uz⟩
        clear CP
        cases b
        · have CP := Lib.hid (pick_any p _ nn wz cz (by omega) (by omega))
          go_wp2_with fail
          with_reducible refine Calls.mono CP.out ?_
          rintro e wy ⟨r, rfl, _, cy, uy⟩
          clear CP
          have hwy : w.heap.size ≤ wy.heap.size := by have h1 := hts.size; have h2 := uz.size; have h3 := uy.size; omega
          have hone := own_oneD wy w.heap.size r hwy
          have hka : Kp wy (wy.alloc (.cells #[.int .i64 r] 3)) := (Kp.refl wy).alloc _
          go_wp2_with fail
          go_ret
          exact ⟨_, rfl, ⟨_, hone, by simp⟩, (cy.kp hka).mono (by omega), ((hts.trans uz).trans uy).trans (Turn.of_kp hka)⟩
        · have hos2 := own_low hos uz (fun i hi => by omega)
          go_wp2_with fail
          go_ret
          exact ⟨_, rfl, ⟨xs, hos2, by omega⟩, cz.mono (by omega), hts.trans uz⟩
    · have hlI : ((l : Int) == 0) = false := by simp; omega
      go_wp2_with fail
      go_ret
      exact ⟨_, rfl, ⟨xs, hos, by omega⟩, hcs.mono (by omega), hts⟩
  · have CC := amongLit_any p (m + 2 + 2) [-1, 0, (nn : Int)] w4 c4 (by omega) (by simp) (by simp)
    simp only [List.map_cons, List.map_nil, List.length_cons, List.length_nil, Nat.zero_add, Nat.reduceAdd] at CC
    replace CC := Lib.hid CC
    go_wp2_with fail
    with_reducible refine Calls.mono CC.out ?_
    rintro e w5 ⟨z, rfl, _, c5, u5⟩
    clear CC
    have ho5 := own_low ho4 u5 (fun i hi => by omega)
    have t5 := t4.trans u5
    have hys2 : ys.length < 1048576 := by omega
    have hbs : w.heap.size ≤ w5.heap.size := t5.size
    clear ho4 c4 t4 u5
    obtain ⟨N6, hN6⟩ : ∃ N6, ys.length + 1 = N6 := ⟨_, rfl⟩
    have hl6 : (ys ++ [z]).length = N6 := by rw [List.length_append, ← hN6]; rfl
    have hlI : ((N6 : Int) == 0) = false := by simp; omega
    go_wp2_with (at_builtin; go_loud (refine wpl_app rfl (.tmp 20) (.tmp 25) rfl w.heap.size _ ys z rfl rfl ho5 hbs hys2 ?_); intro v6 w6 ho6 ht6 h46; have hcs := c5.turn ht6 (fun i hi e => by have := (ho5.lt i e).1; omega); have hts := tp_own t5 ht6 (fun i e => (ho5.lt i e).1); have hos := ho6; obtain ⟨A6, c6, hv6⟩ := ho6.shape; rw [hl6] at hv6; subst hv6)
    go_ret
    exact ⟨_, rfl, ⟨_, hos, by omega⟩, hcs.mono (by omega), hts⟩
end Go.Proofs.YtblebedejddefaaGreat

namespace Go.Proofs.YtblebedejddefaaGreat
open Go.RowKit Go.Sort

/-- A new cursor. -/
theorem cur_new {w : World} {A : Option Addr} {n c : Nat} {t : TypeId} (hb : BytesAt w A n) : Cur (w.alloc (.cells #[.slice A n c, .int .i64 0, .int .u64 0] t)) w.heap.size 0 := by
  have hk : Kp w (w.alloc (.cells #[.slice A n c, .int .i64 0, .int .u64 0] t)) := (Kp.refl w).alloc _
  refine ⟨⟨A, n, c, 0, 0, ?_, ?_, ?_, Nat.le_refl _, hb.kp hk, fun ad e h0 => ?_⟩, there_newD w [.slice A n c, .int .i64 0, .int .u64 0] t⟩
  · rw [World.cell?_alloc_at _ _ _ _ rfl]; rfl
  · rw [World.cell?_alloc_at _ _ _ _ rfl]; rfl
  · rw [World.cell?_alloc_at _ _ _ _ rfl]; rfl
  · obtain ⟨ad', b, e', hc, _⟩ := hb.2 0 h0
    rw [e] at e'
    cases e'
    have := World.block_lt_of_cell? _ _ hc
    rwa [blk_add] at this
theorem BytesAt.kpD {w w' : World} {A : Option Addr} {n : Nat} (h : BytesAt w A n) (hk : Kp w w') : BytesAt w' A n := h.kp hk
/-- The results of a draw whose first one is a field. -/
theorem drw_ret {w w2 : World} {rb b : Nat} {x y : Value} (hf : DFld w2 b (.agg #[x, y])) (hb : rb < b) (ht : w2.there rb 0 2) (k : Kp w w2) (hr : w.heap.size ≤ rb) : (w2.setCells rb 0 [x, y]).cell? ⟨rb, 0, none⟩ = some x ∧ (w2.setCells rb 0 [x, y]).cell? ⟨rb, 1, none⟩ = some y ∧ DFld (w2.setCells rb 0 [x, y]) w.heap.size (.agg #[x, y]) ∧ Kp w (w2.setCells rb 0 [x, y]) ∧ Turn (fun i => i = rb) w2 (w2.setCells rb 0 [x, y]) := by
  have ts := turn_setCellsD rb [x, y] 0 w2
  have hg := World.rangeAt_setCells_same w2 rb 0 [x, y] ht
  exact ⟨hg 0 _ rfl, hg 1 _ rfl, (hf.turn ts (fun i hi => by omega)).mono (by omega), k.turn ts (fun i hi => by omega), ts⟩
def MgPost (w : World) (e : Ending) (w' : World) : Prop := ∃ v r l a, e = .returned (.tuple #[v, .int .i64 r, l, .int .i64 a]) ∧ DFld w' w.heap.size v ∧ DInts w' w.heap.size l ∧ Kp w w'
def WrPost (w : World) (e : Ending) (w' : World) : Prop := ∃ v l a, e = .returned (.tuple #[v, l, .int .i64 a]) ∧ DFld w' w.heap.size v ∧ DInts w' w.heap.size l ∧ Kp w w'
end Go.Proofs.YtblebedejddefaaGreat

namespace Go.Proofs.YtblebedejddefaaGreat
open Go.RowKit Go.Sort

/-- A list that lies in new blocks. -/
def DIz (w : World) (b : Nat) (v : Value) : Prop := ∃ A c xs, v = .slice A xs.length c ∧ IntsAt w A xs ∧ (∀ ad, A = some ad → b ≤ ad.block) ∧ xs.length ≤ 200 ∧ xs.length ≤ c
theorem DIz.mono {w : World} {b b' : Nat} {v : Value} (h : DIz w b v) (hb : b' ≤ b) : DIz w b' v := by
  obtain ⟨A, c, xs, e, h1, h2, h3⟩ := h
  exact ⟨A, c, xs, e, h1, fun ad e => Nat.le_trans hb (h2 ad e), h3⟩
theorem DIz.turn {S : Nat → Prop} {w w' : World} {b : Nat} {v : Value} (h : DIz w b v) (ht : Turn S w w') (hn : ∀ i, b ≤ i → ¬ S i) : DIz w' b v := by
  obtain ⟨A, c, xs, e, h1, h2, h3⟩ := h
  exact ⟨A, c, xs, e, ints_turnD h1 ht (fun ad e => hn _ (h2 ad e)), h2, h3⟩
theorem DIz.kp {w w' : World} {b : Nat} {v : Value} (h : DIz w b v) (hk : Kp w w') : DIz w' b v := h.turn (Turn.of_kp (S := fun _ => False) hk) (fun _ _ h => h)
theorem DIz.cut {w : World} {b : Nat} {v : Value} (h : DIz w b v) : ∃ A n c, v = .slice A n c := by
  obtain ⟨A, c, xs, e, _⟩ := h
  exact ⟨A, _, c, e⟩
theorem DIz.list {w : World} {b : Nat} {v : Value} (h : DIz w b v) : ∃ A c xs L, v = .slice A L c ∧ IntsAt w A xs ∧ Hid (xs.length = L) ∧ L ≤ 200 ∧ L ≤ c := by
  obtain ⟨A, c, xs, e, h1, _, h3, h4⟩ := h
  exact ⟨A, c, xs, _, e, h1, Lib.hid rfl, h3, h4⟩
theorem Own.diz {w : World} {b : Nat} {v : Value} {xs : List Int} (h : Own w b v xs) (hl : xs.length ≤ 200) : DIz w b v := by
  obtain ⟨A, c, e, hi⟩ := h.ints (by omega)
  refine ⟨A, c, xs, e, hi, fun ad ha => (h.lt ad.block ?_).1, hl, h.capL e⟩
  subst e ha
  rfl
theorem DInts.diz {w : World} {b : Nat} {v : Value} (h : DInts w b v) : DIz w b v := by
  obtain ⟨xs, h1, h2⟩ := h
  exact h1.diz h2
/-- All but the first number. -/
theorem Own.tailz {w : World} {b g n c : Nat} {xs : List Int} (h : Own w b (.slice (some ⟨g, 0, none⟩) (n + 1) c) xs) (hl : xs.length = n + 1) (h2 : n ≤ 200) : DIz w b (.slice (some ⟨g, 1, none⟩) n (c - 1)) := by
  have hi := h.intsOf (by omega)
  have hc := h.capL rfl
  have hb := (h.lt g rfl).1
  refine ⟨some ⟨g, 1, none⟩, c - 1, xs.tail, by rw [List.length_tail, hl]; rfl, ⟨by rw [List.length_tail]; omega, fun k hk => ?_⟩, fun ad e => by cases e; exact hb, by rw [List.length_tail]; omega, by rw [List.length_tail]; omega⟩
  rw [List.length_tail] at hk
  refine ⟨⟨g, 1, none⟩, rfl, ?_⟩
  have h3 := hi.some_ (show k + 1 < xs.length by omega)
  have e1 : (⟨g, 0, none⟩ : Addr).add (k + 1) = (⟨g, 1, none⟩ : Addr).add k := by
    rw [add0]
    simp [Addr.add, Nat.add_comm]
  rw [← e1, h3]
  simp [List.getD, List.getElem_tail, show k < xs.length - 1 by omega]
def ClPost (p m : Nat) (w : World) (e : Ending) (w' : World) : Prop := ∃ cv lv, e = .returned (.tuple #[cv, lv]) ∧ DIz w' w.heap.size cv ∧ DIz w' w.heap.size lv ∧ Cur w' p (m + 400) ∧ Tp p w w'
end Go.Proofs.YtblebedejddefaaGreat

namespace Go.Proofs.YtblebedejddefaaGreat
open Go.RowKit Go.Sort

/-- The first numbers. -/
theorem DIz.take {w : World} {b : Nat} {A : Option Addr} {n c k : Nat} (h : DIz w b (.slice A n c)) (hk : k ≤ n) : DIz w b (.slice A k c) := by
  obtain ⟨A2, c2, xs, e, h1, h2, h3, h4⟩ := h
  injection e with e1 e2 e3
  subst e1 e3
  have hl : (xs.take k).length = k := by rw [List.length_take]; omega
  refine ⟨A, c, xs.take k, by rw [hl], ⟨by omega, fun j hj => ?_⟩, h2, by omega, by omega⟩
  rw [hl] at hj
  obtain ⟨ad, ea, hc⟩ := h1.2 j (by omega)
  refine ⟨ad, ea, ?_⟩
  rw [hc]
  simp [List.getD, List.getElem?_take, hj]
theorem DIz.cap {w : World} {b : Nat} {A : Option Addr} {n c : Nat} (h : DIz w b (.slice A n c)) : n ≤ c := by
  obtain ⟨A2, c2, xs, e, h1, h2, h3, h4⟩ := h
  injection e with e1 e2 e3
  omega
theorem ints_takeT {w : World} {A : Option Addr} {xs : List Int} (h : IntsAt w A xs) {k : Nat} (hk : k ≤ xs.length) : IntsAt w A (xs.take k) := by
  have hl : (xs.take k).length = k := by rw [List.length_take]; omega
  refine ⟨by have := h.1; omega, fun j hj => ?_⟩
  rw [hl] at hj
  obtain ⟨ad, ea, hc⟩ := h.2 j (by omega)
  refine ⟨ad, ea, ?_⟩
  rw [hc]
  simp [List.getD, List.getElem?_take, hj]
def FvPost (w : World) (e : Ending) (w' : World) : Prop := ∃ v r, e = .returned (.tuple #[v, .int .i64 r]) ∧ DFld w' w.heap.size v ∧ Kp w w'
def BlPost (w : World) (e : Ending) (w' : World) : Prop := ∃ v r k, e = .returned (.tuple #[v, .int .i64 r, .int .i64 k]) ∧ DFld w' w.heap.size v ∧ Kp w w'
def BfPost (w : World) (e : Ending) (w' : World) : Prop := ∃ v l k, e = .returned (.tuple #[v, l, .int .i64 k]) ∧ DFld w' w.heap.size v ∧ DIz w' w.heap.size l ∧ Kp w w'
def CtPost (w : World) (e : Ending) (w' : World) : Prop := ∃ v l s, e = .returned (.tuple #[v, l, s]) ∧ DFld w' w.heap.size v ∧ DIz w' w.heap.size l ∧ DIz w' w.heap.size s ∧ Kp w w'
set_option maxRecDepth 100000 in
set_option maxHeartbeats 2000000 in
theorem drawBestFollower_any (A : Option Addr) (n c : Nat) (w : World) (hb : BytesAt w A n) :
    Calls Tryz.prog 14 #[.slice A n c] w (BfPost w) := by
  have t0 := there_newD w [.slice none 0 0, .slice none 0 0] 27
  simp only [List.length_cons, List.length_nil, Nat.zero_add, Nat.reduceAdd] at t0
  have k1 : Kp w (w.alloc (.cells #[.slice none 0 0, .slice none 0 0] 27)) := (Kp.refl w).alloc _
  have k2 : Kp _ ((w.alloc (.cells #[.slice none 0 0, .slice none 0 0] 27)).alloc (.cells #[.slice A n c, .int .i64 0, .int .u64 0] 56)) := (Kp.refl _).alloc _
  have cu := cur_new (c := c) (t := 56) (hb.kp k1)
  have ta := turn_thereD (Turn.of_kp (S := fun _ => False) k2) t0 (fun h => h)
  have hz : Hid (((w.alloc (.cells #[.slice none 0 0, .slice none 0 0] 27)).alloc (.cells #[.slice A n c, .int .i64 0, .int .u64 0] 56)).heap.size = w.heap.size + 2) := by show _ = _; simp
  have k0 := k1.trans k2
  rw [World.size_alloc] at cu
  have CF := Lib.hid (field_any (w.heap.size + 1) 0 _ cu (by omega))
  clear k1 k2 t0
  go_enter Tryz.func14, Tryz.ntmps14
  go_wp2_with fail
  generalize (w.alloc (.cells #[.slice none 0 0, .slice none 0 0] 27)).alloc (.cells #[.slice A n c, .int .i64 0, .int .u64 0] 56) = wa at *
  with_reducible refine Calls.mono CF.out ?_
  rintro e w1 ⟨v, rfl, hv, c1, u1⟩
  clear CF
  rw [hz.out] at hv
  obtain ⟨A9, n9, c9, B9, k9, d9, rfl, hn9⟩ := hv.shape
  have kv : Kp w1 (w1.alloc (.cells #[.slice A9 n9 c9, .slice B9 k9 d9] 27)) := (Kp.refl w1).alloc _
  obtain ⟨d0, d1⟩ := box2 w1 (.slice A9 n9 c9) (.slice B9 k9 d9) 27
  have hvb : w.heap.size + 2 ≤ w1.heap.size := by have := u1.size; rw [hz.out] at this; exact this
  have tv := turn_thereD (Turn.of_kp (S := fun _ => False) kv) (turn_thereD u1 ta (by omega)) (fun h => h)
  have kk : Kp w (w1.alloc (.cells #[.slice A9 n9 c9, .slice B9 k9 d9] 27)) := (k0.turn u1 (fun i hi => by omega)).trans kv
  have hfv := hv.kp kv
  have cv := c1.kp kv
  have HWB : Hid ((w1.alloc (.cells #[.slice A9 n9 c9, .slice B9 k9 d9] 27)).heap.size = w1.heap.size + 1) := by show _ = _; simp
  clear hv c1 u1 ta k0 cu hz
  go_wp2_with fail
  generalize w1.alloc (.cells #[.slice A9 n9 c9, .slice B9 k9 d9] 27) = wr at *
  generalize w1.heap.size = bv at *
  have hbv : bv ≠ w.heap.size + 1 := by omega
  have hqs : w.heap.size + 2 ≤ wr.heap.size := by have := HWB.out; omega
  have hpi : ∀ i, w.heap.size + 2 ≤ i → ¬ i = w.heap.size + 1 := fun i hi => by omega
  have CS := Lib.hid (sites_any (w.heap.size + 1) _ A9 n9 c9 B9 k9 d9 wr cv (by omega) hn9)
  with_reducible refine Calls.mono CS.out ?_
  rintro e wa ⟨l, rfl, hl, cA, uA⟩
  clear CS
  have e0 := turn_cellD uA d0 hbv
  have e1 := turn_cellD uA d1 hbv
  have ta2 := turn_thereD uA tv (by omega)
  have ka := kk.turn uA (fun i hi => by omega)
  have hfa := hfv.turn uA hpi
  have hz := hl.diz.mono hqs
  clear hl d0 d1 tv kk hfv cv uA
  obtain ⟨Al, nl, cl, rfl⟩ := hz.cut
  have hnl : nl ≤ cl := DIz.cap hz
  by_cases hn2 : 2 < nl
  · have hnI : (2 : Int) < (nl : Int) := by omega
    have hcI : (2 : Int) ≤ (cl : Int) := by omega
    have CP := Lib.hid (one_any (w.heap.size + 1) _ 6 wa cA (by omega) (by omega))
    go_wp2_with fail
    with_reducible refine Calls.mono CP.out ?_
    rintro e wo ⟨b, rfl, cB, uB⟩
    clear CP
    have f0 := turn_cellD uB e0 hbv
    have f1 := turn_cellD uB e1 hbv
    have tb2 := turn_thereD uB ta2 (by omega)
    have kb := Kp.turn ka uB (fun i hi => by omega)
    have hfb := DFld.turn hfa uB hpi
    have hzb := DIz.turn hz uB hpi
    cases b
    · have hzc := hzb.take (show 2 ≤ nl by omega)
      have kdr : Kp wo (wo).drew := (Kp.refl wo).drew
      have s0 := kdr.get f0
      have s1 := kdr.get f1
      have CC := amongLit_any (w.heap.size + 1) _ [1, 2, 1, 3, 0] (wo).drew (Cur.kp cB kdr) (by omega) (by decide) (by decide)
      simp only [List.map_cons, List.map_nil, List.length_cons, List.length_nil, Nat.zero_add, Nat.reduceAdd] at CC
      rw [show (wo).drew.heap.size = (wo).heap.size from rfl, alloc_drewD] at CC
      replace CC := Lib.hid CC
      go_wp2_with fail
      refine wp_region_held_drew (S := fun w' => w'.cell? ⟨bv, 0, none⟩ = some (.slice A9 n9 c9) ∧ w'.cell? ⟨bv, 1, none⟩ = some (.slice B9 k9 d9)) (by kernel_rfl) ⟨s0, s1⟩ (fun hHeld => ?_)
      refine wpAnyH_take (i := 0) (v := ?_) rfl (by kernel_rfl) (by kernel_rfl) (by kernel_rfl) (fun _ _ _ h => h) (Or.inl ⟨by rfl, ?_⟩) (by assumption) ?_
      rotate_left
      · intro w hSw; (try dsimp only at hSw); go_simp <;> with_reducible rfl
      (try simp only [Act.put, List.setIfInBounds_toArray, List.set_cons_zero, List.set_cons_succ])
      refine wpAnyH_take (i := 1) (v := ?_) rfl (by kernel_rfl) (by kernel_rfl) (by kernel_rfl) (fun _ _ _ h => h) (Or.inl ⟨by rfl, ?_⟩) (by assumption) ?_
      rotate_left
      · intro w hSw; (try dsimp only at hSw); go_simp <;> with_reducible rfl
      (try simp only [Act.put, List.setIfInBounds_toArray, List.set_cons_zero, List.set_cons_succ])
      refine wpAnyH_take (i := 2) (v := ?_) rfl (by kernel_rfl) (by kernel_rfl) (by kernel_rfl) (fun _ _ _ h => h) (Or.inl ⟨by rfl, ?_⟩) (by assumption) ?_
      rotate_left
      · intro w hSw; (try dsimp only at hSw); go_simp <;> with_reducible rfl
      (try simp only [Act.put, List.setIfInBounds_toArray, List.set_cons_zero, List.set_cons_succ])
      refine wpAnyH_ready (rs := [3]) (by kernel_rfl) (by simp) ?_
      refine AllReadyH.cons rfl (fun K hK => ?_) AllReadyH.nil
      go_simp
      refine hK.out _ _ ?_ (fun hHeld => ?_)
      · (try dsimp only); exact ⟨((Kp.refl (wo).drew).alloc _).get s0, ((Kp.refl (wo).drew).alloc _).get s1⟩
      clear hK K
      (try simp only [Act.put, List.setIfInBounds_toArray, List.set_cons_zero, List.set_cons_succ])
      refine wpAnyH_ready (rs := [4]) (by kernel_rfl) (by simp) ?_
      refine AllReadyH.cons rfl (fun K hK => ?_) AllReadyH.nil
      go_simp
      with_reducible refine Calls.mono CC.out ?_
      rintro e wm ⟨z, rfl, hz9, cm, um⟩
      clear CC
      (try go_wp2_with fail)
      have s0b := turn_cellD um s0 hbv
      have s1b := turn_cellD um s1 hbv
      refine hK.out _ _ ?_ (fun hHeld => ?_)
      · (try dsimp only); exact ⟨s0b, s1b⟩
      clear hK K
      (try simp only [Act.put, List.setIfInBounds_toArray, List.set_cons_zero, List.set_cons_succ])
      have tdm := turn_thereD um (turn_thereD (Turn.of_kp (S := fun _ => False) kdr) tb2 (fun h => h)) (by omega)
      have kdm : Kp w wm := (Kp.trans kb kdr).turn um (fun i hi => by omega)
      have hfm := (DFld.kp hfb kdr).turn um hpi
      have hzm := (DIz.kp hzc kdr).turn um hpi
      have HE := Lib.hid (drw_ret hfm (by omega) tdm kdm (Nat.le_refl _))
      refine wpAnyH_ready (rs := [5]) (by kernel_rfl) (by simp) ?_
      refine AllReadyH.cons rfl (fun K hK => ?_) AllReadyH.nil
      rw [if_pos (by rfl)]
      refine wp_store_mid 27 (.tmp 2) (.tmp 26) rfl w.heap.size 0 #[.slice A9 n9 c9, .slice B9 k9 d9] rfl rfl tdm (by kernel_rfl) (by simp [Value.oneCell']) ?_
      refine hK.out _ _ ?_ (fun hHeld => ?_)
      · (try dsimp only); exact ⟨turn_cellD HE.out.2.2.2.2 s0b (by show bv ≠ w.heap.size; omega), turn_cellD HE.out.2.2.2.2 s1b (by show bv ≠ w.heap.size; omega)⟩
      clear hK K
      (try simp only [Act.put, List.setIfInBounds_toArray, List.set_cons_zero, List.set_cons_succ])
      refine wpAnyH_take (i := 6) (v := ?_) rfl (by kernel_rfl) (by kernel_rfl) (by kernel_rfl) (fun _ _ _ h => h) (Or.inl ⟨by rfl, ?_⟩) (by assumption) ?_
      rotate_left
      · intro w hSw; (try dsimp only at hSw); go_simp <;> with_reducible rfl
      (try simp only [Act.put, List.setIfInBounds_toArray, List.set_cons_zero, List.set_cons_succ])
      refine wpAnyH_take (i := 7) (v := ?_) rfl (by kernel_rfl) (by kernel_rfl) (by kernel_rfl) (fun _ _ _ h => h) (Or.inl ⟨by rfl, ?_⟩) (by assumption) ?_
      rotate_left
      · intro w hSw; (try dsimp only at hSw); go_simp <;> with_reducible rfl
      (try simp only [Act.put, List.setIfInBounds_toArray, List.set_cons_zero, List.set_cons_succ])
      refine wpAnyH_done (by kernel_rfl) ?_ _
      go_wp2_with fail
      obtain ⟨z0, z1, z2, z3, z4⟩ := HE.out
      exact bodyPost_ret (v := .tuple #[.agg #[.slice A9 n9 c9, .slice B9 k9 d9], .slice Al 2 cl, .int .i64 z]) (by simp [results, Tryz.results14, go_sem, z0, z1]) rfl ⟨_, _, _, rfl, z2, (hzm.turn z4 (fun i hi => by omega)).mono (by omega), z3⟩
    · have kdr : Kp wo (wo).drew := (Kp.refl wo).drew
      have s0 := kdr.get f0
      have s1 := kdr.get f1
      have CC := amongLit_any (w.heap.size + 1) _ [1, 2, 1, 3, 0] (wo).drew (Cur.kp cB kdr) (by omega) (by decide) (by decide)
      simp only [List.map_cons, List.map_nil, List.length_cons, List.length_nil, Nat.zero_add, Nat.reduceAdd] at CC
      rw [show (wo).drew.heap.size = (wo).heap.size from rfl, alloc_drewD] at CC
      replace CC := Lib.hid CC
      go_wp2_with fail
      refine wp_region_held_drew (S := fun w' => w'.cell? ⟨bv, 0, none⟩ = some (.slice A9 n9 c9) ∧ w'.cell? ⟨bv, 1, none⟩ = some (.slice B9 k9 d9)) (by kernel_rfl) ⟨s0, s1⟩ (fun hHeld => ?_)
      refine wpAnyH_take (i := 0) (v := ?_) rfl (by kernel_rfl) (by kernel_rfl) (by kernel_rfl) (fun _ _ _ h => h) (Or.inl ⟨by rfl, ?_⟩) (by assumption) ?_
      rotate_left
      · intro w hSw; (try dsimp only at hSw); go_simp <;> with_reducible rfl
      (try simp only [Act.put, List.setIfInBounds_toArray, List.set_cons_zero, List.set_cons_succ])
      refine wpAnyH_take (i := 1) (v := ?_) rfl (by kernel_rfl) (by kernel_rfl) (by kernel_rfl) (fun _ _ _ h => h) (Or.inl ⟨by rfl, ?_⟩) (by assumption) ?_
      rotate_left
      · intro w hSw; (try dsimp only at hSw); go_simp <;> with_reducible rfl
      (try simp only [Act.put, List.setIfInBounds_toArray, List.set_cons_zero, List.set_cons_succ])
      refine wpAnyH_take (i := 2) (v := ?_) rfl (by kernel_rfl) (by kernel_rfl) (by kernel_rfl) (fun _ _ _ h => h) (Or.inl ⟨by rfl, ?_⟩) (by assumption) ?_
      rotate_left
      · intro w hSw; (try dsimp only at hSw); go_simp <;> with_reducible rfl
      (try simp only [Act.put, List.setIfInBounds_toArray, List.set_cons_zero, List.set_cons_succ])
      refine wpAnyH_ready (rs := [3]) (by kernel_rfl) (by simp) ?_
      refine AllReadyH.cons rfl (fun K hK => ?_) AllReadyH.nil
      go_simp
      refine hK.out _ _ ?_ (fun hHeld => ?_)
      · (try dsimp only); exact ⟨((Kp.refl (wo).drew).alloc _).get s0, ((Kp.refl (wo).drew).alloc _).get s1⟩
      clear hK K
      (try simp only [Act.put, List.setIfInBounds_toArray, List.set_cons_zero, List.set_cons_succ])
      refine wpAnyH_ready (rs := [4]) (by kernel_rfl) (by simp) ?_
      refine AllReadyH.cons rfl (fun K hK => ?_) AllReadyH.nil
      go_simp
      with_reducible refine Calls.mono CC.out ?_
      rintro e wm ⟨z, rfl, hz9, cm, um⟩
      clear CC
      (try go_wp2_with fail)
      have s0b := turn_cellD um s0 hbv
      have s1b := turn_cellD um s1 hbv
      refine hK.out _ _ ?_ (fun hHeld => ?_)
      · (try dsimp only); exact ⟨s0b, s1b⟩
      clear hK K
      (try simp only [Act.put, List.setIfInBounds_toArray, List.set_cons_zero, List.set_cons_succ])
      have tdm := turn_thereD um (turn_thereD (Turn.of_kp (S := fun _ => False) kdr) tb2 (fun h => h)) (by omega)
      have kdm : Kp w wm := (Kp.trans kb kdr).turn um (fun i hi => by omega)
      have hfm := (DFld.kp hfb kdr).turn um hpi
      have hzm := (DIz.kp hzb kdr).turn um hpi
      have HE := Lib.hid (drw_ret hfm (by omega) tdm kdm (Nat.le_refl _))
      refine wpAnyH_ready (rs := [5]) (by kernel_rfl) (by simp) ?_
      refine AllReadyH.cons rfl (fun K hK => ?_) AllReadyH.nil
      rw [if_pos (by rfl)]
      refine wp_store_mid 27 (.tmp 2) (.tmp 26) rfl w.heap.size 0 #[.slice A9 n9 c9, .slice B9 k9 d9] rfl rfl tdm (by kernel_rfl) (by simp [Value.oneCell']) ?_
      refine hK.out _ _ ?_ (fun hHeld => ?_)
      · (try dsimp only); exact ⟨turn_cellD HE.out.2.2.2.2 s0b (by show bv ≠ w.heap.size; omega), turn_cellD HE.out.2.2.2.2 s1b (by show bv ≠ w.heap.size; omega)⟩
      clear hK K
      (try simp only [Act.put, List.setIfInBounds_toArray, List.set_cons_zero, List.set_cons_succ])
      refine wpAnyH_take (i := 6) (v := ?_) rfl (by kernel_rfl) (by kernel_rfl) (by kernel_rfl) (fun _ _ _ h => h) (Or.inl ⟨by rfl, ?_⟩) (by assumption) ?_
      rotate_left
      · intro w hSw; (try dsimp only at hSw); go_simp <;> with_reducible rfl
      (try simp only [Act.put, List.setIfInBounds_toArray, List.set_cons_zero, List.set_cons_succ])
      refine wpAnyH_take (i := 7) (v := ?_) rfl (by kernel_rfl) (by kernel_rfl) (by kernel_rfl) (fun _ _ _ h => h) (Or.inl ⟨by rfl, ?_⟩) (by assumption) ?_
      rotate_left
      · intro w hSw; (try dsimp only at hSw); go_simp <;> with_reducible rfl
      (try simp only [Act.put, List.setIfInBounds_toArray, List.set_cons_zero, List.set_cons_succ])
      refine wpAnyH_done (by kernel_rfl) ?_ _
      go_wp2_with fail
      obtain ⟨z0, z1, z2, z3, z4⟩ := HE.out
      exact bodyPost_ret (v := .tuple #[.agg #[.slice A9 n9 c9, .slice B9 k9 d9], .slice Al nl cl, .int .i64 z]) (by simp [results, Tryz.results14, go_sem, z0, z1]) rfl ⟨_, _, _, rfl, z2, (hzm.turn z4 (fun i hi => by omega)).mono (by omega), z3⟩
  · have hnI : ¬ (2 : Int) < (nl : Int) := by omega
    have kdr : Kp wa (wa).drew := (Kp.refl wa).drew
    have s0 := kdr.get e0
    have s1 := kdr.get e1
    have CC := amongLit_any (w.heap.size + 1) _ [1, 2, 1, 3, 0] (wa).drew (Cur.kp cA kdr) (by omega) (by decide) (by decide)
    simp only [List.map_cons, List.map_nil, List.length_cons, List.length_nil, Nat.zero_add, Nat.reduceAdd] at CC
    rw [show (wa).drew.heap.size = (wa).heap.size from rfl, alloc_drewD] at CC
    replace CC := Lib.hid CC
    go_wp2_with fail
    refine wp_region_held_drew (S := fun w' => w'.cell? ⟨bv, 0, none⟩ = some (.slice A9 n9 c9) ∧ w'.cell? ⟨bv, 1, none⟩ = some (.slice B9 k9 d9)) (by kernel_rfl) ⟨s0, s1⟩ (fun hHeld => ?_)
    refine wpAnyH_take (i := 0) (v := ?_) rfl (by kernel_rfl) (by kernel_rfl) (by kernel_rfl) (fun _ _ _ h => h) (Or.inl ⟨by rfl, ?_⟩) (by assumption) ?_
    rotate_left
    · intro w hSw; (try dsimp only at hSw); go_simp <;> with_reducible rfl
    (try simp only [Act.put, List.setIfInBounds_toArray, List.set_cons_zero, List.set_cons_succ])
    refine wpAnyH_take (i := 1) (v := ?_) rfl (by kernel_rfl) (by kernel_rfl) (by kernel_rfl) (fun _ _ _ h => h) (Or.inl ⟨by rfl, ?_⟩) (by assumption) ?_
    rotate_left
    · intro w hSw; (try dsimp only at hSw); go_simp <;> with_reducible rfl
    (try simp only [Act.put, List.setIfInBounds_toArray, List.set_cons_zero, List.set_cons_succ])
    refine wpAnyH_take (i := 2) (v := ?_) rfl (by kernel_rfl) (by kernel_rfl) (by kernel_rfl) (fun _ _ _ h => h) (Or.inl ⟨by rfl, ?_⟩) (by assumption) ?_
    rotate_left
    · intro w hSw; (try dsimp only at hSw); go_simp <;> with_reducible rfl
    (try simp only [Act.put, List.setIfInBounds_toArray, List.set_cons_zero, List.set_cons_succ])
    refine wpAnyH_ready (rs := [3]) (by kernel_rfl) (by simp) ?_
    refine AllReadyH.cons rfl (fun K hK => ?_) AllReadyH.nil
    go_simp
    refine hK.out _ _ ?_ (fun hHeld => ?_)
    · (try dsimp only); exact ⟨((Kp.refl (wa).drew).alloc _).get s0, ((Kp.refl (wa).drew).alloc _).get s1⟩
    clear hK K
    (try simp only [Act.put, List.setIfInBounds_toArray, List.set_cons_zero, List.set_cons_succ])
    refine wpAnyH_ready (rs := [4]) (by kernel_rfl) (by simp) ?_
    refine AllReadyH.cons rfl (fun K hK => ?_) AllReadyH.nil
    go_simp
    with_reducible refine Calls.mono CC.out ?_
    rintro e wm ⟨z, rfl, hz9, cm, um⟩
    clear CC
    (try go_wp2_with fail)
    have s0b := turn_cellD um s0 hbv
    have s1b := turn_cellD um s1 hbv
    refine hK.out _ _ ?_ (fun hHeld => ?_)
    · (try dsimp only); exact ⟨s0b, s1b⟩
    clear hK K
    (try simp only [Act.put, List.setIfInBounds_toArray, List.set_cons_zero, List.set_cons_succ])
    have tdm := turn_thereD um (turn_thereD (Turn.of_kp (S := fun _ => False) kdr) ta2 (fun h => h)) (by omega)
    have kdm : Kp w wm := (Kp.trans ka kdr).turn um (fun i hi => by omega)
    have hfm := (DFld.kp hfa kdr).turn um hpi
    have hzm := (DIz.kp hz kdr).turn um hpi
    have HE := Lib.hid (drw_ret hfm (by omega) tdm kdm (Nat.le_refl _))
    refine wpAnyH_ready (rs := [5]) (by kernel_rfl) (by simp) ?_
    refine AllReadyH.cons rfl (fun K hK => ?_) AllReadyH.nil
    rw [if_pos (by rfl)]
    refine wp_store_mid 27 (.tmp 2) (.tmp 26) rfl w.heap.size 0 #[.slice A9 n9 c9, .slice B9 k9 d9] rfl rfl tdm (by kernel_rfl) (by simp [Value.oneCell']) ?_
    refine hK.out _ _ ?_ (fun hHeld => ?_)
    · (try dsimp only); exact ⟨turn_cellD HE.out.2.2.2.2 s0b (by show bv ≠ w.heap.size; omega), turn_cellD HE.out.2.2.2.2 s1b (by show bv ≠ w.heap.size; omega)⟩
    clear hK K
    (try simp only [Act.put, List.setIfInBounds_toArray, List.set_cons_zero, List.set_cons_succ])
    refine wpAnyH_take (i := 6) (v := ?_) rfl (by kernel_rfl) (by kernel_rfl) (by kernel_rfl) (fun _ _ _ h => h) (Or.inl ⟨by rfl, ?_⟩) (by assumption) ?_
    rotate_left
    · intro w hSw; (try dsimp only at hSw); go_simp <;> with_reducible rfl
    (try simp only [Act.put, List.setIfInBounds_toArray, List.set_cons_zero, List.set_cons_succ])
    refine wpAnyH_take (i := 7) (v := ?_) rfl (by kernel_rfl) (by kernel_rfl) (by kernel_rfl) (fun _ _ _ h => h) (Or.inl ⟨by rfl, ?_⟩) (by assumption) ?_
    rotate_left
    · intro w hSw; (try dsimp only at hSw); go_simp <;> with_reducible rfl
    (try simp only [Act.put, List.setIfInBounds_toArray, List.set_cons_zero, List.set_cons_succ])
    refine wpAnyH_done (by kernel_rfl) ?_ _
    go_wp2_with fail
    obtain ⟨z0, z1, z2, z3, z4⟩ := HE.out
    exact bodyPost_ret (v := .tuple #[.agg #[.slice A9 n9 c9, .slice B9 k9 d9], .slice Al nl cl, .int .i64 z]) (by simp [results, Tryz.results14, go_sem, z0, z1]) rfl ⟨_, _, _, rfl, z2, (hzm.turn z4 (fun i hi => by omega)).mono (by omega), z3⟩
end Go.Proofs.YtblebedejddefaaGreat

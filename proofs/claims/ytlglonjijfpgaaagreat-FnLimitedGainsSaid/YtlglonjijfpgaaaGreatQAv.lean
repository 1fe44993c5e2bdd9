/- The drawing of arguments: a field; a worth; a list of sites; The drawing of arguments: a list of sites; The drawing of arguments for the laws on gains. No condition. -/
import Derived.Test.YtlglonjijfpgaaaGreatQAu
import Derived.Test.YtlglonjijfpgaaaGreatQAd
import Derived.Test.YtlglonjijfpgaaaGreatQAa
namespace Go.Proofs.YtlglonjijfpgaaaGreat
open Go.RowKit Go.Sort

theorem DFld.shape {w : World} {b : Nat} {v : Value} (h : DFld w b v) : ∃ A n c B k d, v = .agg #[.slice A n c, .slice B k d] ∧ n ≤ 9223372036854775807 := by
  obtain ⟨F, A, c, B, d, e, h1, h2⟩ := h
  exact ⟨A, F.op.length, c, B, F.di.length, d, e, h1.1.1⟩
theorem DFld.shape2 {w : World} {b : Nat} {v : Value} (h : DFld w b v) : ∃ A n c B k d, v = .agg #[.slice A n c, .slice B k d] ∧ n ≤ 9223372036854775807 ∧ k ≤ 90 := by
  obtain ⟨F, A, c, B, d, e, h1, h2⟩ := h
  exact ⟨A, F.op.length, c, B, F.di.length, d, e, h1.1.1, h2.1⟩
theorem DFld.shape3 {w : World} {b : Nat} {v : Value} (h : DFld w b v) : ∃ A n c B k d, v = .agg #[.slice A n c, .slice B k d] ∧ n ≤ 100 ∧ k ≤ 90 := by
  obtain ⟨F, A, c, B, d, e, h1, h2⟩ := h
  exact ⟨A, F.op.length, c, B, F.di.length, d, e, h1.2.2, h2.1⟩
theorem DFld.turn {S : Nat → Prop} {w w' : World} {b : Nat} {v : Value} (h : DFld w b v) (ht : Turn S w w') (hn : ∀ i, b ≤ i → ¬ S i) : DFld w' b v := by
  obtain ⟨F, hf⟩ := h
  exact ⟨F, hf.turn ht hn⟩
theorem DFld.kp {w w' : World} {b : Nat} {v : Value} (h : DFld w b v) (hk : Kp w w') : DFld w' b v := h.turn (Turn.of_kp (S := fun _ => False) hk) (fun _ _ h => h)
theorem DFld.mono {w : World} {b b' : Nat} {v : Value} (h : DFld w b v) (hb : b' ≤ b) : DFld w b' v := by
  obtain ⟨F, hf⟩ := h
  exact ⟨F, hf.mono (fun i hi => by omega)⟩
/-- The result's cells, when the field is stored there. -/
theorem fld_ret {w w2 : World} {p m rb : Nat} {x y : Value} (hf : DFld w2 (rb + 1) (.agg #[x, y])) (ht : w2.there rb 0 2) (hc : Cur w2 p m) (hp : p < rb) (k : Tp p w w2) (hr : w.heap.size ≤ rb) : (w2.setCells rb 0 [x, y]).cell? ⟨rb, 0, none⟩ = some x ∧ (w2.setCells rb 0 [x, y]).cell? ⟨rb, 1, none⟩ = some y ∧ DFld (w2.setCells rb 0 [x, y]) w.heap.size (.agg #[x, y]) ∧ Cur (w2.setCells rb 0 [x, y]) p m ∧ Tp p w (w2.setCells rb 0 [x, y]) := by
  have ts := turn_setCellsD rb [x, y] 0 w2
  have hg := World.rangeAt_setCells_same w2 rb 0 [x, y] ht
  exact ⟨hg 0 _ rfl, hg 1 _ rfl, (hf.turn ts (fun i hi => by omega)).mono (by omega), hc.turn ts (fun i hi => by omega), ⟨ts.os.trans k.os, ts.tape.trans k.tape, ts.output.trans k.output, Nat.le_trans k.size ts.size, fun i hi hn => by
    rw [ts.block i (Nat.lt_of_lt_of_le hi k.size) (by omega), k.block i hi hn]⟩⟩
set_option maxRecDepth 100000 in
set_option maxHeartbeats 2000000 in
theorem fieldOf_any (p m : Nat) (most : Int) (w : World) (hc : Cur w p m) (hm : m < 100000000) (hmost : 1 ≤ most) :
    Calls Tryz.prog 72 #[.pointer (some ⟨p, 0, none⟩), .int .i64 most] w fun e w' => ∃ v, e = .returned v ∧ DFld w' w.heap.size v ∧ Cur w' p (m + 5000) ∧ Tp p w w' := by
  have hp := hc.lt
  have t0 := there_newD w [.slice none 0 0, .slice none 0 0] 27
  simp only [List.length_cons, List.length_nil, Nat.zero_add, Nat.reduceAdd] at t0
  have k0 : Tp p w (w.alloc (.cells #[.slice none 0 0, .slice none 0 0] 27)) := Turn.of_kp ((Kp.refl w).alloc _)
  have c0 := hc.kp ((Kp.refl w).alloc (.cells #[.slice none 0 0, .slice none 0 0] 27))
  have hsz : Hid ((w.alloc (.cells #[.slice none 0 0, .slice none 0 0] 27)).heap.size = w.heap.size + 1) := by show _ = _; simp
  have CP := Lib.hid (pick_any p m 3 (w.alloc (.cells #[.slice none 0 0, .slice none 0 0] 27)) c0 (by omega) (by omega))
  go_enter Tryz.func72, Tryz.ntmps72
  go_wp2_with fail
  generalize w.alloc (.cells #[.slice none 0 0, .slice none 0 0] 27) = wa at *
  with_reducible refine Calls.mono CP.out ?_
  rintro e w1 ⟨r, rfl, hr, c1, u1⟩
  clear CP
  have hw1 : w.heap.size + 1 ≤ w1.heap.size := by have := u1.size; rw [hsz.out] at this; exact this
  have hr3 : r = 0 ∨ r = 1 ∨ r = 2 := by have := hr.2.2 (by omega); omega
  clear hr c0
  rcases hr3 with rfl | rfl | rfl
  · have CC := Lib.hid (rawField_any p (m + 2) most w1 c1 (by omega) hmost)
    go_wp2_with fail
    with_reducible refine Calls.mono CC.out ?_
    rintro e w2 ⟨a, d, rfl, ⟨xs, J, B, Cp, f, hrf, hrb⟩, c2, u2⟩
    clear CC
    have CC := Lib.hid (spoilt2_any p _ a d w1.heap.size xs J B Cp f wa w2 c2 (by omega) (u1.trans u2) (by rw [hsz.out]; exact hw1) (by rw [hsz.out]; omega) u2.size hrf hrb)
    go_wp2_with fail
    with_reducible refine Calls.mono CC.out ?_
    rintro e w3 ⟨v, rfl, hv, cv, kv⟩
    clear CC
    rw [hsz.out] at hv
    obtain ⟨A9, n9, c9, B9, k9, d9, rfl, _⟩ := hv.shape
    have ht9 := turn_thereD kv t0 (by show ¬ w.heap.size = p; omega)
    have HE := Lib.hid (fld_ret hv ht9 cv hp (k0.trans kv) (Nat.le_refl _))
    go_wp2_with (first | (refine wpList_store_mid rfl 27 (.tmp 4) (.tmp 13) rfl w.heap.size 0 #[.slice A9 n9 c9, .slice B9 k9 d9] rfl rfl ht9 (by kernel_rfl) (by simp [Value.oneCell']) ?_) | fail)
    obtain ⟨z0, z1, z2, z3, z4⟩ := HE.out
    exact bodyPost_ret (v := .agg #[.slice A9 n9 c9, .slice B9 k9 d9]) (by simp [results, Tryz.results72, go_sem, z0, z1]) rfl ⟨_, rfl, z2, z3.mono (by omega), z4⟩
  · have CC := Lib.hid (lineField_any p (m + 2) most w1 c1 (by omega) hmost)
    go_wp2_with fail
    with_reducible refine Calls.mono CC.out ?_
    rintro e w2 ⟨a, d, rfl, ⟨xs, J, B, Cp, f, hrf, hrb⟩, c2, u2⟩
    clear CC
    have CC := Lib.hid (spoilt2_any p _ a d w1.heap.size xs J B Cp f wa w2 c2 (by omega) (u1.trans u2) (by rw [hsz.out]; exact hw1) (by rw [hsz.out]; omega) u2.size hrf hrb)
    go_wp2_with fail
    with_reducible refine Calls.mono CC.out ?_
    rintro e w3 ⟨v, rfl, hv, cv, kv⟩
    clear CC
    rw [hsz.out] at hv
    obtain ⟨A9, n9, c9, B9, k9, d9, rfl, _⟩ := hv.shape
    have ht9 := turn_thereD kv t0 (by show ¬ w.heap.size = p; omega)
    have HE := Lib.hid (fld_ret hv ht9 cv hp (k0.trans kv) (Nat.le_refl _))
    go_wp2_with (first | (refine wpList_store_mid rfl 27 (.tmp 4) (.tmp 20) rfl w.heap.size 0 #[.slice A9 n9 c9, .slice B9 k9 d9] rfl rfl ht9 (by kernel_rfl) (by simp [Value.oneCell']) ?_) | fail)
    obtain ⟨z0, z1, z2, z3, z4⟩ := HE.out
    exact bodyPost_ret (v := .agg #[.slice A9 n9 c9, .slice B9 k9 d9]) (by simp [results, Tryz.results72, go_sem, z0, z1]) rfl ⟨_, rfl, z2, z3.mono (by omega), z4⟩
  · have CC := Lib.hid (rawField_any p (m + 2) most w1 c1 (by omega) hmost)
    go_wp2_with fail
    with_reducible refine Calls.mono CC.out ?_
    rintro e w2 ⟨a, d, rfl, ⟨xs, J, B, Cp, f, hrf, hrb⟩, c2, u2⟩
    clear CC
    have CC := Lib.hid (l2Close_any a d w1.heap.size xs J B Cp f w2 hrf hrb)
    go_wp2_with fail
    with_reducible refine Calls.mono CC.out ?_
    rintro e w3 ⟨a', d', rfl, ⟨xs', J', B', Cp', f', hrf', hrb'⟩, k3⟩
    clear CC
    have h23 := u2.size
    have CC := Lib.hid (spoilt2_any p _ a' d' w2.heap.size xs' J' B' Cp' f' wa w3 (c2.kp k3) (by omega) ((u1.trans u2).trans (Turn.of_kp k3)) (by rw [hsz.out]; omega) (by rw [hsz.out]; omega) k3.le hrf' hrb')
    go_wp2_with fail
    with_reducible refine Calls.mono CC.out ?_
    rintro e w4 ⟨v, rfl, hv, cv, kv⟩
    clear CC
    rw [hsz.out] at hv
    obtain ⟨A9, n9, c9, B9, k9, d9, rfl, _⟩ := hv.shape
    have ht9 := turn_thereD kv t0 (by show ¬ w.heap.size = p; omega)
    have HE := Lib.hid (fld_ret hv ht9 cv hp (k0.trans kv) (Nat.le_refl _))
    go_wp2_with (first | (refine wpList_store_mid rfl 27 (.tmp 4) (.tmp 26) rfl w.heap.size 0 #[.slice A9 n9 c9, .slice B9 k9 d9] rfl rfl ht9 (by kernel_rfl) (by simp [Value.oneCell']) ?_) | fail)
    obtain ⟨z0, z1, z2, z3, z4⟩ := HE.out
    exact bodyPost_ret (v := .agg #[.slice A9 n9 c9, .slice B9 k9 d9]) (by simp [results, Tryz.results72, go_sem, z0, z1]) rfl ⟨_, rfl, z2, z3.mono (by omega), z4⟩
set_option maxRecDepth 100000 in
set_option maxHeartbeats 1000000 in
theorem field_any (p m : Nat) (w : World) (hc : Cur w p m) (hm : m < 100000000) :
    Calls Tryz.prog 39 #[.pointer (some ⟨p, 0, none⟩)] w fun e w' => ∃ v, e = .returned v ∧ DFld w' w.heap.size v ∧ Cur w' p (m + 5000) ∧ Tp p w w' := by
  have hp := hc.lt
  have t0 := there_newD w [.slice none 0 0, .slice none 0 0] 27
  simp only [List.length_cons, List.length_nil, Nat.zero_add, Nat.reduceAdd] at t0
  have k0 : Tp p w (w.alloc (.cells #[.slice none 0 0, .slice none 0 0] 27)) := Turn.of_kp ((Kp.refl w).alloc _)
  have c0 := hc.kp ((Kp.refl w).alloc (.cells #[.slice none 0 0, .slice none 0 0] 27))
  have hsz : Hid ((w.alloc (.cells #[.slice none 0 0, .slice none 0 0] 27)).heap.size = w.heap.size + 1) := by show _ = _; simp
  have CC := Lib.hid (fieldOf_any p m 7 (w.alloc (.cells #[.slice none 0 0, .slice none 0 0] 27)) c0 hm (by omega))
  go_enter Tryz.func39, Tryz.ntmps39
  go_wp2_with fail
  generalize w.alloc (.cells #[.slice none 0 0, .slice none 0 0] 27) = wa at *
  with_reducible refine Calls.mono CC.out ?_
  rintro e w3 ⟨v, rfl, hv, cv, kv⟩
  clear CC
  rw [hsz.out] at hv
  obtain ⟨A9, n9, c9, B9, k9, d9, rfl, _⟩ := hv.shape
  have ht9 := turn_thereD kv t0 (by show ¬ w.heap.size = p; omega)
  have HE := Lib.hid (fld_ret hv ht9 cv hp (k0.trans kv) (Nat.le_refl _))
  go_wp2_with (first | (refine wpList_store_mid rfl 27 (.tmp 2) (.tmp 4) rfl w.heap.size 0 #[.slice A9 n9 c9, .slice B9 k9 d9] rfl rfl ht9 (by kernel_rfl) (by simp [Value.oneCell']) ?_) | fail)
  obtain ⟨z0, z1, z2, z3, z4⟩ := HE.out
  exact bodyPost_ret (v := .agg #[.slice A9 n9 c9, .slice B9 k9 d9]) (by simp [results, Tryz.results39, go_sem, z0, z1]) rfl ⟨_, rfl, z2, z3.mono (by omega), z4⟩
set_option maxRecDepth 100000 in
set_option maxHeartbeats 1000000 in
theorem worth_any (p m : Nat) (w : World) (hc : Cur w p m) (hm : m < 100000000) :
    Calls Tryz.prog 58 #[.pointer (some ⟨p, 0, none⟩)] w fun e w' => ∃ r : Int, e = .returned (.int .i64 r) ∧ Cur w' p (m + 4) ∧ Tp p w w' := by
  have CP := Lib.hid (one_any p m 20 w hc (by omega) (by omega))
  go_enter Tryz.func58, Tryz.ntmps58
  go_wp2_with fail
  with_reducible refine Calls.mono CP.out ?_
  rintro e w1 ⟨b, rfl, c1, u1⟩
  clear CP
  cases b
  · have CC := amongLit_any p (m + 2) [3, 5, 8, 10, 15, 25, 40] w1 c1 (by omega) (by decide) (by decide)
    simp only [List.map_cons, List.map_nil, List.length_cons, List.length_nil, Nat.zero_add, Nat.reduceAdd] at CC
    replace CC := Lib.hid CC
    go_wp2_with fail
    with_reducible refine Calls.mono CC.out ?_
    rintro e w2 ⟨r, rfl, _, c2, u2⟩
    clear CC
    go_wp2_with fail
    go_ret
    exact ⟨r, rfl, c2, u1.trans u2⟩
  · have CC := amongLit_any p (m + 2) [-1, 1000, 999, 0] w1 c1 (by omega) (by decide) (by decide)
    simp only [List.map_cons, List.map_nil, List.length_cons, List.length_nil, Nat.zero_add, Nat.reduceAdd] at CC
    replace CC := Lib.hid CC
    go_wp2_with fail
    with_reducible refine Calls.mono CC.out ?_
    rintro e w2 ⟨r, rfl, _, c2, u2⟩
    clear CC
    go_wp2_with fail
    go_ret
    exact ⟨r, rfl, c2, u1.trans u2⟩
end Go.Proofs.YtlglonjijfpgaaaGreat

namespace Go.Proofs.YtlglonjijfpgaaaGreat
open Go.RowKit Go.Sort

/-- A list that has been drawn. -/
def DInts (w : World) (b : Nat) (v : Value) : Prop := ∃ xs : List Int, Own w b v xs ∧ xs.length ≤ 200
theorem DInts.mono {w : World} {b b' : Nat} {v : Value} (h : DInts w b v) (hb : b' ≤ b) : DInts w b' v := by
  obtain ⟨xs, h1, h2⟩ := h
  exact ⟨xs, h1.mono hb, h2⟩
theorem DInts.turn {S : Nat → Prop} {w w' : World} {b : Nat} {v : Value} (h : DInts w b v) (ht : Turn S w w') (hn : ∀ i, b ≤ i → ¬ S i) : DInts w' b v := by
  obtain ⟨xs, h1, h2⟩ := h
  exact ⟨xs, own_low h1 ht hn, h2⟩
theorem DInts.kp {w w' : World} {b : Nat} {v : Value} (h : DInts w b v) (hk : Kp w w') : DInts w' b v := h.turn (Turn.of_kp (S := fun _ => False) hk) (fun _ _ h => h)
theorem DInts.ints {w : World} {b : Nat} {v : Value} (h : DInts w b v) : ∃ A c xs, v = .slice A xs.length c ∧ IntsAt w A xs ∧ xs.length ≤ 200 ∧ xs.length ≤ c := by
  obtain ⟨xs, h1, h2⟩ := h
  obtain ⟨A, c, e, hi⟩ := h1.ints (by omega)
  exact ⟨A, c, xs, e, hi, h2, h1.capL e⟩
theorem own_oneD (w : World) (base : Nat) (a : Int) (hb : base ≤ w.heap.size) : Own (w.alloc (.cells #[.int .i64 a] 3)) base (.slice (some ⟨w.heap.size, 0, none⟩) 1 1) [a] :=
  World.ownsRow_lit w #[.int .i64 a] 1 hb (by unfold maxLen; omega) (by simp)
/-- Own memory has turned. -/
theorem tp_own {w w1 w2 : World} {p : Nat} {S : Nat → Prop} (k : Tp p w w1) (ht : Turn S w1 w2) (hs : ∀ i, S i → w.heap.size ≤ i) : Tp p w w2 :=
  ⟨ht.os.trans k.os, ht.tape.trans k.tape, ht.output.trans k.output, Nat.le_trans k.size ht.size, fun i hi hn => by
    rw [ht.block i (Nat.lt_of_lt_of_le hi k.size) (fun e => by have := hs i e; omega), k.block i hi hn]⟩
set_option maxRecDepth 100000 in
set_option maxHeartbeats 2000000 in
theorem sites_any (p m : Nat) (A : Option Addr) (n c : Nat) (B : Option Addr) (k d : Nat) (w : World) (hc : Cur w p m) (hm : m < 100000000) (hn : n ≤ 9223372036854775807) :
    Calls Tryz.prog 76 #[.pointer (some ⟨p, 0, none⟩), .agg #[.slice A n c, .slice B k d]] w fun e w' => ∃ v, e = .returned v ∧ DInts w' w.heap.size v ∧ Cur w' p (m + 30) ∧ Tp p w w' := by
  have hp := hc.lt
  have k0 : Kp w (w.alloc (.cells #[.slice A n c, .slice B k d] 27)) := (Kp.refl w).alloc _
  obtain ⟨d0, d1⟩ := box2 w (.slice A n c) (.slice B k d) 27
  obtain ⟨nn, hnn⟩ : ∃ nn : Nat, min (n : Int) 7 = (nn : Int) := ⟨min n 7, by omega⟩
  have hn7 : nn ≤ 7 := by omega
  have CL := Lib.hid (l1Least_any (n : Int) 7 (w.alloc (.cells #[.slice A n c, .slice B k d] 27)))
  rw [hnn] at CL
  obtain ⟨P, HP, hpw, hP⟩ := pow_wrap (nn : Int) (by omega) (by omega)
  rw [Int.toNat_natCast] at hpw
  have hP1 : 1 ≤ P := by rw [HP.out]; exact Nat.one_le_two_pow
  have c0 := hc.kp k0
  have t0 : Tp p w (w.alloc (.cells #[.slice A n c, .slice B k d] 27)) := Turn.of_kp k0
  have CP := Lib.hid (pick_any p m P (w.alloc (.cells #[.slice A n c, .slice B k d] 27)) c0 (by omega) (by omega))
  clear hnn
  go_enter Tryz.func76, Tryz.ntmps76
  go_wp2_with fail
  generalize w.alloc (.cells #[.slice A n c, .slice B k d] 27) = wa at *
  with_reducible refine Calls.mono CL.out ?_
  rintro e w1 ⟨rfl, hw⟩
  obtain rfl := hw
  clear CL
  go_wp2_with fail
  with_reducible refine Calls.mono CP.out ?_
  rintro e w2 ⟨r, rfl, hr, c2, u2⟩
  clear CP
  obtain ⟨q, rfl⟩ := Int.eq_ofNat_of_zero_le hr.1
  have hq : q < P := by have := hr.2.2 (by omega); omega
  have CB := Lib.hid (l2Bits_any nn (q + 1) w2 (by omega) (by omega))
  rw [show (((q + 1 : Nat)) : Int) = 1 + (q : Int) from by push_cast; omega] at CB
  have t2 := t0.trans u2
  clear hr c0 t0 u2
  go_wp2_with fail
  with_reducible refine Calls.mono CB.out ?_
  rintro e w3 ⟨v, rfl, ho, hk3⟩
  clear CB
  have hbl := bitsL_len nn (q + 1)
  obtain ⟨ys, hys⟩ : ∃ ys, bitsL nn (q + 1) = ys := ⟨_, rfl⟩
  rw [hys] at ho hbl
  have ho3 := ho.mono t2.size
  have t3 := t2.trans (Turn.of_kp hk3)
  have c3 := c2.kp hk3
  have CP := Lib.hid (one_any p (m + 2) 20 w3 c3 (by omega) (by omega))
  clear ho hys
  go_wp2_with fail
  with_reducible refine Calls.mono CP.out ?_
  rintro e w4 ⟨b, rfl, c4, u4⟩
  clear CP
  have ho4 := own_low ho3 u4 (fun i hi => by omega)
  have t4 := t3.trans u4
  clear ho3 t3 c3 hk3 c2 t2 u4
  cases b
  · obtain ⟨xs, rfl⟩ : ∃ xs, xs = ys := ⟨_, rfl⟩
    have hos := ho4
    have hcs := c4.mono (m' := m + 8) (by omega)
    have hts := t4
    clear ho4 c4 t4
    obtain ⟨As, cs, hvs⟩ := hos.shape
    obtain ⟨l, hl⟩ : ∃ l, xs.length = l := ⟨_, rfl⟩
    rw [hl] at hvs
    subst hvs
    have hl8 : l ≤ 8 := by omega
    by_cases hl0 : l = 0
    · subst hl0
      by_cases hn0 : nn = 0
      · subst hn0
        go_wp2_with fail
        go_ret
        exact ⟨_, rfl, ⟨xs, hos, by omega⟩, hcs.mono (by omega), hts⟩
      · have hnI : (0 : Int) < (nn : Int) := by omega
        have CP := Lib.hid (one_any p (m + 8) 6 w4 (hcs.mono (by omega)) (by omega) (by omega))
        go_wp2_with fail
        with_reducible refine Calls.mono CP.out ?_
        rintro e wz ⟨b, rfl, cz, uz⟩
        clear CP
        cases b
        · have CP := Lib.hid (pick_any p _ nn wz cz (by omega) (by omega))
          go_wp2_with fail
          with_reducible refine Calls.mono CP.out ?_
          rintro e wy ⟨r, rfl, _, cy, uy⟩
          clear CP
          have hwy : w.heap.size ≤ wy.heap.size := by have h1 := hts.size; have h2 := uz.size; have h3 := uy.size; omega
          have hone := own_oneD wy w.heap.size r hwy
          have hka : Kp wy (wy.alloc (.cells #[.int .i64 r] 3)) := (Kp.refl wy).alloc _
          go_wp2_with fail
          go_ret
          exact ⟨_, rfl, ⟨_, hone, by simp⟩, (cy.kp hka).mono (by omega), ((hts.trans uz).trans uy).trans (Turn.of_kp hka)⟩
        · have hos2 := own_low hos uz (fun i hi => by omega)
          go_wp2_with fail
          go_ret
          exact ⟨_, rfl, ⟨xs, hos2, by omega⟩, cz.mono (by omega), hts.trans uz⟩
    · have hlI : ((l : Int) == 0) = false := by simp; omega
      go_wp2_with fail
      go_ret
      exact ⟨_, rfl, ⟨xs, hos, by omega⟩, hcs.mono (by omega), hts⟩
  · have CC := amongLit_any p (m + 2 + 2) [-1, 0, (nn : Int)] w4 c4 (by omega) (by simp) (by simp)
    simp only [List.map_cons, List.map_nil, List.length_cons, List.length_nil, Nat.zero_add, Nat.reduceAdd] at CC
    replace CC := Lib.hid CC
    go_wp2_with fail
    with_reducible refine Calls.mono CC.out ?_
    rintro e w5 ⟨z, rfl, _, c5, u5⟩
    clear CC
    have ho5 := own_low ho4 u5 (fun i hi => by omega)
    have t5 := t4.trans u5
    have hys2 : ys.length < 1048576 := by omega
    have hbs : w.heap.size ≤ w5.heap.size := t5.size
    clear ho4 c4 t4 u5
    obtain ⟨N6, hN6⟩ : ∃ N6, ys.length + 1 = N6 := ⟨_, rfl⟩
    have hl6 : (ys ++ [z]).length = N6 := by rw [List.length_append, ← hN6]; rfl
    have hlI : ((N6 : Int) == 0) = false := by simp; omega
    go_wp2_with (at_builtin; go_loud (refine wpl_app rfl (.tmp 20) (.tmp 25) rfl w.heap.size _ ys z rfl rfl ho5 hbs hys2 ?_); intro v6 w6 ho6 ht6 h46; have hcs := c5.turn ht6 (fun i hi e => by have := (ho5.lt i e).1; omega); have hts := tp_own t5 ht6 (fun i e => (ho5.lt i e).1); have hos := ho6; obtain ⟨A6, c6, hv6⟩ := ho6.shape; rw [hl6] at hv6; subst hv6)
    go_ret
    exact ⟨_, rfl, ⟨_, hos, by omega⟩, hcs.mono (by omega), hts⟩
set_option maxRecDepth 100000 in
set_option maxHeartbeats 1000000 in
theorem any_any (p m : Nat) (A : Option Addr) (n c : Nat) (B : Option Addr) (k d : Nat) (w : World) (hc : Cur w p m) (hm : m < 90000000) (hn : n ≤ 9223372036854775807) :
    Calls Tryz.prog 41 #[.pointer (some ⟨p, 0, none⟩), .agg #[.slice A n c, .slice B k d]] w fun e w' => ∃ v, e = .returned v ∧ DInts w' w.heap.size v ∧ Cur w' p (m + 40) ∧ Tp p w w' := by
  have hp := hc.lt
  have k0 : Kp w (w.alloc (.cells #[.slice A n c, .slice B k d] 27)) := (Kp.refl w).alloc _
  obtain ⟨d0, d1⟩ := box2 w (.slice A n c) (.slice B k d) 27
  have hbx : w.heap.size ≠ p := by omega
  have CP := Lib.hid (one_any p m 6 (w.alloc (.cells #[.slice A n c, .slice B k d] 27)) (hc.kp k0) (by omega) (by omega))
  go_enter Tryz.func41, Tryz.ntmps41
  go_wp2_with fail
  generalize w.alloc (.cells #[.slice A n c, .slice B k d] 27) = wa at *
  with_reducible refine Calls.mono CP.out ?_
  rintro e w1 ⟨b, rfl, c1, u1⟩
  clear CP
  have t1 : Tp p w w1 := (Turn.of_kp k0).trans u1
  have e0 := turn_cellD u1 d0 hbx
  have e1 := turn_cellD u1 d1 hbx
  cases b
  · have CS := Lib.hid (sites_any p (m + 2) A n c B k d w1 c1 (by omega) hn)
    go_wp2_with fail
    with_reducible refine Calls.mono CS.out ?_
    rintro e w2 ⟨v, rfl, hv, c2, u2⟩
    clear CS
    go_wp2_with fail
    go_ret
    exact ⟨_, rfl, hv.mono t1.size, c2.mono (by omega), t1.trans u2⟩
  · have hk : Kp w1 (w1.alloc (.cells #[] 3)) := (Kp.refl w1).alloc _
    have ho := own_new0 w1 w.heap.size t1.size
    go_wp2_with fail
    go_ret
    exact ⟨_, rfl, ⟨[], ho, by simp⟩, (c1.kp hk).mono (by omega), t1.trans (Turn.of_kp hk)⟩
end Go.Proofs.YtlglonjijfpgaaaGreat

namespace Go.Proofs.YtlglonjijfpgaaaGreat
open Go.RowKit Go.Sort

/-- A new cursor. -/
theorem cur_new {w : World} {A : Option Addr} {n c : Nat} {t : TypeId} (hb : BytesAt w A n) : Cur (w.alloc (.cells #[.slice A n c, .int .i64 0, .int .u64 0] t)) w.heap.size 0 := by
  have hk : Kp w (w.alloc (.cells #[.slice A n c, .int .i64 0, .int .u64 0] t)) := (Kp.refl w).alloc _
  refine ⟨⟨A, n, c, 0, 0, ?_, ?_, ?_, Nat.le_refl _, hb.kp hk, fun ad e h0 => ?_⟩, there_newD w [.slice A n c, .int .i64 0, .int .u64 0] t⟩
  · rw [World.cell?_alloc_at _ _ _ _ rfl]; rfl
  · rw [World.cell?_alloc_at _ _ _ _ rfl]; rfl
  · rw [World.cell?_alloc_at _ _ _ _ rfl]; rfl
  · obtain ⟨ad', b, e', hc, _⟩ := hb.2 0 h0
    rw [e] at e'
    cases e'
    have := World.block_lt_of_cell? _ _ hc
    rwa [blk_add] at this
theorem BytesAt.kpD {w w' : World} {A : Option Addr} {n : Nat} (h : BytesAt w A n) (hk : Kp w w') : BytesAt w' A n := h.kp hk
/-- The results of a draw whose first one is a field. -/
theorem drw_ret {w w2 : World} {rb b : Nat} {x y : Value} (hf : DFld w2 b (.agg #[x, y])) (hb : rb < b) (ht : w2.there rb 0 2) (k : Kp w w2) (hr : w.heap.size ≤ rb) : (w2.setCells rb 0 [x, y]).cell? ⟨rb, 0, none⟩ = some x ∧ (w2.setCells rb 0 [x, y]).cell? ⟨rb, 1, none⟩ = some y ∧ DFld (w2.setCells rb 0 [x, y]) w.heap.size (.agg #[x, y]) ∧ Kp w (w2.setCells rb 0 [x, y]) ∧ Turn (fun i => i = rb) w2 (w2.setCells rb 0 [x, y]) := by
  have ts := turn_setCellsD rb [x, y] 0 w2
  have hg := World.rangeAt_setCells_same w2 rb 0 [x, y] ht
  exact ⟨hg 0 _ rfl, hg 1 _ rfl, (hf.turn ts (fun i hi => by omega)).mono (by omega), k.turn ts (fun i hi => by omega), ts⟩
def MgPost (w : World) (e : Ending) (w' : World) : Prop := ∃ v r l a, e = .returned (.tuple #[v, .int .i64 r, l, .int .i64 a]) ∧ DFld w' w.heap.size v ∧ DInts w' w.heap.size l ∧ Kp w w'
def WrPost (w : World) (e : Ending) (w' : World) : Prop := ∃ v l a, e = .returned (.tuple #[v, l, .int .i64 a]) ∧ DFld w' w.heap.size v ∧ DInts w' w.heap.size l ∧ Kp w w'
end Go.Proofs.YtlglonjijfpgaaaGreat

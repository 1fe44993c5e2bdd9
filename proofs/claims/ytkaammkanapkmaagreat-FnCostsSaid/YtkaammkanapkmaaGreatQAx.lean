/- The drawing of arguments: a field; a worth; a list of sites; The drawing of arguments: a list of sites. No condition. -/
import Derived.Test.YtkaammkanapkmaaGreatQAw
import Derived.Test.YtkaammkanapkmaaGreatQAd
import Derived.Test.YtkaammkanapkmaaGreatQAa
namespace Go.Proofs.YtkaammkanapkmaaGreat
open Go.RowKit Go.Sort

theorem DFld.shape {w : World} {b : Nat} {v : Value} (h : DFld w b v) : ∃ A n c B k d, v = .agg #[.slice A n c, .slice B k d] ∧ n ≤ 9223372036854775807 := by
  obtain ⟨F, A, c, B, d, e, h1, h2⟩ := h
  exact ⟨A, F.op.length, c, B, F.di.length, d, e, h1.1.1⟩
theorem DFld.shape2 {w : World} {b : Nat} {v : Value} (h : DFld w b v) : ∃ A n c B k d, v = .agg #[.slice A n c, .slice B k d] ∧ n ≤ 9223372036854775807 ∧ k ≤ 90 := by
  obtain ⟨F, A, c, B, d, e, h1, h2⟩ := h
  exact ⟨A, F.op.length, c, B, F.di.length, d, e, h1.1.1, h2.1⟩
theorem DFld.turn {S : Nat → Prop} {w w' : World} {b : Nat} {v : Value} (h : DFld w b v) (ht : Turn S w w') (hn : ∀ i, b ≤ i → ¬ S i) : DFld w' b v := by
  obtain ⟨F, hf⟩ := h
  exact ⟨F, hf.turn ht hn⟩
theorem DFld.kp {w w' : World} {b : Nat} {v : Value} (h : DFld w b v) (hk : Kp w w') : DFld w' b v := h.turn (Turn.of_kp (S := fun _ => False) hk) (fun _ _ h => h)
theorem DFld.mono {w : World} {b b' : Nat} {v : Value} (h : DFld w b v) (hb : b' ≤ b) : DFld w b' v := by
  obtain ⟨F, hf⟩ := h
  exact ⟨F, hf.mono (fun i hi => by omega)⟩
/-- The result's cells, when the field is stored there. -/
theorem fld_ret {w w2 : World} {p m rb : Nat} {x y : Value} (hf : DFld w2 (rb + 1) (.agg #[x, y])) (ht : w2.there rb 0 2) (hc : Cur w2 p m) (hp : p < rb) (k : Tp p w w2) (hr : w.heap.size ≤ rb) : (w2.setCells rb 0 [x, y]).cell? ⟨rb, 0, none⟩ = some x ∧ (w2.setCells rb 0 [x, y]).cell? ⟨rb, 1, none⟩ = some y ∧ DFld (w2.setCells rb 0 [x, y]) w.heap.size (.agg #[x, y]) ∧ Cur (w2.setCells rb 0 [x, y]) p m ∧ Tp p w (w2.setCells rb 0 [x, y]) := by
  have ts := turn_setCellsD rb [x, y] 0 w2
  have hg := World.rangeAt_setCells_same w2 rb 0 [x, y] ht
  exact ⟨hg 0 _ rfl, hg 1 _ rfl, (hf.turn ts (fun i hi => by omega)).mono (by omega), hc.turn ts (fun i hi => by omega), ⟨ts.os.trans k.os, ts.tape.trans k.tape, ts.output.trans k.output, Nat.le_trans k.size ts.size, fun i hi hn => by
    rw [ts.block i (Nat.lt_of_lt_of_le hi k.size) (by omega), k.block i hi hn]⟩⟩
set_option maxRecDepth 100000 in
set_option maxHeartbeats 2000000 in
theorem fieldOf_any (p m : Nat) (most : Int) (w : World) (hc : Cur w p m) (hm : m < 100000000) (hmost : 1 ≤ most) :
    Calls Tryz.prog 20 #[.pointer (some ⟨p, 0, none⟩), .int .i64 most] w fun e w' => ∃ v, e = .returned v ∧ DFld w' w.heap.size v ∧ Cur w' p (m + 5000) ∧ Tp p w w' := by
  have hp := hc.lt
  have t0 := there_newD w [.slice none 0 0, .slice none 0 0] 27
  simp only [List.length_cons, List.length_nil, Nat.zero_add, Nat.reduceAdd] at t0
  have k0 : Tp p w (w.alloc (.cells #[.slice none 0 0, .slice none 0 0] 27)) := Turn.of_kp ((Kp.refl w).alloc _)
  have c0 := hc.kp ((Kp.refl w).alloc (.cells #[.slice none 0 0, .slice none 0 0] 27))
  have hsz : Hid ((w.alloc (.cells #[.slice none 0 0, .slice none 0 0] 27)).heap.size = w.heap.size + 1) := by show _ = _; simp
  have CP := Lib.hid (pick_any p m 3 (w.alloc (.cells #[.slice none 0 0, .slice none 0 0] 27)) c0 (by omega) (by omega))
  go_enter Tryz.func20, Tryz.ntmps20
  go_wp2_with fail
  generalize w.alloc (.cells #[.slice none 0 0, .slice none 0 0] 27) = wa at *
  with_reducible refine Calls.mono CP.out ?_
  rintro e w1 ⟨r, rfl, hr, c1, u1⟩
  clear CP
  have hw1 : w.heap.size + 1 ≤ w1.heap.size := by have := u1.size; rw [hsz.out] at this; exact this
  have hr3 : r = 0 ∨ r = 1 ∨ r = 2 := by have := hr.2.2 (by omega); omega
  clear hr c0
  rcases hr3 with rfl | rfl | rfl
  · have CC := Lib.hid (rawField_any p (m + 2) most w1 c1 (by omega) hmost)
    go_wp2_with fail
    with_reducible refine Calls.mono CC.out ?_
    rintro e w2 ⟨a, d, rfl, ⟨xs, J, B, Cp, f, hrf, hrb⟩, c2, u2⟩
    clear CC
    have CC := Lib.hid (spoilt2_any p _ a d w1.heap.size xs J B Cp f wa w2 c2 (by omega) (u1.trans u2) (by rw [hsz.out]; exact hw1) (by rw [hsz.out]; omega) u2.size hrf hrb)
    go_wp2_with fail
    with_reducible refine Calls.mono CC.out ?_
    rintro e w3 ⟨v, rfl, hv, cv, kv⟩
    clear CC
    rw [hsz.out] at hv
    obtain ⟨A9, n9, c9, B9, k9, d9, rfl, _⟩ := hv.shape
    have ht9 := turn_thereD kv t0 (by show ¬ w.heap.size = p; omega)
    have HE := Lib.hid (fld_ret hv ht9 cv hp (k0.trans kv) (Nat.le_refl _))
    go_wp2_with (first | (refine wpList_store_mid rfl 27 (.tmp 4) (.tmp 13) rfl w.heap.size 0 #[.slice A9 n9 c9, .slice B9 k9 d9] rfl rfl ht9 (by kernel_rfl) (by simp [Value.oneCell']) ?_) | fail)
    obtain ⟨z0, z1, z2, z3, z4⟩ := HE.out
    exact bodyPost_ret (v := .agg #[.slice A9 n9 c9, .slice B9 k9 d9]) (by simp [results, Tryz.results20, go_sem, z0, z1]) rfl ⟨_, rfl, z2, z3.mono (by omega), z4⟩
  · have CC := Lib.hid (lineField_any p (m + 2) most w1 c1 (by omega) hmost)
    go_wp2_with fail
    with_reducible refine Calls.mono CC.out ?_
    rintro e w2 ⟨a, d, rfl, ⟨xs, J, B, Cp, f, hrf, hrb⟩, c2, u2⟩
    clear CC
    have CC := Lib.hid (spoilt2_any p _ a d w1.heap.size xs J B Cp f wa w2 c2 (by omega) (u1.trans u2) (by rw [hsz.out]; exact hw1) (by rw [hsz.out]; omega) u2.size hrf hrb)
    go_wp2_with fail
    with_reducible refine Calls.mono CC.out ?_
    rintro e w3 ⟨v, rfl, hv, cv, kv⟩
    clear CC
    rw [hsz.out] at hv
    obtain ⟨A9, n9, c9, B9, k9, d9, rfl, _⟩ := hv.shape
    have ht9 := turn_thereD kv t0 (by show ¬ w.heap.size = p; omega)
    have HE := Lib.hid (fld_ret hv ht9 cv hp (k0.trans kv) (Nat.le_refl _))
    go_wp2_with (first | (refine wpList_store_mid rfl 27 (.tmp 4) (.tmp 20) rfl w.heap.size 0 #[.slice A9 n9 c9, .slice B9 k9 d9] rfl rfl ht9 (by kernel_rfl) (by simp [Value.oneCell']) ?_) | fail)
    obtain ⟨z0, z1, z2, z3, z4⟩ := HE.out
    exact bodyPost_ret (v := .agg #[.slice A9 n9 c9, .slice B9 k9 d9]) (by simp [results, Tryz.results20, go_sem, z0, z1]) rfl ⟨_, rfl, z2, z3.mono (by omega), z4⟩
  · have CC := Lib.hid (rawField_any p (m + 2) most w1 c1 (by omega) hmost)
    go_wp2_with fail
    with_reducible refine Calls.mono CC.out ?_
    rintro e w2 ⟨a, d, rfl, ⟨xs, J, B, Cp, f, hrf, hrb⟩, c2, u2⟩
    clear CC
    have CC := Lib.hid (l2Close_any a d w1.heap.size xs J B Cp f w2 hrf hrb)
    go_wp2_with fail
    with_reducible refine Calls.mono CC.out ?_
    rintro e w3 ⟨a', d', rfl, ⟨xs', J', B', Cp', f', hrf', hrb'⟩, k3⟩
    clear CC
    have h23 := u2.size
    have CC := Lib.hid (spoilt2_any p _ a' d' w2.heap.size xs' J' B' Cp' f' wa w3 (c2.kp k3) (by omega) ((u1.trans u2).trans (Turn.of_kp k3)) (by rw [hsz.out]; omega) (by rw [hsz.out]; omega) k3.le hrf' hrb')
    go_wp2_with fail
    with_reducible refine Calls.mono CC.out ?_
    rintro e w4 ⟨v, rfl, hv, cv, kv⟩
    clear CC
    rw [hsz.out] at hv
    obtain ⟨A9, n9, c9, B9, k9, d9, rfl, _⟩ := hv.shape
    have ht9 := turn_thereD kv t0 (by show ¬ w.heap.size = p; omega)
    have HE := Lib.hid (fld_ret hv ht9 cv hp (k0.trans kv) (Nat.le_refl _))
    go_wp2_with (first | (refine wpList_store_mid rfl 27 (.tmp 4) (.tmp 26) rfl w.heap.size 0 #[.slice A9 n9 c9, .slice B9 k9 d9] rfl rfl ht9 (by kernel_rfl) (by simp [Value.oneCell']) ?_) | fail)
    obtain ⟨z0, z1, z2, z3, z4⟩ := HE.out
    exact bodyPost_ret (v := .agg #[.slice A9 n9 c9, .slice B9 k9 d9]) (by simp [results, Tryz.results20, go_sem, z0, z1]) rfl ⟨_, rfl, z2, z3.mono (by omega), z4⟩
set_option maxRecDepth 100000 in
set_option maxHeartbeats 1000000 in
theorem field_any (p m : Nat) (w : World) (hc : Cur w p m) (hm : m < 100000000) :
    Calls Tryz.prog 25 #[.pointer (some ⟨p, 0, none⟩)] w fun e w' => ∃ v, e = .returned v ∧ DFld w' w.heap.size v ∧ Cur w' p (m + 5000) ∧ Tp p w w' := by
  have hp := hc.lt
  have t0 := there_newD w [.slice none 0 0, .slice none 0 0] 27
  simp only [List.length_cons, List.length_nil, Nat.zero_add, Nat.reduceAdd] at t0
  have k0 : Tp p w (w.alloc (.cells #[.slice none 0 0, .slice none 0 0] 27)) := Turn.of_kp ((Kp.refl w).alloc _)
  have c0 := hc.kp ((Kp.refl w).alloc (.cells #[.slice none 0 0, .slice none 0 0] 27))
  have hsz : Hid ((w.alloc (.cells #[.slice none 0 0, .slice none 0 0] 27)).heap.size = w.heap.size + 1) := by show _ = _; simp
  have CC := Lib.hid (fieldOf_any p m 7 (w.alloc (.cells #[.slice none 0 0, .slice none 0 0] 27)) c0 hm (by omega))
  go_enter Tryz.func25, Tryz.ntmps25
  go_wp2_with fail
  generalize w.alloc (.cells #[.slice none 0 0, .slice none 0 0] 27) = wa at *
  with_reducible refine Calls.mono CC.out ?_
  rintro e w3 ⟨v, rfl, hv, cv, kv⟩
  clear CC
  rw [hsz.out] at hv
  obtain ⟨A9, n9, c9, B9, k9, d9, rfl, _⟩ := hv.shape
  have ht9 := turn_thereD kv t0 (by show ¬ w.heap.size = p; omega)
  have HE := Lib.hid (fld_ret hv ht9 cv hp (k0.trans kv) (Nat.le_refl _))
  go_wp2_with (first | (refine wpList_store_mid rfl 27 (.tmp 2) (.tmp 4) rfl w.heap.size 0 #[.slice A9 n9 c9, .slice B9 k9 d9] rfl rfl ht9 (by kernel_rfl) (by simp [Value.oneCell']) ?_) | fail)
  obtain ⟨z0, z1, z2, z3, z4⟩ := HE.out
  exact bodyPost_ret (v := .agg #[.slice A9 n9 c9, .slice B9 k9 d9]) (by simp [results, Tryz.results25, go_sem, z0, z1]) rfl ⟨_, rfl, z2, z3.mono (by omega), z4⟩
end Go.Proofs.YtkaammkanapkmaaGreat

namespace Go.Proofs.YtkaammkanapkmaaGreat
open Go.RowKit Go.Sort

/-- A list that has been drawn. -/
def DInts (w : World) (b : Nat) (v : Value) : Prop := ∃ xs : List Int, Own w b v xs ∧ xs.length ≤ 100
theorem DInts.mono {w : World} {b b' : Nat} {v : Value} (h : DInts w b v) (hb : b' ≤ b) : DInts w b' v := by
  obtain ⟨xs, h1, h2⟩ := h
  exact ⟨xs, h1.mono hb, h2⟩
theorem DInts.turn {S : Nat → Prop} {w w' : World} {b : Nat} {v : Value} (h : DInts w b v) (ht : Turn S w w') (hn : ∀ i, b ≤ i → ¬ S i) : DInts w' b v := by
  obtain ⟨xs, h1, h2⟩ := h
  exact ⟨xs, own_low h1 ht hn, h2⟩
theorem DInts.kp {w w' : World} {b : Nat} {v : Value} (h : DInts w b v) (hk : Kp w w') : DInts w' b v := h.turn (Turn.of_kp (S := fun _ => False) hk) (fun _ _ h => h)
theorem DInts.ints {w : World} {b : Nat} {v : Value} (h : DInts w b v) : ∃ A c xs, v = .slice A xs.length c ∧ IntsAt w A xs ∧ xs.length ≤ 100 ∧ xs.length ≤ c := by
  obtain ⟨xs, h1, h2⟩ := h
  obtain ⟨A, c, e, hi⟩ := h1.ints (by omega)
  exact ⟨A, c, xs, e, hi, h2, h1.capL e⟩
theorem own_oneD (w : World) (base : Nat) (a : Int) (hb : base ≤ w.heap.size) : Own (w.alloc (.cells #[.int .i64 a] 3)) base (.slice (some ⟨w.heap.size, 0, none⟩) 1 1) [a] :=
  World.ownsRow_lit w #[.int .i64 a] 1 hb (by unfold maxLen; omega) (by simp)
/-- Own memory has turned. -/
theorem tp_own {w w1 w2 : World} {p : Nat} {S : Nat → Prop} (k : Tp p w w1) (ht : Turn S w1 w2) (hs : ∀ i, S i → w.heap.size ≤ i) : Tp p w w2 :=
  ⟨ht.os.trans k.os, ht.tape.trans k.tape, ht.output.trans k.output, Nat.le_trans k.size ht.size, fun i hi hn => by
    rw [ht.block i (Nat.lt_of_lt_of_le hi k.size) (fun e => by have := hs i e; omega), k.block i hi hn]⟩
end Go.Proofs.YtkaammkanapkmaaGreat

/- The drawing of arguments: a field; a worth; a list of sites; The drawing of arguments: a list of sites; The drawing of arguments: a tree. No condition. -/
import Derived.Test.YtcccmndkolmboaaQAn
import Derived.Test.YtcccmndkolmboaaQAd
import Derived.Test.YtcccmndkolmboaaQAa
import Derived.Test.YtcccmndkolmboaaQAf
namespace Go.Proofs.Ytcccmndkolmboaa
open Go.RowKit Go.Sort

theorem DFld.shape {w : World} {b : Nat} {v : Value} (h : DFld w b v) : ∃ A n c B k d, v = .agg #[.slice A n c, .slice B k d] ∧ n ≤ 9223372036854775807 := by
  obtain ⟨F, A, c, B, d, e, h1, h2⟩ := h
  exact ⟨A, F.op.length, c, B, F.di.length, d, e, h1.1.1⟩
theorem DFld.shape2 {w : World} {b : Nat} {v : Value} (h : DFld w b v) : ∃ A n c B k d, v = .agg #[.slice A n c, .slice B k d] ∧ n ≤ 9223372036854775807 ∧ k ≤ 90 := by
  obtain ⟨F, A, c, B, d, e, h1, h2⟩ := h
  exact ⟨A, F.op.length, c, B, F.di.length, d, e, h1.1.1, h2.1⟩
theorem DFld.shape3 {w : World} {b : Nat} {v : Value} (h : DFld w b v) : ∃ A n c B k d, v = .agg #[.slice A n c, .slice B k d] ∧ n ≤ 100 ∧ k ≤ 90 := by
  obtain ⟨F, A, c, B, d, e, h1, h2⟩ := h
  exact ⟨A, F.op.length, c, B, F.di.length, d, e, h1.2.2, h2.1⟩
theorem DFld.turn {S : Nat → Prop} {w w' : World} {b : Nat} {v : Value} (h : DFld w b v) (ht : Turn S w w') (hn : ∀ i, b ≤ i → ¬ S i) : DFld w' b v := by
  obtain ⟨F, hf⟩ := h
  exact ⟨F, hf.turn ht hn⟩
theorem DFld.kp {w w' : World} {b : Nat} {v : Value} (h : DFld w b v) (hk : Kp w w') : DFld w' b v := h.turn (Turn.of_kp (S := fun _ => False) hk) (fun _ _ h => h)
theorem DFld.mono {w : World} {b b' : Nat} {v : Value} (h : DFld w b v) (hb : b' ≤ b) : DFld w b' v := by
  obtain ⟨F, hf⟩ := h
  exact ⟨F, hf.mono (fun i hi => by omega)⟩
/-- The result's cells, when the field is stored there. -/
theorem fld_ret {w w2 : World} {p m rb : Nat} {x y : Value} (hf : DFld w2 (rb + 1) (.agg #[x, y])) (ht : w2.there rb 0 2) (hc : Cur w2 p m) (hp : p < rb) (k : Tp p w w2) (hr : w.heap.size ≤ rb) : (w2.setCells rb 0 [x, y]).cell? ⟨rb, 0, none⟩ = some x ∧ (w2.setCells rb 0 [x, y]).cell? ⟨rb, 1, none⟩ = some y ∧ DFld (w2.setCells rb 0 [x, y]) w.heap.size (.agg #[x, y]) ∧ Cur (w2.setCells rb 0 [x, y]) p m ∧ Tp p w (w2.setCells rb 0 [x, y]) := by
  have ts := turn_setCellsD rb [x, y] 0 w2
  have hg := World.rangeAt_setCells_same w2 rb 0 [x, y] ht
  exact ⟨hg 0 _ rfl, hg 1 _ rfl, (hf.turn ts (fun i hi => by omega)).mono (by omega), hc.turn ts (fun i hi => by omega), ⟨ts.os.trans k.os, ts.tape.trans k.tape, ts.output.trans k.output, Nat.le_trans k.size ts.size, fun i hi hn => by
    rw [ts.block i (Nat.lt_of_lt_of_le hi k.size) (by omega), k.block i hi hn]⟩⟩
set_option maxRecDepth 100000 in
set_option maxHeartbeats 2000000 in
theorem fieldOf_any (p m : Nat) (most : Int) (w : World) (hc : Cur w p m) (hm : m < 100000000) (hmost : 1 ≤ most) :
    Calls Try.prog 36 #[.pointer (some ⟨p, 0, none⟩), .int .i64 most] w fun e w' => ∃ v, e = .returned v ∧ DFld w' w.heap.size v ∧ Cur w' p (m + 5000) ∧ Tp p w w' := by
  have hp := hc.lt
  have t0 := there_newD w [.slice none 0 0, .slice none 0 0] 27
  simp only [List.length_cons, List.length_nil, Nat.zero_add, Nat.reduceAdd] at t0
  have k0 : Tp p w (w.alloc (.cells #[.slice none 0 0, .slice none 0 0] 27)) := Turn.of_kp ((Kp.refl w).alloc _)
  have c0 := hc.kp ((Kp.refl w).alloc (.cells #[.slice none 0 0, .slice none 0 0] 27))
  have hsz : Hid ((w.alloc (.cells #[.slice none 0 0, .slice none 0 0] 27)).heap.size = w.heap.size + 1) := by show _ = _; simp
  have CP := Lib.hid (pick_any p m 3 (w.alloc (.cells #[.slice none 0 0, .slice none 0 0] 27)) c0 (by omega) (by omega))
  go_enter Try.func36, Try.ntmps36
  go_wp2_with fail
  generalize w.alloc (.cells #[.slice none 0 0, .slice none 0 0] 27) = wa at *
  with_reducible refine Calls.mono CP.out ?_
  rintro e w1 ⟨r, rfl, hr, c1, u1⟩
  clear CP
  have hw1 : w.heap.size + 1 ≤ w1.heap.size := by have := u1.size; rw [hsz.out] at this; exact this
  have hr3 : r = 0 ∨ r = 1 ∨ r = 2 := by have := hr.2.2 (by omega); omega
  clear hr c0
  rcases hr3 with rfl | rfl | rfl
  · have CC := Lib.hid (rawField_any p (m + 2) most w1 c1 (by omega) hmost)
    go_wp2_with fail
    with_reducible refine Calls.mono CC.out ?_
    rintro e w2 ⟨a, d, rfl, ⟨xs, J, B, Cp, f, hrf, hrb⟩, c2, u2⟩
    clear CC
    have CC := Lib.hid (spoilt2_any p _ a d w1.heap.size xs J B Cp f wa w2 c2 (by omega) (u1.trans u2) (by rw [hsz.out]; exact hw1) (by rw [hsz.out]; omega) u2.size hrf hrb)
    go_wp2_with fail
    with_reducible refine Calls.mono CC.out ?_
    rintro e w3 ⟨v, rfl, hv, cv, kv⟩
    clear CC
    rw [hsz.out] at hv
    obtain ⟨A9, n9, c9, B9, k9, d9, rfl, _⟩ := hv.shape
    have ht9 := turn_thereD kv t0 (by show ¬ w.heap.size = p; omega)
    have HE := Lib.hid (fld_ret hv ht9 cv hp (k0.trans kv) (Nat.le_refl _))
    go_wp2_with (first | (refine wpList_store_mid rfl 27 (.tmp 4) (.tmp 13) rfl w.heap.size 0 #[.slice A9 n9 c9, .slice B9 k9 d9] rfl rfl ht9 (by kernel_rfl) (by simp [Value.oneCell']) ?_) | fail)
    obtain ⟨z0, z1, z2, z3, z4⟩ := HE.out
    exact bodyPost_ret (v := .agg #[.slice A9 n9 c9, .slice B9 k9 d9]) (by simp [results, Try.results36, go_sem, z0, z1]) rfl ⟨_, rfl, z2, z3.mono (by omega), z4⟩
  · have CC := Lib.hid (lineField_any p (m + 2) most w1 c1 (by omega) hmost)
    go_wp2_with fail
    with_reducible refine Calls.mono CC.out ?_
    rintro e w2 ⟨a, d, rfl, ⟨xs, J, B, Cp, f, hrf, hrb⟩, c2, u2⟩
    clear CC
    have CC := Lib.hid (spoilt2_any p _ a d w1.heap.size xs J B Cp f wa w2 c2 (by omega) (u1.trans u2) (by rw [hsz.out]; exact hw1) (by rw [hsz.out]; omega) u2.size hrf hrb)
    go_wp2_with fail
    with_reducible refine Calls.mono CC.out ?_
    rintro e w3 ⟨v, rfl, hv, cv, kv⟩
    clear CC
    rw [hsz.out] at hv
    obtain ⟨A9, n9, c9, B9, k9, d9, rfl, _⟩ := hv.shape
    have ht9 := turn_thereD kv t0 (by show ¬ w.heap.size = p; omega)
    have HE := Lib.hid (fld_ret hv ht9 cv hp (k0.trans kv) (Nat.le_refl _))
    go_wp2_with (first | (refine wpList_store_mid rfl 27 (.tmp 4) (.tmp 20) rfl w.heap.size 0 #[.slice A9 n9 c9, .slice B9 k9 d9] rfl rfl ht9 (by kernel_rfl) (by simp [Value.oneCell']) ?_) | fail)
    obtain ⟨z0, z1, z2, z3, z4⟩ := HE.out
    exact bodyPost_ret (v := .agg #[.slice A9 n9 c9, .slice B9 k9 d9]) (by simp [results, Try.results36, go_sem, z0, z1]) rfl ⟨_, rfl, z2, z3.mono (by omega), z4⟩
  · have CC := Lib.hid (rawField_any p (m + 2) most w1 c1 (by omega) hmost)
    go_wp2_with fail
    with_reducible refine Calls.mono CC.out ?_
    rintro e w2 ⟨a, d, rfl, ⟨xs, J, B, Cp, f, hrf, hrb⟩, c2, u2⟩
    clear CC
    have CC := Lib.hid (l2Close_any a d w1.heap.size xs J B Cp f w2 hrf hrb)
    go_wp2_with fail
    with_reducible refine Calls.mono CC.out ?_
    rintro e w3 ⟨a', d', rfl, ⟨xs', J', B', Cp', f', hrf', hrb'⟩, k3⟩
    clear CC
    have h23 := u2.size
    have CC := Lib.hid (spoilt2_any p _ a' d' w2.heap.size xs' J' B' Cp' f' wa w3 (c2.kp k3) (by omega) ((u1.trans u2).trans (Turn.of_kp k3)) (by rw [hsz.out]; omega) (by rw [hsz.out]; omega) k3.le hrf' hrb')
    go_wp2_with fail
    with_reducible refine Calls.mono CC.out ?_
    rintro e w4 ⟨v, rfl, hv, cv, kv⟩
    clear CC
    rw [hsz.out] at hv
    obtain ⟨A9, n9, c9, B9, k9, d9, rfl, _⟩ := hv.shape
    have ht9 := turn_thereD kv t0 (by show ¬ w.heap.size = p; omega)
    have HE := Lib.hid (fld_ret hv ht9 cv hp (k0.trans kv) (Nat.le_refl _))
    go_wp2_with (first | (refine wpList_store_mid rfl 27 (.tmp 4) (.tmp 26) rfl w.heap.size 0 #[.slice A9 n9 c9, .slice B9 k9 d9] rfl rfl ht9 (by kernel_rfl) (by simp [Value.oneCell']) ?_) | fail)
    obtain ⟨z0, z1, z2, z3, z4⟩ := HE.out
    exact bodyPost_ret (v := .agg #[.slice A9 n9 c9, .slice B9 k9 d9]) (by simp [results, Try.results36, go_sem, z0, z1]) rfl ⟨_, rfl, z2, z3.mono (by omega), z4⟩
set_option maxRecDepth 100000 in
set_option maxHeartbeats 1000000 in
theorem field_any (p m : Nat) (w : World) (hc : Cur w p m) (hm : m < 100000000) :
    Calls Try.prog 20 #[.pointer (some ⟨p, 0, none⟩)] w fun e w' => ∃ v, e = .returned v ∧ DFld w' w.heap.size v ∧ Cur w' p (m + 5000) ∧ Tp p w w' := by
  have hp := hc.lt
  have t0 := there_newD w [.slice none 0 0, .slice none 0 0] 27
  simp only [List.length_cons, List.length_nil, Nat.zero_add, Nat.reduceAdd] at t0
  have k0 : Tp p w (w.alloc (.cells #[.slice none 0 0, .slice none 0 0] 27)) := Turn.of_kp ((Kp.refl w).alloc _)
  have c0 := hc.kp ((Kp.refl w).alloc (.cells #[.slice none 0 0, .slice none 0 0] 27))
  have hsz : Hid ((w.alloc (.cells #[.slice none 0 0, .slice none 0 0] 27)).heap.size = w.heap.size + 1) := by show _ = _; simp
  have CC := Lib.hid (fieldOf_any p m 7 (w.alloc (.cells #[.slice none 0 0, .slice none 0 0] 27)) c0 hm (by omega))
  go_enter Try.func20, Try.ntmps20
  go_wp2_with fail
  generalize w.alloc (.cells #[.slice none 0 0, .slice none 0 0] 27) = wa at *
  with_reducible refine Calls.mono CC.out ?_
  rintro e w3 ⟨v, rfl, hv, cv, kv⟩
  clear CC
  rw [hsz.out] at hv
  obtain ⟨A9, n9, c9, B9, k9, d9, rfl, _⟩ := hv.shape
  have ht9 := turn_thereD kv t0 (by show ¬ w.heap.size = p; omega)
  have HE := Lib.hid (fld_ret hv ht9 cv hp (k0.trans kv) (Nat.le_refl _))
  go_wp2_with (first | (refine wpList_store_mid rfl 27 (.tmp 2) (.tmp 4) rfl w.heap.size 0 #[.slice A9 n9 c9, .slice B9 k9 d9] rfl rfl ht9 (by kernel_rfl) (by simp [Value.oneCell']) ?_) | fail)
  obtain ⟨z0, z1, z2, z3, z4⟩ := HE.out
  exact bodyPost_ret (v := .agg #[.slice A9 n9 c9, .slice B9 k9 d9]) (by simp [results, Try.results20, go_sem, z0, z1]) rfl ⟨_, rfl, z2, z3.mono (by omega), z4⟩
end Go.Proofs.Ytcccmndkolmboaa

namespace Go.Proofs.Ytcccmndkolmboaa
open Go.RowKit Go.Sort

/-- A list that has been drawn. -/
def DInts (w : World) (b : Nat) (v : Value) : Prop := ∃ xs : List Int, Own w b v xs ∧ xs.length ≤ 200
theorem DInts.mono {w : World} {b b' : Nat} {v : Value} (h : DInts w b v) (hb : b' ≤ b) : DInts w b' v := by
  obtain ⟨xs, h1, h2⟩ := h
  exact ⟨xs, h1.mono hb, h2⟩
theorem DInts.turn {S : Nat → Prop} {w w' : World} {b : Nat} {v : Value} (h : DInts w b v) (ht : Turn S w w') (hn : ∀ i, b ≤ i → ¬ S i) : DInts w' b v := by
  obtain ⟨xs, h1, h2⟩ := h
  exact ⟨xs, own_low h1 ht hn, h2⟩
theorem DInts.kp {w w' : World} {b : Nat} {v : Value} (h : DInts w b v) (hk : Kp w w') : DInts w' b v := h.turn (Turn.of_kp (S := fun _ => False) hk) (fun _ _ h => h)
theorem DInts.ints {w : World} {b : Nat} {v : Value} (h : DInts w b v) : ∃ A c xs, v = .slice A xs.length c ∧ IntsAt w A xs ∧ xs.length ≤ 200 ∧ xs.length ≤ c := by
  obtain ⟨xs, h1, h2⟩ := h
  obtain ⟨A, c, e, hi⟩ := h1.ints (by omega)
  exact ⟨A, c, xs, e, hi, h2, h1.capL e⟩
theorem own_oneD (w : World) (base : Nat) (a : Int) (hb : base ≤ w.heap.size) : Own (w.alloc (.cells #[.int .i64 a] 3)) base (.slice (some ⟨w.heap.size, 0, none⟩) 1 1) [a] :=
  World.ownsRow_lit w #[.int .i64 a] 1 hb (by unfold maxLen; omega) (by simp)
/-- Own memory has turned. -/
theorem tp_own {w w1 w2 : World} {p : Nat} {S : Nat → Prop} (k : Tp p w w1) (ht : Turn S w1 w2) (hs : ∀ i, S i → w.heap.size ≤ i) : Tp p w w2 :=
  ⟨ht.os.trans k.os, ht.tape.trans k.tape, ht.output.trans k.output, Nat.le_trans k.size ht.size, fun i hi hn => by
    rw [ht.block i (Nat.lt_of_lt_of_le hi k.size) (fun e => by have := hs i e; omega), k.block i hi hn]⟩
end Go.Proofs.Ytcccmndkolmboaa

namespace Go.Proofs.Ytcccmndkolmboaa
open Go.RowKit Go.Sort

theorem Apart.symmX {v u : Value} (h : Apart v u) : Apart u v := fun g hu hv => h g hv hu
/-- Two lists have been drawn. -/
def TrPost (p m : Nat) (w : World) (e : Ending) (w' : World) : Prop := ∃ pv lv, e = .returned (.tuple #[pv, lv]) ∧ DInts w' w.heap.size pv ∧ DInts w' w.heap.size lv ∧ Cur w' p (m + 100) ∧ Tp p w w'
set_option maxRecDepth 100000 in
set_option maxHeartbeats 2000000 in
theorem tree_any (p m : Nat) (w : World) (hc : Cur w p m) (hm : m < 90000000) :
    Calls Try.prog 17 #[.pointer (some ⟨p, 0, none⟩)] w (TrPost p m w) := by
  have hp := hc.lt
  have ka : Kp w (w.alloc (.cells #[.int .i64 (-1)] 3)) := (Kp.refl w).alloc _
  have kb : Kp (w.alloc (.cells #[.int .i64 (-1)] 3)) ((w.alloc (.cells #[.int .i64 (-1)] 3)).alloc (.cells #[.int .i64 0] 3)) := (Kp.refl _).alloc _
  have o1 := (own_oneD w w.heap.size (-1) (Nat.le_refl _)).kp kb
  have o2 := own_oneD (w.alloc (.cells #[.int .i64 (-1)] 3)) w.heap.size 0 (by simp)
  have hz : (w.alloc (.cells #[.int .i64 (-1)] 3)).heap.size = w.heap.size + 1 := by simp
  rw [hz] at o2
  have k0 : Tp p w ((w.alloc (.cells #[.int .i64 (-1)] 3)).alloc (.cells #[.int .i64 0] 3)) := Turn.of_kp (ka.trans kb)
  have c0 := hc.kp (ka.trans kb)
  have CP := Lib.hid (pick_any p m 7 _ c0 (by omega) (by omega))
  have ap0 : Apart (.slice (some ⟨w.heap.size, 0, none⟩) 1 1) (.slice (some ⟨w.heap.size + 1, 0, none⟩) 1 1) := fun g h e => by
    have h1 : w.heap.size = g := Option.some.inj h
    have h2 : w.heap.size + 1 = g := Option.some.inj e
    omega
  clear ka kb hz
  go_enter Try.func17, Try.ntmps17
  go_wp2_with fail
  generalize (w.alloc (.cells #[.int .i64 (-1)] 3)).alloc (.cells #[.int .i64 0] 3) = wa at *
  with_reducible refine Calls.mono CP.out ?_
  rintro e w1 ⟨r, rfl, hr, c1, u1⟩
  clear CP
  obtain ⟨q, rfl⟩ := Int.eq_ofNat_of_zero_le hr.1
  have hq : q ≤ 6 := by have := hr.2.2 (by omega); omega
  replace o1 := own_low o1 u1 (fun i hi => by omega)
  replace o2 := own_low o2 u1 (fun i hi => by omega)
  have T1 := k0.trans u1
  replace c1 := c1.mono (m' := m + 50 - 4 * q) (by omega)
  clear c0 k0 u1 hr hc
  go_wp2_with fail
  go_loopw [4, 5, 6] (fun pv lv nv wc => ∃ (j L : Nat) (A : Option Addr) (a : Nat) (B : Option Addr) (b : Nat) (ps ls : List Int), nv = .int .i64 j ∧ pv = .slice A L a ∧ lv = .slice B L b ∧ L + j ≤ 7 ∧ 1 ≤ L ∧ Hid (ps.length = L) ∧ Hid (ls.length = L) ∧ Own wc w.heap.size (.slice A L a) ps ∧ Own wc w.heap.size (.slice B L b) ls ∧ Apart (.slice A L a) (.slice B L b) ∧ Tp p w wc ∧ Cur wc p (m + 50 - 4 * j)) (fun _ _ nv _ => (intOf nv).toNat)
  case atStart => exact ⟨q, 1, _, _, _, _, [-1], [0], rfl, rfl, rfl, by omega, Nat.le_refl _, Lib.hid rfl, Lib.hid rfl, o1, o2, ap0, T1, c1⟩
  case round =>
    clear o1 o2 ap0 T1 c1
    obtain ⟨j, L, A, a, B, b, ps, ls, rfl, rfl, rfl, hLj, hL1, Hp, Hl, o1, o2, ap, T, cu⟩ := hrel
    have hsz := T.size
    by_cases hj : 0 < j
    · have hjI : (0 : Int) < (j : Int) := by omega
      have CP := Lib.hid (pick_any p _ L wr cu (by omega) (by omega))
      go_wp2_with fail
      with_reducible refine Calls.mono CP.out ?_
      rintro e w1 ⟨r, rfl, _, c1, u1⟩
      clear CP
      replace o1 := own_low o1 u1 (fun i hi => by omega)
      replace o2 := own_low o2 u1 (fun i hi => by omega)
      replace T := T.trans u1
      have hb1 : w.heap.size ≤ w1.heap.size := T.size
      have hl1 : ps.length < 1048576 := by have := Hp.out; omega
      have hl2 : ls.length < 1048576 := by have := Hl.out; omega
      have hN : ∀ (z : Int), (ps ++ [z]).length = L + 1 := fun z => by rw [List.length_append, Hp.out]; rfl
      have hM : ∀ (z : Int), (ls ++ [z]).length = L + 1 := fun z => by rw [List.length_append, Hl.out]; rfl
      clear cu
      go_wp2_with (first | (at_builtin; go_loud (refine wpl_app rfl (.tmp 16) (.tmp 21) rfl w.heap.size _ ps r rfl rfl o1 hb1 hl1 ?_); intro v8 w8 o8 t8 f8) | fail)
      have T8 := tp_own T t8 (fun i e => (o1.lt i e).1)
      have o28 := o2.turn t8 (fun g hg e => ap g e hg)
      have ap8 := ap.grow o2 f8
      have c8 := c1.turn t8 (fun i hi e => by have h1 := (o1.lt i e).1; omega)
      clear o1 o2 T ap c1 t8 f8 hb1 hl1 u1
      obtain ⟨A8, a8, hv8⟩ := o8.shape
      rw [hN] at hv8
      subst hv8
      have CC := amongLit_any p (m + 50 - 4 * j + 2) [1, 2, 3, 5, 0, 9] w8 c8 (by omega) (by simp) (by simp)
      simp only [List.map_cons, List.map_nil, List.length_cons, List.length_nil, Nat.zero_add, Nat.reduceAdd] at CC
      replace CC := Lib.hid CC
      clear c8
      with_reducible refine Calls.mono CC.out ?_
      rintro e w9 ⟨z, rfl, _, c9, u9⟩
      clear CC
      have o1 := own_low o8 u9 (fun i hi => by omega)
      have o2 := own_low o28 u9 (fun i hi => by omega)
      have T := T8.trans u9
      have hb9 : w.heap.size ≤ w9.heap.size := T.size
      clear o8 o28 T8 u9
      go_wp2_with (first | (at_builtin; go_loud (refine wpl_app rfl (.tmp 23) (.tmp 27) rfl w.heap.size _ ls z rfl rfl o2 hb9 hl2 ?_); intro v7 w7 o7 t7 f7) | fail)
      have T7 := tp_own T t7 (fun i e => (o2.lt i e).1)
      have o17 := o1.turn t7 (fun g hg e => ap8 g hg e)
      have ap7 := (Apart.symmX ap8).grow o1 f7
      have c7 := c9.turn t7 (fun i hi e => by have h1 := (o2.lt i e).1; omega)
      obtain ⟨A7, a7, hv7⟩ := o7.shape
      rw [hM] at hv7
      subst hv7
      go_roundw
      case rel => exact ⟨j - 1, L + 1, A8, a8, A7, a7, ps ++ [r], ls ++ [z], by go_num, rfl, rfl, by omega, by omega, Lib.hid (hN _), Lib.hid (hM _), o17, o7, Apart.symmX ap7, T7, c7.mono (by omega)⟩
      case measure => simp [intOf]; omega
    · obtain rfl : j = 0 := by omega
      have hLp := Hp.out
      have hLl := Hl.out
      have CP := Lib.hid (pick_any p _ L wr cu (by omega) (by omega))
      go_wp2_with fail
      with_reducible refine Calls.mono CP.out ?_
      rintro e w2 ⟨k0, rfl, hk0, c2, u2⟩
      clear CP
      obtain ⟨k, rfl⟩ := Int.eq_ofNat_of_zero_le hk0.1
      have hk : k < L := by
        by_cases h : (L : Int) ≤ 1
        · have := hk0.2.1 h; omega
        · have := hk0.2.2 (by omega); omega
      replace o1 := own_low o1 u2 (fun i hi => by omega)
      replace o2 := own_low o2 u2 (fun i hi => by omega)
      replace T := T.trans u2
      have CP := Lib.hid (pick_any p _ 24 w2 c2 (by omega) (by omega))
      clear cu c2 u2 hk0
      go_wp2_with fail
      with_reducible refine Calls.mono CP.out ?_
      rintro e w3 ⟨r, rfl, _, c3, u3⟩
      clear CP
      replace o1 := own_low o1 u3 (fun i hi => by omega)
      replace o2 := own_low o2 u3 (fun i hi => by omega)
      replace T := T.trans u3
      have cu := c3.mono (m' := m + 60) (by omega)
      clear c3 u3 hsz
      have hsz := T.size
      have hkI : (k : Int) < (L : Int) := by omega
      have n1 : ((k : Int)).toNat = k := Int.toNat_natCast k
      by_cases r0 : r = 0
      · subst r0
        obtain ⟨ga, hga⟩ : ∃ ga, A = some ⟨ga, 0, none⟩ := by obtain ⟨g, cc, e⟩ := o1.at0 hLp (by omega); cases e; exact ⟨_, rfl⟩
        subst hga
        have CC := amongLit_any p (m + 60) [-1, (k : Int), -2, 4611686018427387904] w3 cu (by omega) (by simp) (by simp)
        simp only [List.map_cons, List.map_nil, List.length_cons, List.length_nil, Nat.zero_add, Nat.reduceAdd] at CC
        replace CC := Lib.hid CC
        have a1 : (⟨ga, 0, none⟩ : Addr).add k = ⟨ga, k, none⟩ := add0 _ _
        go_wp2_with fail
        with_reducible refine Calls.mono CC.out ?_
        rintro e w5 ⟨z, rfl, _, c5, u5⟩
        clear CC
        replace o1 := own_low o1 u5 (fun i hi => by omega)
        replace o2 := own_low o2 u5 (fun i hi => by omega)
        replace T := T.trans u5
        obtain ⟨y1, y2, y3⟩ := o1.slotL hLp hk
        obtain ⟨o6, t6⟩ := y3 z
        have p6 := o2.turn t6 (fun g hg e => ap g (by rw [e]; rfl) hg)
        have T6 := tp_own T t6 (fun i e => (o1.lt i (by rw [e]; rfl)).1)
        have c6 := c5.turn t6 (fun i hi e => by have h1 := (o1.lt i (by rw [e]; rfl)).1; omega)
        clear y3
        go_wp2_with fail
        go_ret2
        exact ⟨_, _, rfl, ⟨_, o6, by (try simp only [List.length_set, List.length_nil]); omega⟩, ⟨_, p6, by (try simp only [List.length_set, List.length_nil]); omega⟩, c6.mono (by omega), T6⟩
      · have q0 : (r == 0) = false := by simp [r0]
        by_cases r1 : r = 1
        · subst r1
          obtain ⟨ga, hga⟩ : ∃ ga, B = some ⟨ga, 0, none⟩ := by obtain ⟨g, cc, e⟩ := o2.at0 hLl (by omega); cases e; exact ⟨_, rfl⟩
          subst hga
          have CC := amongLit_any p (m + 60) [99, 100, -1] w3 cu (by omega) (by simp) (by simp)
          simp only [List.map_cons, List.map_nil, List.length_cons, List.length_nil, Nat.zero_add, Nat.reduceAdd] at CC
          replace CC := Lib.hid CC
          have a1 : (⟨ga, 0, none⟩ : Addr).add k = ⟨ga, k, none⟩ := add0 _ _
          go_wp2_with fail
          with_reducible refine Calls.mono CC.out ?_
          rintro e w5 ⟨z, rfl, _, c5, u5⟩
          clear CC
          replace o1 := own_low o1 u5 (fun i hi => by omega)
          replace o2 := own_low o2 u5 (fun i hi => by omega)
          replace T := T.trans u5
          obtain ⟨y1, y2, y3⟩ := o2.slotL hLl hk
          obtain ⟨o6, t6⟩ := y3 z
          have p6 := o1.turn t6 (fun g hg e => ap g hg (by rw [e]; rfl))
          have T6 := tp_own T t6 (fun i e => (o2.lt i (by rw [e]; rfl)).1)
          have c6 := c5.turn t6 (fun i hi e => by have h1 := (o2.lt i (by rw [e]; rfl)).1; omega)
          clear y3
          go_wp2_with fail
          go_ret2
          exact ⟨_, _, rfl, ⟨_, p6, by (try simp only [List.length_set, List.length_nil]); omega⟩, ⟨_, o6, by (try simp only [List.length_set, List.length_nil]); omega⟩, c6.mono (by omega), T6⟩
        · have q1 : (r == 1) = false := by simp [r1]
          by_cases r2 : r = 2
          · subst r2
            go_wp2_with fail
            go_loopw [4, 5] (fun pv lv wc => ∃ (L : Nat) (A : Option Addr) (a : Nat) (B : Option Addr) (b : Nat) (ps ls : List Int), pv = .slice A L a ∧ lv = .slice B L b ∧ L ≤ 8 ∧ Hid (ps.length = L) ∧ Hid (ls.length = L) ∧ Own wc w.heap.size (.slice A L a) ps ∧ Own wc w.heap.size (.slice B L b) ls ∧ Apart (.slice A L a) (.slice B L b) ∧ Tp p w wc ∧ Cur wc p (m + 60)) (fun pv _ _ => 8 - sLen pv)
            case atStart => exact ⟨L, A, a, B, b, ps, ls, rfl, rfl, by omega, Hp, Hl, o1, o2, ap, T, cu⟩
            case round =>
              clear o1 o2 ap T cu hkI hk n1 hLp hLl hsz Hp Hl hLj hL1
              obtain ⟨L, A, a, B, b, ps, ls, rfl, rfl, hL8, Hp, Hl, o1, o2, ap, T, cu⟩ := hrel
              have hLp := Hp.out
              have hLl := Hl.out
              have hsz := T.size
              by_cases hlt : L < 8
              · have hltI : (L : Int) < 8 := by omega
                have hl1 : ps.length < 1048576 := by omega
                have hl2 : ls.length < 1048576 := by omega
                have hN : ∀ (z : Int), (ps ++ [z]).length = L + 1 := fun z => by rw [List.length_append, Hp.out]; rfl
                have hM : ∀ (z : Int), (ls ++ [z]).length = L + 1 := fun z => by rw [List.length_append, Hl.out]; rfl
                go_wp2_with (first | (at_builtin; go_loud (refine wpl_app rfl (.tmp 57) (.tmp 58) rfl w.heap.size _ ps 0 rfl rfl o1 hsz hl1 ?_); intro v8 w8 o8 t8 f8; have T8 := tp_own T t8 (fun i e => (o1.lt i e).1); have o28 := o2.turn t8 (fun g hg e => ap g e hg); have ap8 := ap.grow o2 f8; have c8 := cu.turn t8 (fun i hi e => by have h1 := (o1.lt i e).1; omega); have hs8 := T8.size) | (at_builtin; refine wpl_app rfl (.tmp 60) (.tmp 61) rfl w.heap.size _ ls 1 rfl rfl o28 hs8 hl2 ?_; intro v7 w7 o7 t7 f7) | fail)
                have T7 := tp_own T8 t7 (fun i e => (o28.lt i e).1)
                have o17 := o8.turn t7 (fun g hg e => ap8 g hg e)
                have ap7 := (Apart.symmX ap8).grow o8 f7
                have c7 := c8.turn t7 (fun i hi e => by have h1 := (o28.lt i e).1; omega)
                obtain ⟨A8, a8, hv8⟩ := o8.shape
                rw [hN] at hv8
                subst hv8
                obtain ⟨A7, a7, hv7⟩ := o7.shape
                rw [hM] at hv7
                subst hv7
                go_roundw
                case rel => exact ⟨L + 1, A8, a8, A7, a7, _, _, rfl, rfl, by omega, Lib.hid (hN _), Lib.hid (hM _), o17, o7, Apart.symmX ap7, T7, c7⟩
                case measure => simp [sLen]; omega
              · have hltI : ¬ (L : Int) < 8 := by omega
                go_wp2_with fail
                go_ret2
                exact ⟨_, _, rfl, ⟨_, o1, by (try simp only [List.length_set, List.length_nil]); omega⟩, ⟨_, o2, by (try simp only [List.length_set, List.length_nil]); omega⟩, cu.mono (by omega), T⟩
          · have q2 : (r == 2) = false := by simp [r2]
            by_cases r3 : r = 3
            · subst r3
              have e1 := own_new0 w3 w.heap.size hsz
              have e2 := own_new0 (w3.alloc (.cells #[] 3)) w.heap.size (by rw [World.size_alloc]; omega)
              rw [World.size_alloc] at e2
              have ka : Kp w3 (w3.alloc (.cells #[] 3)) := (Kp.refl w3).alloc _
              have kb : Kp (w3.alloc (.cells #[] 3)) ((w3.alloc (.cells #[] 3)).alloc (.cells #[] 3)) := (Kp.refl _).alloc _
              have e3 := e1.kp kb
              have c6 := cu.kp (ka.trans kb)
              have T6 := T.trans (Turn.of_kp (ka.trans kb))
              go_wp2_with fail
              go_ret2
              exact ⟨_, _, rfl, ⟨_, e3, by (try simp only [List.length_set, List.length_nil]); omega⟩, ⟨_, e2, by (try simp only [List.length_set, List.length_nil]); omega⟩, c6.mono (by omega), T6⟩
            · have q3 : (r == 3) = false := by simp [r3]
              go_wp2_with fail
              go_ret2
              exact ⟨_, _, rfl, ⟨_, o1, by (try simp only [List.length_set, List.length_nil]); omega⟩, ⟨_, o2, by (try simp only [List.length_set, List.length_nil]); omega⟩, cu.mono (by omega), T⟩
end Go.Proofs.Ytcccmndkolmboaa

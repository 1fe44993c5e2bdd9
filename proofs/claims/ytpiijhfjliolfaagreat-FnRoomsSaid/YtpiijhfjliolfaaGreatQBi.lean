/- The drawing of arguments: a field; a worth; a list of sites; The drawing of arguments: a list of sites; The drawing of arguments for the laws on flows: a field, rooms and needs; l1Put of a nil list, and of any list; what a site adds, as the reference tells it; The drawing of arguments for the laws on flows: a set that has mostly room enough; The drawing of arguments for the laws on gains; The drawing of arguments for the law on least flows. No condition. -/
import Derived.Test.YtpiijhfjliolfaaGreatQBh
import Derived.Test.YtpiijhfjliolfaaGreatQAd
import Derived.Test.YtpiijhfjliolfaaGreatQAa
import Derived.Test.YtpiijhfjliolfaaGreatQAk
import Derived.Test.YtpiijhfjliolfaaGreatQAx
import Derived.Test.YtpiijhfjliolfaaGreatQAf
import Derived.WalkLawsBesides
import Derived.Test.YtpiijhfjliolfaaGreatQAh
import Derived.Test.YtpiijhfjliolfaaGreatQAv
namespace Go.Proofs.YtpiijhfjliolfaaGreat
open Go.RowKit Go.Sort

theorem DFld.shape {w : World} {b : Nat} {v : Value} (h : DFld w b v) : ∃ A n c B k d, v = .agg #[.slice A n c, .slice B k d] ∧ n ≤ 9223372036854775807 := by
  obtain ⟨F, A, c, B, d, e, h1, h2⟩ := h
  exact ⟨A, F.op.length, c, B, F.di.length, d, e, h1.1.1⟩
theorem DFld.shape2 {w : World} {b : Nat} {v : Value} (h : DFld w b v) : ∃ A n c B k d, v = .agg #[.slice A n c, .slice B k d] ∧ n ≤ 9223372036854775807 ∧ k ≤ 90 := by
  obtain ⟨F, A, c, B, d, e, h1, h2⟩ := h
  exact ⟨A, F.op.length, c, B, F.di.length, d, e, h1.1.1, h2.1⟩
theorem DFld.shape3 {w : World} {b : Nat} {v : Value} (h : DFld w b v) : ∃ A n c B k d, v = .agg #[.slice A n c, .slice B k d] ∧ n ≤ 100 ∧ k ≤ 90 := by
  obtain ⟨F, A, c, B, d, e, h1, h2⟩ := h
  exact ⟨A, F.op.length, c, B, F.di.length, d, e, h1.2.2, h2.1⟩
theorem DFld.turn {S : Nat → Prop} {w w' : World} {b : Nat} {v : Value} (h : DFld w b v) (ht : Turn S w w') (hn : ∀ i, b ≤ i → ¬ S i) : DFld w' b v := by
  obtain ⟨F, hf⟩ := h
  exact ⟨F, hf.turn ht hn⟩
theorem DFld.kp {w w' : World} {b : Nat} {v : Value} (h : DFld w b v) (hk : Kp w w') : DFld w' b v := h.turn (Turn.of_kp (S := fun _ => False) hk) (fun _ _ h => h)
theorem DFld.mono {w : World} {b b' : Nat} {v : Value} (h : DFld w b v) (hb : b' ≤ b) : DFld w b' v := by
  obtain ⟨F, hf⟩ := h
  exact ⟨F, hf.mono (fun i hi => by omega)⟩
/-- The result's cells, when the field is stored there. -/
theorem fld_ret {w w2 : World} {p m rb : Nat} {x y : Value} (hf : DFld w2 (rb + 1) (.agg #[x, y])) (ht : w2.there rb 0 2) (hc : Cur w2 p m) (hp : p < rb) (k : Tp p w w2) (hr : w.heap.size ≤ rb) : (w2.setCells rb 0 [x, y]).cell? ⟨rb, 0, none⟩ = some x ∧ (w2.setCells rb 0 [x, y]).cell? ⟨rb, 1, none⟩ = some y ∧ DFld (w2.setCells rb 0 [x, y]) w.heap.size (.agg #[x, y]) ∧ Cur (w2.setCells rb 0 [x, y]) p m ∧ Tp p w (w2.setCells rb 0 [x, y]) := by
  have ts := turn_setCellsD rb [x, y] 0 w2
  have hg := World.rangeAt_setCells_same w2 rb 0 [x, y] ht
  exact ⟨hg 0 _ rfl, hg 1 _ rfl, (hf.turn ts (fun i hi => by omega)).mono (by omega), hc.turn ts (fun i hi => by omega), ⟨ts.os.trans k.os, ts.tape.trans k.tape, ts.output.trans k.output, Nat.le_trans k.size ts.size, fun i hi hn => by
    rw [ts.block i (Nat.lt_of_lt_of_le hi k.size) (by omega), k.block i hi hn]⟩⟩
set_option maxRecDepth 100000 in
set_option maxHeartbeats 2000000 in
theorem fieldOf_any (p m : Nat) (most : Int) (w : World) (hc : Cur w p m) (hm : m < 100000000) (hmost : 1 ≤ most) :
    Calls Tryz.prog 62 #[.pointer (some ⟨p, 0, none⟩), .int .i64 most] w fun e w' => ∃ v, e = .returned v ∧ DFld w' w.heap.size v ∧ Cur w' p (m + 5000) ∧ Tp p w w' := by
  have hp := hc.lt
  have t0 := there_newD w [.slice none 0 0, .slice none 0 0] 27
  simp only [List.length_cons, List.length_nil, Nat.zero_add, Nat.reduceAdd] at t0
  have k0 : Tp p w (w.alloc (.cells #[.slice none 0 0, .slice none 0 0] 27)) := Turn.of_kp ((Kp.refl w).alloc _)
  have c0 := hc.kp ((Kp.refl w).alloc (.cells #[.slice none 0 0, .slice none 0 0] 27))
  have hsz : Hid ((w.alloc (.cells #[.slice none 0 0, .slice none 0 0] 27)).heap.size = w.heap.size + 1) := by show _ = _; simp
  have CP := Lib.hid (pick_any p m 3 (w.alloc (.cells #[.slice none 0 0, .slice none 0 0] 27)) c0 (by omega) (by omega))
  go_enter Tryz.func62, Tryz.ntmps62
  go_wp2_with fail
  generalize w.alloc (.cells #[.slice none 0 0, .slice none 0 0] 27) = wa at *
  with_reducible refine Calls.mono CP.out ?_
  rintro e w1 ⟨r, rfl, hr, c1, u1⟩
  clear CP
  have hw1 : w.heap.size + 1 ≤ w1.heap.size := by have := u1.size; rw [hsz.out] at this; exact this
  have hr3 : r = 0 ∨ r = 1 ∨ r = 2 := by have := hr.2.2 (by omega); omega
  clear hr c0
  rcases hr3 with rfl | rfl | rfl
  · have CC := Lib.hid (rawField_any p (m + 2) most w1 c1 (by omega) hmost)
    go_wp2_with fail
    with_reducible refine Calls.mono CC.out ?_
    rintro e w2 ⟨a, d, rfl, ⟨xs, J, B, Cp, f, hrf, hrb⟩, c2, u2⟩
    clear CC
    have CC := Lib.hid (spoilt2_any p _ a d w1.heap.size xs J B Cp f wa w2 c2 (by omega) (u1.trans u2) (by rw [hsz.out]; exact hw1) (by rw [hsz.out]; omega) u2.size hrf hrb)
    go_wp2_with fail
    with_reducible refine Calls.mono CC.out ?_
    rintro e w3 ⟨v, rfl, hv, cv, kv⟩
    clear CC
    rw [hsz.out] at hv
    obtain ⟨A9, n9, c9, B9, k9, d9, rfl, _⟩ := hv.shape
    have ht9 := turn_thereD kv t0 (by show ¬ w.heap.size = p; omega)
    have HE := Lib.hid (fld_ret hv ht9 cv hp (k0.trans kv) (Nat.le_refl _))
    go_wp2_with (first | (refine wpList_store_mid rfl 27 (.tmp 4) (.tmp 13) rfl w.heap.size 0 #[.slice A9 n9 c9, .slice B9 k9 d9] rfl rfl ht9 (by kernel_rfl) (by simp [Value.oneCell']) ?_) | fail)
    obtain ⟨z0, z1, z2, z3, z4⟩ := HE.out
    exact bodyPost_ret (v := .agg #[.slice A9 n9 c9, .slice B9 k9 d9]) (by simp [results, Tryz.results62, go_sem, z0, z1]) rfl ⟨_, rfl, z2, z3.mono (by omega), z4⟩
  · have CC := Lib.hid (lineField_any p (m + 2) most w1 c1 (by omega) hmost)
    go_wp2_with fail
    with_reducible refine Calls.mono CC.out ?_
    rintro e w2 ⟨a, d, rfl, ⟨xs, J, B, Cp, f, hrf, hrb⟩, c2, u2⟩
    clear CC
    have CC := Lib.hid (spoilt2_any p _ a d w1.heap.size xs J B Cp f wa w2 c2 (by omega) (u1.trans u2) (by rw [hsz.out]; exact hw1) (by rw [hsz.out]; omega) u2.size hrf hrb)
    go_wp2_with fail
    with_reducible refine Calls.mono CC.out ?_
    rintro e w3 ⟨v, rfl, hv, cv, kv⟩
    clear CC
    rw [hsz.out] at hv
    obtain ⟨A9, n9, c9, B9, k9, d9, rfl, _⟩ := hv.shape
    have ht9 := turn_thereD kv t0 (by show ¬ w.heap.size = p; omega)
    have HE := Lib.hid (fld_ret hv ht9 cv hp (k0.trans kv) (Nat.le_refl _))
    go_wp2_with (first | (refine wpList_store_mid rfl 27 (.tmp 4) (.tmp 20) rfl w.heap.size 0 #[.slice A9 n9 c9, .slice B9 k9 d9] rfl rfl ht9 (by kernel_rfl) (by simp [Value.oneCell']) ?_) | fail)
    obtain ⟨z0, z1, z2, z3, z4⟩ := HE.out
    exact bodyPost_ret (v := .agg #[.slice A9 n9 c9, .slice B9 k9 d9]) (by simp [results, Tryz.results62, go_sem, z0, z1]) rfl ⟨_, rfl, z2, z3.mono (by omega), z4⟩
  · have CC := Lib.hid (rawField_any p (m + 2) most w1 c1 (by omega) hmost)
    go_wp2_with fail
    with_reducible refine Calls.mono CC.out ?_
    rintro e w2 ⟨a, d, rfl, ⟨xs, J, B, Cp, f, hrf, hrb⟩, c2, u2⟩
    clear CC
    have CC := Lib.hid (l2Close_any a d w1.heap.size xs J B Cp f w2 hrf hrb)
    go_wp2_with fail
    with_reducible refine Calls.mono CC.out ?_
    rintro e w3 ⟨a', d', rfl, ⟨xs', J', B', Cp', f', hrf', hrb'⟩, k3⟩
    clear CC
    have h23 := u2.size
    have CC := Lib.hid (spoilt2_any p _ a' d' w2.heap.size xs' J' B' Cp' f' wa w3 (c2.kp k3) (by omega) ((u1.trans u2).trans (Turn.of_kp k3)) (by rw [hsz.out]; omega) (by rw [hsz.out]; omega) k3.le hrf' hrb')
    go_wp2_with fail
    with_reducible refine Calls.mono CC.out ?_
    rintro e w4 ⟨v, rfl, hv, cv, kv⟩
    clear CC
    rw [hsz.out] at hv
    obtain ⟨A9, n9, c9, B9, k9, d9, rfl, _⟩ := hv.shape
    have ht9 := turn_thereD kv t0 (by show ¬ w.heap.size = p; omega)
    have HE := Lib.hid (fld_ret hv ht9 cv hp (k0.trans kv) (Nat.le_refl _))
    go_wp2_with (first | (refine wpList_store_mid rfl 27 (.tmp 4) (.tmp 26) rfl w.heap.size 0 #[.slice A9 n9 c9, .slice B9 k9 d9] rfl rfl ht9 (by kernel_rfl) (by simp [Value.oneCell']) ?_) | fail)
    obtain ⟨z0, z1, z2, z3, z4⟩ := HE.out
    exact bodyPost_ret (v := .agg #[.slice A9 n9 c9, .slice B9 k9 d9]) (by simp [results, Tryz.results62, go_sem, z0, z1]) rfl ⟨_, rfl, z2, z3.mono (by omega), z4⟩
end Go.Proofs.YtpiijhfjliolfaaGreat

namespace Go.Proofs.YtpiijhfjliolfaaGreat
open Go.RowKit Go.Sort

/-- A list that has been drawn. -/
def DInts (w : World) (b : Nat) (v : Value) : Prop := ∃ xs : List Int, Own w b v xs ∧ xs.length ≤ 200
theorem DInts.mono {w : World} {b b' : Nat} {v : Value} (h : DInts w b v) (hb : b' ≤ b) : DInts w b' v := by
  obtain ⟨xs, h1, h2⟩ := h
  exact ⟨xs, h1.mono hb, h2⟩
theorem DInts.turn {S : Nat → Prop} {w w' : World} {b : Nat} {v : Value} (h : DInts w b v) (ht : Turn S w w') (hn : ∀ i, b ≤ i → ¬ S i) : DInts w' b v := by
  obtain ⟨xs, h1, h2⟩ := h
  exact ⟨xs, own_low h1 ht hn, h2⟩
theorem DInts.kp {w w' : World} {b : Nat} {v : Value} (h : DInts w b v) (hk : Kp w w') : DInts w' b v := h.turn (Turn.of_kp (S := fun _ => False) hk) (fun _ _ h => h)
theorem DInts.ints {w : World} {b : Nat} {v : Value} (h : DInts w b v) : ∃ A c xs, v = .slice A xs.length c ∧ IntsAt w A xs ∧ xs.length ≤ 200 ∧ xs.length ≤ c := by
  obtain ⟨xs, h1, h2⟩ := h
  obtain ⟨A, c, e, hi⟩ := h1.ints (by omega)
  exact ⟨A, c, xs, e, hi, h2, h1.capL e⟩
theorem own_oneD (w : World) (base : Nat) (a : Int) (hb : base ≤ w.heap.size) : Own (w.alloc (.cells #[.int .i64 a] 3)) base (.slice (some ⟨w.heap.size, 0, none⟩) 1 1) [a] :=
  World.ownsRow_lit w #[.int .i64 a] 1 hb (by unfold maxLen; omega) (by simp)
/-- Own memory has turned. -/
theorem tp_own {w w1 w2 : World} {p : Nat} {S : Nat → Prop} (k : Tp p w w1) (ht : Turn S w1 w2) (hs : ∀ i, S i → w.heap.size ≤ i) : Tp p w w2 :=
  ⟨ht.os.trans k.os, ht.tape.trans k.tape, ht.output.trans k.output, Nat.le_trans k.size ht.size, fun i hi hn => by
    rw [ht.block i (Nat.lt_of_lt_of_le hi k.size) (fun e => by have := hs i e; omega), k.block i hi hn]⟩
set_option maxRecDepth 100000 in
set_option maxHeartbeats 2000000 in
theorem sites_any (p m : Nat) (A : Option Addr) (n c : Nat) (B : Option Addr) (k d : Nat) (w : World) (hc : Cur w p m) (hm : m < 100000000) (hn : n ≤ 9223372036854775807) :
    Calls Tryz.prog 65 #[.pointer (some ⟨p, 0, none⟩), .agg #[.slice A n c, .slice B k d]] w fun e w' => ∃ v, e = .returned v ∧ DInts w' w.heap.size v ∧ Cur w' p (m + 30) ∧ Tp p w w' := by
  have hp := hc.lt
  have k0 : Kp w (w.alloc (.cells #[.slice A n c, .slice B k d] 27)) := (Kp.refl w).alloc _
  obtain ⟨d0, d1⟩ := box2 w (.slice A n c) (.slice B k d) 27
  obtain ⟨nn, hnn⟩ : ∃ nn : Nat, min (n : Int) 7 = (nn : Int) := ⟨min n 7, by omega⟩
  have hn7 : nn ≤ 7 := by omega
  have CL := Lib.hid (l1Least_any (n : Int) 7 (w.alloc (.cells #[.slice A n c, .slice B k d] 27)))
  rw [hnn] at CL
  obtain ⟨P, HP, hpw, hP⟩ := pow_wrap (nn : Int) (by omega) (by omega)
  rw [Int.toNat_natCast] at hpw
  have hP1 : 1 ≤ P := by rw [HP.out]; exact Nat.one_le_two_pow
  have c0 := hc.kp k0
  have t0 : Tp p w (w.alloc (.cells #[.slice A n c, .slice B k d] 27)) := Turn.of_kp k0
  have CP := Lib.hid (pick_any p m P (w.alloc (.cells #[.slice A n c, .slice B k d] 27)) c0 (by omega) (by omega))
  clear hnn
  go_enter Tryz.func65, Tryz.ntmps65
  go_wp2_with fail
  generalize w.alloc (.cells #[.slice A n c, .slice B k d] 27) = wa at *
  with_reducible refine Calls.mono CL.out ?_
  rintro e w1 ⟨rfl, hw⟩
  obtain rfl := hw
  clear CL
  go_wp2_with fail
  with_reducible refine Calls.mono CP.out ?_
  rintro e w2 ⟨r, rfl, hr, c2, u2⟩
  clear CP
  obtain ⟨q, rfl⟩ := Int.eq_ofNat_of_zero_le hr.1
  have hq : q < P := by have := hr.2.2 (by omega); omega
  have CB := Lib.hid (l2Bits_any nn (q + 1) w2 (by omega) (by omega))
  rw [show (((q + 1 : Nat)) : Int) = 1 + (q : Int) from by push_cast; omega] at CB
  have t2 := t0.trans u2
  clear hr c0 t0 u2
  go_wp2_with fail
  with_reducible refine Calls.mono CB.out ?_
  rintro e w3 ⟨v, rfl, ho, hk3⟩
  clear CB
  have hbl := bitsL_len nn (q + 1)
  obtain ⟨ys, hys⟩ : ∃ ys, bitsL nn (q + 1) = ys := ⟨_, rfl⟩
  rw [hys] at ho hbl
  have ho3 := ho.mono t2.size
  have t3 := t2.trans (Turn.of_kp hk3)
  have c3 := c2.kp hk3
  have CP := Lib.hid (one_any p (m + 2) 20 w3 c3 (by omega) (by omega))
  clear ho hys
  go_wp2_with fail
  with_reducible refine Calls.mono CP.out ?_
  rintro e w4 ⟨b, rfl, c4, u4⟩
  clear CP
  have ho4 := own_low ho3 u4 (fun i hi => by omega)
  have t4 := t3.trans u4
  clear ho3 t3 c3 hk3 c2 t2 u4
  cases b
  · obtain ⟨xs, rfl⟩ : ∃ xs, xs = ys := ⟨_, rfl⟩
    have hos := ho4
    have hcs := c4.mono (m' := m + 8) (by omega)
    have hts := t4
    clear ho4 c4 t4
    obtain ⟨As, cs, hvs⟩ := hos.shape
    obtain ⟨l, hl⟩ : ∃ l, xs.length = l := ⟨_, rfl⟩
    rw [hl] at hvs
    subst hvs
    have hl8 : l ≤ 8 := by omega
    by_cases hl0 : l = 0
    · subst hl0
      by_cases hn0 : nn = 0
      · subst hn0
        go_wp2_with fail
        go_ret
        exact ⟨_, rfl, ⟨xs, hos, by omega⟩, hcs.mono (by omega), hts⟩
      · have hnI : (0 : Int) < (nn : Int) := by omega
        have CP := Lib.hid (one_any p (m + 8) 6 w4 (hcs.mono (by omega)) (by omega) (by omega))
        go_wp2_with fail
        with_reducible refine Calls.mono CP.out ?_
        rintro e wz ⟨b, rfl, cz, uz⟩
        clear CP
        cases b
        · have CP := Lib.hid (pick_any p _ nn wz cz (by omega) (by omega))
          go_wp2_with fail
          with_reducible refine Calls.mono CP.out ?_
          rintro e wy ⟨r, rfl, _, cy, uy⟩
          clear CP
          have hwy : w.heap.size ≤ wy.heap.size := by have h1 := hts.size; have h2 := uz.size; have h3 := uy.size; omega
          have hone := own_oneD wy w.heap.size r hwy
          have hka : Kp wy (wy.alloc (.cells #[.int .i64 r] 3)) := (Kp.refl wy).alloc _
          go_wp2_with fail
          go_ret
          exact ⟨_, rfl, ⟨_, hone, by simp⟩, (cy.kp hka).mono (by omega), ((hts.trans uz).trans uy).trans (Turn.of_kp hka)⟩
        · have hos2 := own_low hos uz (fun i hi => by omega)
          go_wp2_with fail
          go_ret
          exact ⟨_, rfl, ⟨xs, hos2, by omega⟩, cz.mono (by omega), hts.trans uz⟩
    · have hlI : ((l : Int) == 0) = false := by simp; omega
      go_wp2_with fail
      go_ret
      exact ⟨_, rfl, ⟨xs, hos, by omega⟩, hcs.mono (by omega), hts⟩
  · have CC := amongLit_any p (m + 2 + 2) [-1, 0, (nn : Int)] w4 c4 (by omega) (by simp) (by simp)
    simp only [List.map_cons, List.map_nil, List.length_cons, List.length_nil, Nat.zero_add, Nat.reduceAdd] at CC
    replace CC := Lib.hid CC
    go_wp2_with fail
    with_reducible refine Calls.mono CC.out ?_
    rintro e w5 ⟨z, rfl, _, c5, u5⟩
    clear CC
    have ho5 := own_low ho4 u5 (fun i hi => by omega)
    have t5 := t4.trans u5
    have hys2 : ys.length < 1048576 := by omega
    have hbs : w.heap.size ≤ w5.heap.size := t5.size
    clear ho4 c4 t4 u5
    obtain ⟨N6, hN6⟩ : ∃ N6, ys.length + 1 = N6 := ⟨_, rfl⟩
    have hl6 : (ys ++ [z]).length = N6 := by rw [List.length_append, ← hN6]; rfl
    have hlI : ((N6 : Int) == 0) = false := by simp; omega
    go_wp2_with (at_builtin; go_loud (refine wpl_app rfl (.tmp 20) (.tmp 25) rfl w.heap.size _ ys z rfl rfl ho5 hbs hys2 ?_); intro v6 w6 ho6 ht6 h46; have hcs := c5.turn ht6 (fun i hi e => by have := (ho5.lt i e).1; omega); have hts := tp_own t5 ht6 (fun i e => (ho5.lt i e).1); have hos := ho6; obtain ⟨A6, c6, hv6⟩ := ho6.shape; rw [hl6] at hv6; subst hv6)
    go_ret
    exact ⟨_, rfl, ⟨_, hos, by omega⟩, hcs.mono (by omega), hts⟩
end Go.Proofs.YtpiijhfjliolfaaGreat

namespace Go.Proofs.YtpiijhfjliolfaaGreat
open Go.RowKit Go.Sort

/-- A field, rooms and needs have been drawn. -/
def RmPost (p m : Nat) (w : World) (e : Ending) (w' : World) : Prop := ∃ v rv nv, e = .returned (.tuple #[v, rv, nv]) ∧ DFld w' w.heap.size v ∧ DInts w' w.heap.size rv ∧ DInts w' w.heap.size nv ∧ Cur w' p (m + 6000) ∧ Tp p w w'
set_option maxRecDepth 100000 in
set_option maxHeartbeats 2000000 in
theorem rooms7_any (p m : Nat) (most : Int) (w : World) (hc : Cur w p m) (hm : m < 90000000) (hmost : 1 ≤ most) :
    Calls Tryz.prog 22 #[.pointer (some ⟨p, 0, none⟩), .int .i64 most] w (RmPost p m w) := by
  have hp := hc.lt
  have t0 := there_newD w [.slice none 0 0, .slice none 0 0] 27
  simp only [List.length_cons, List.length_nil, Nat.zero_add, Nat.reduceAdd] at t0
  have k0 : Tp p w (w.alloc (.cells #[.slice none 0 0, .slice none 0 0] 27)) := Turn.of_kp ((Kp.refl w).alloc _)
  have c0 := hc.kp ((Kp.refl w).alloc (.cells #[.slice none 0 0, .slice none 0 0] 27))
  have hsz : Hid ((w.alloc (.cells #[.slice none 0 0, .slice none 0 0] 27)).heap.size = w.heap.size + 1) := by show _ = _; simp
  have CF := Lib.hid (fieldOf_any p m most _ c0 (by omega) hmost)
  go_enter Tryz.func22, Tryz.ntmps22
  go_wp2_with fail
  generalize w.alloc (.cells #[.slice none 0 0, .slice none 0 0] 27) = wa at *
  with_reducible refine Calls.mono CF.out ?_
  rintro e w1 ⟨v, rfl, hv, c1, u1⟩
  clear CF
  rw [hsz.out] at hv
  obtain ⟨A, n, c, B, k, d, rfl, hn9, hk9⟩ := hv.shape3
  have kv : Kp w1 (w1.alloc (.cells #[.slice A n c, .slice B k d] 27)) := (Kp.refl w1).alloc _
  obtain ⟨d0, d1⟩ := box2 w1 (.slice A n c) (.slice B k d) 27
  have hvb : w.heap.size + 1 ≤ w1.heap.size := by have := u1.size; rw [hsz.out] at this; exact this
  have tv := turn_thereD (Turn.of_kp (S := fun _ => False) kv) (turn_thereD u1 t0 (by omega)) (fun h => h)
  have kk : Tp p w (w1.alloc (.cells #[.slice A n c, .slice B k d] 27)) := (k0.trans u1).trans (Turn.of_kp kv)
  have hfv := hv.kp kv
  have cv := c1.kp kv
  have HWB : Hid ((w1.alloc (.cells #[.slice A n c, .slice B k d] 27)).heap.size = w1.heap.size + 1) := by show _ = _; simp
  clear hv c1 u1 c0 hsz t0 k0
  go_wp2_with fail
  generalize w1.alloc (.cells #[.slice A n c, .slice B k d] 27) = wq at *
  have ho0 := own_new0 wq (w1.heap.size + 1) (by rw [HWB.out]; omega)
  have hn0 := own_new0 (wq.alloc (.cells #[] 3)) (w1.heap.size + 1) (by rw [World.size_alloc, HWB.out]; omega)
  rw [World.size_alloc, HWB.out] at hn0
  rw [HWB.out] at ho0
  have kb : Kp (wq.alloc (.cells #[] 3)) ((wq.alloc (.cells #[] 3)).alloc (.cells #[] 3)) := (Kp.refl _).alloc _
  have ka : Kp wq ((wq.alloc (.cells #[] 3)).alloc (.cells #[] 3)) := ((Kp.refl wq).alloc _).trans kb
  replace ho0 := ho0.kp kb
  have T0 : Tp p wq ((wq.alloc (.cells #[] 3)).alloc (.cells #[] 3)) := Turn.of_kp ka
  replace cv := cv.kp ka
  generalize w1.heap.size = bv at *
  have ap0 : Apart (.slice (some ⟨bv + 1, 0, none⟩) 0 0) (.slice (some ⟨bv + 1 + 1, 0, none⟩) 0 0) := fun g h e => by
    have h1 : bv + 1 = g := Option.some.inj h
    have h2 : bv + 1 + 1 = g := Option.some.inj e
    omega
  have hbp : bv ≠ p := by omega
  clear ka kb kv
  generalize (wq.alloc (.cells #[] 3)).alloc (.cells #[] 3) = wl at *
  go_loopw [8, 10] (fun ox iv wc => ∃ (j : Nat) (xs : List Int), iv = .int .i64 j ∧ j ≤ n ∧ Hid (xs.length = j) ∧ Own wc (bv + 1) ox xs ∧ Own wc (bv + 1) (.slice (some ⟨bv + 1 + 1, 0, none⟩) 0 0) [] ∧ Apart ox (.slice (some ⟨bv + 1 + 1, 0, none⟩) 0 0) ∧ Tp p wq wc ∧ Cur wc p (m + 5000 + 2 * j)) (fun _ iv _ => n - (intOf iv).toNat)
  case atStart => exact ⟨0, [], rfl, by omega, Lib.hid rfl, ho0, hn0, ap0, T0, cv⟩
  case round =>
    clear ho0 hn0 ap0 T0 cv
    obtain ⟨j, xs, rfl, hj, Hx, ho, hn, ap, T, cu⟩ := hrel
    have s0 := turn_cellD T d0 hbp
    have s1 := turn_cellD T d1 hbp
    by_cases hlt : j < n
    · have hltI : (j : Int) < (n : Int) := by omega
      have CC := amongLit_any p (m + 5000 + 2 * j) [3, 4, 5, 2, 6, 0, 20] _ cu (by omega) (by simp) (by simp)
      simp only [List.map_cons, List.map_nil, List.length_cons, List.length_nil, Nat.zero_add, Nat.reduceAdd] at CC
      replace CC := Lib.hid CC
      go_wp2_with fail
      with_reducible refine Calls.mono CC.out ?_
      rintro e w5 ⟨z, rfl, _, c5, u5⟩
      clear CC
      have ho5 := own_low ho u5 (fun i hi => by omega)
      have hn5 := own_low hn u5 (fun i hi => by omega)
      have T5 := T.trans u5
      have hb5 : bv + 1 ≤ w5.heap.size := by have h1 := T5.size; have h2 := HWB.out; omega
      have hys2 : xs.length < 1048576 := by have := Hx.out; omega
      go_wp2_with (first | (at_builtin; go_loud (refine wpl_app rfl (.tmp 24) (.tmp 28) rfl (bv + 1) _ xs z rfl rfl ho5 hb5 hys2 ?_); intro v6 w6 ho6 ht6 h46; have T6 := tp_own T5 ht6 (fun i e => by have h1 := (ho5.lt i e).1; have h2 := HWB.out; omega); have hn6 := hn5.turn ht6 (fun g hg e => ap g e hg); have ap6 := ap.grow hn5 h46; have c6 := c5.turn ht6 (fun i hi e => by have h1 := (ho5.lt i e).1; omega)) | fail)
      go_roundw
      case rel => exact ⟨j + 1, xs ++ [z], by go_num, by omega, Lib.hid (by rw [List.length_append, Hx.out]; rfl), ho6, hn6, ap6, T6, c6⟩
      case measure => simp [intOf]; omega
    · obtain rfl : n = j := by omega
      have hro := ho
      have HXR := Hx
      have hn0 := hn
      obtain ⟨rs, Hrs⟩ : ∃ rs, rs = xs := ⟨_, rfl⟩
      rw [← Hrs] at Hx ho
      obtain ⟨A8, c8, hov⟩ := ho.shape
      rw [Hx.out] at hov
      subst hov
      have hr0 := ho
      have HR := Hx
      have ap0 : Apart (.slice (some ⟨bv + 1 + 1, 0, none⟩) 0 0) (.slice A8 n c8) := fun g h e => ap g e h
      have T0 := T
      have cv := cu
      clear ho Hx ap T cu hn hlt Hrs
      go_wp2_with fail
      go_loopw [9, 11] (fun ox iv wc => ∃ (j : Nat) (xs : List Int), iv = .int .i64 j ∧ j ≤ k ∧ Hid (xs.length = j) ∧ Own wc (bv + 1) ox xs ∧ Own wc (bv + 1) (.slice A8 n c8) rs ∧ Apart ox (.slice A8 n c8) ∧ Tp p wq wc ∧ Cur wc p (m + 5000 + 2 * n + 2 * j)) (fun _ iv _ => k - (intOf iv).toNat)
      case atStart => exact ⟨0, [], rfl, by omega, Lib.hid rfl, hn0, hr0, ap0, T0, cv⟩
      case round =>
        clear hn0 hr0 ap0 T0 cv s0 s1
        obtain ⟨j, xs, rfl, hj, Hx, ho, hn, ap, T, cu⟩ := hrel
        have s0 := turn_cellD T d0 hbp
        have s1 := turn_cellD T d1 hbp
        by_cases hlt : j < k
        · have hltI : (j : Int) < (k : Int) := by omega
          have CC := amongLit_any p (m + 5000 + 2 * n + 2 * j) [1, 2, 1, 3, 5, 0] _ cu (by omega) (by simp) (by simp)
          simp only [List.map_cons, List.map_nil, List.length_cons, List.length_nil, Nat.zero_add, Nat.reduceAdd] at CC
          replace CC := Lib.hid CC
          go_wp2_with fail
          with_reducible refine Calls.mono CC.out ?_
          rintro e w5 ⟨z, rfl, _, c5, u5⟩
          clear CC
          have ho5 := own_low ho u5 (fun i hi => by omega)
          have hn5 := own_low hn u5 (fun i hi => by omega)
          have T5 := T.trans u5
          have hb5 : bv + 1 ≤ w5.heap.size := by have h1 := T5.size; have h2 := HWB.out; omega
          have hys2 : xs.length < 1048576 := by have := Hx.out; omega
          go_wp2_with (first | (at_builtin; go_loud (refine wpl_app rfl (.tmp 37) (.tmp 41) rfl (bv + 1) _ xs z rfl rfl ho5 hb5 hys2 ?_); intro v6 w6 ho6 ht6 h46; have T6 := tp_own T5 ht6 (fun i e => by have h1 := (ho5.lt i e).1; have h2 := HWB.out; omega); have hn6 := hn5.turn ht6 (fun g hg e => ap g e hg); have ap6 := ap.grow hn5 h46; have c6 := c5.turn ht6 (fun i hi e => by have h1 := (ho5.lt i e).1; omega)) | fail)
          go_roundw
          case rel => exact ⟨j + 1, xs ++ [z], by go_num, by omega, Lib.hid (by rw [List.length_append, Hx.out]; rfl), ho6, hn6, ap6, T6, c6⟩
          case measure => simp [intOf]; omega
        · obtain rfl : k = j := by omega
          obtain ⟨A9, c9, hov⟩ := ho.shape
          rw [Hx.out] at hov
          subst hov
          have CP := Lib.hid (pick_any p (m + 5000 + 2 * n + 2 * k) 32 _ cu (by omega) (by omega))
          go_wp2_with fail
          with_reducible refine Calls.mono CP.out ?_
          rintro e wz ⟨r, rfl, hr, cz, uz⟩
          clear CP s0 s1
          have hrl := HR.out
          have hxl := Hx.out
          replace ho := own_low ho uz (fun i hi => by omega)
          replace hn := own_low hn uz (fun i hi => by omega)
          replace T := T.trans uz
          replace cu := cz.mono (m' := m + 5500) (by omega)
          clear cz uz
          by_cases r0 : r = 0
          · subst r0
            have hb5 : bv + 1 ≤ wz.heap.size := by have h1 := T.size; have h2 := HWB.out; omega
            have hys2 : (rs).length < 1048576 := by omega
            obtain ⟨N6, hN6⟩ : ∃ N6, (rs).length + 1 = N6 := ⟨_, rfl⟩
            have hl6 : ((rs) ++ [(1 : Int)]).length = N6 := by rw [List.length_append, ← hN6]; rfl
            go_wp2_with (first | (at_builtin; go_loud (refine wpl_app rfl (.tmp 47) (.tmp 48) rfl (bv + 1) _ (rs) 1 rfl rfl hn hb5 hys2 ?_); intro v6 w6 ho6 ht6 h46; have T6 := tp_own T ht6 (fun i e => by have h1 := ((hn).lt i e).1; have h2 := HWB.out; omega); have hn6 := (ho).turn ht6 (fun g hg e => ap g hg e); have c6 := cu.turn ht6 (fun i hi e => by have h1 := ((hn).lt i e).1; omega); obtain ⟨A7, c7, hv6⟩ := ho6.shape; rw [hl6] at hv6; subst hv6; have s0 := turn_cellD T6 d0 hbp; have s1 := turn_cellD T6 d1 hbp; have td := turn_thereD T6 tv (by omega); have HE := Lib.hid (fld_ret (hfv.turn T6 (fun i hi => by omega)) td c6 hp (kk.trans T6) (Nat.le_refl _))) | (refine wpList_store_mid rfl 27 (.tmp 4) (.tmp 75) rfl w.heap.size 0 #[.slice A n c, .slice B k d] rfl rfl td (by kernel_rfl) (by simp [Value.oneCell']) ?_) | fail)
            obtain ⟨z0, z1, z2, z3, z4⟩ := HE.out
            have hi2 : ∀ i, bv + 1 ≤ i → ¬ i = w.heap.size := fun i hi => by omega
            have hsz3 : w.heap.size ≤ bv + 1 := by omega
            have hld : DInts w6 (bv + 1) (.slice A7 N6 c7) := ⟨_, ho6, by (try simp only [List.length_append, List.length_set, List.length_cons, List.length_nil]); omega⟩
            have hln : DInts w6 (bv + 1) (.slice A9 k c9) := ⟨_, hn6, by (try simp only [List.length_append, List.length_set, List.length_cons, List.length_nil]); omega⟩
            have ts0 := turn_setCellsD w.heap.size [.slice A n c, .slice B k d] 0 w6
            exact bodyPost_ret (v := .tuple #[.agg #[.slice A n c, .slice B k d], .slice A7 N6 c7, .slice A9 k c9]) (by simp [results, Tryz.results22, go_sem, z0, z1]) rfl ⟨_, _, _, rfl, z2, (hld.turn ts0 (fun i hi => hi2 i hi)).mono hsz3, (hln.turn ts0 (fun i hi => hi2 i hi)).mono hsz3, z3.mono (by omega), z4⟩
          · have q0 : (r == 0) = false := by simp [r0]
            by_cases r1 : r = 1
            · subst r1
              have hb5 : bv + 1 ≤ wz.heap.size := by have h1 := T.size; have h2 := HWB.out; omega
              have hys2 : (xs).length < 1048576 := by omega
              obtain ⟨N6, hN6⟩ : ∃ N6, (xs).length + 1 = N6 := ⟨_, rfl⟩
              have hl6 : ((xs) ++ [(1 : Int)]).length = N6 := by rw [List.length_append, ← hN6]; rfl
              go_wp2_with (first | (at_builtin; go_loud (refine wpl_app rfl (.tmp 52) (.tmp 53) rfl (bv + 1) _ (xs) 1 rfl rfl ho hb5 hys2 ?_); intro v6 w6 ho6 ht6 h46; have T6 := tp_own T ht6 (fun i e => by have h1 := ((ho).lt i e).1; have h2 := HWB.out; omega); have hn6 := (hn).turn ht6 (fun g hg e => ap g e hg); have c6 := cu.turn ht6 (fun i hi e => by have h1 := ((ho).lt i e).1; omega); obtain ⟨A7, c7, hv6⟩ := ho6.shape; rw [hl6] at hv6; subst hv6; have s0 := turn_cellD T6 d0 hbp; have s1 := turn_cellD T6 d1 hbp; have td := turn_thereD T6 tv (by omega); have HE := Lib.hid (fld_ret (hfv.turn T6 (fun i hi => by omega)) td c6 hp (kk.trans T6) (Nat.le_refl _))) | (refine wpList_store_mid rfl 27 (.tmp 4) (.tmp 75) rfl w.heap.size 0 #[.slice A n c, .slice B k d] rfl rfl td (by kernel_rfl) (by simp [Value.oneCell']) ?_) | fail)
              obtain ⟨z0, z1, z2, z3, z4⟩ := HE.out
              have hi2 : ∀ i, bv + 1 ≤ i → ¬ i = w.heap.size := fun i hi => by omega
              have hsz3 : w.heap.size ≤ bv + 1 := by omega
              have hld : DInts w6 (bv + 1) (.slice A8 n c8) := ⟨_, hn6, by (try simp only [List.length_append, List.length_set, List.length_cons, List.length_nil]); omega⟩
              have hln : DInts w6 (bv + 1) (.slice A7 N6 c7) := ⟨_, ho6, by (try simp only [List.length_append, List.length_set, List.length_cons, List.length_nil]); omega⟩
              have ts0 := turn_setCellsD w.heap.size [.slice A n c, .slice B k d] 0 w6
              exact bodyPost_ret (v := .tuple #[.agg #[.slice A n c, .slice B k d], .slice A8 n c8, .slice A7 N6 c7]) (by simp [results, Tryz.results22, go_sem, z0, z1]) rfl ⟨_, _, _, rfl, z2, (hld.turn ts0 (fun i hi => hi2 i hi)).mono hsz3, (hln.turn ts0 (fun i hi => hi2 i hi)).mono hsz3, z3.mono (by omega), z4⟩
            · have q1 : (r == 1) = false := by simp [r1]
              by_cases r2 : r = 2
              · subst r2
                by_cases hn0 : 0 < n
                · have hnI : (0 : Int) < (n : Int) := by omega
                  obtain ⟨ga, hga⟩ : ∃ ga, A8 = some ⟨ga, 0, none⟩ := by obtain ⟨g, cc, e⟩ := hn.at0 hrl hn0; cases e; exact ⟨_, rfl⟩
                  subst hga
                  have CC := amongLit_any p (m + 5500) [-1, 21] wz cu (by omega) (by simp) (by simp)
                  simp only [List.map_cons, List.map_nil, List.length_cons, List.length_nil, Nat.zero_add, Nat.reduceAdd] at CC
                  replace CC := Lib.hid CC
                  go_wp2_with fail
                  with_reducible refine Calls.mono CC.out ?_
                  rintro e w5 ⟨z, rfl, _, c5, u5⟩
                  clear CC
                  have ho5 := own_low ho u5 (fun i hi => by omega)
                  have hn5 := own_low hn u5 (fun i hi => by omega)
                  have T5 := T.trans u5
                  obtain ⟨y1, y2, y3⟩ := hn5.slotL hrl hn0
                  obtain ⟨o6, t6⟩ := y3 z
                  have ho6 := ho5.turn t6 (fun g hg e => ap g hg (by rw [e]; rfl))
                  have T6 := tp_own T5 t6 (fun i e => by have h1 := (hn5.lt i (by rw [e]; rfl)).1; have h2 := HWB.out; omega)
                  have c6 := c5.turn t6 (fun i hi e => by have h1 := (hn5.lt i (by rw [e]; rfl)).1; omega)
                  have s0 := turn_cellD T6 d0 hbp
                  have s1 := turn_cellD T6 d1 hbp
                  have td := turn_thereD T6 tv (by omega)
                  have HE := Lib.hid (fld_ret (hfv.turn T6 (fun i hi => by omega)) td c6 hp (kk.trans T6) (Nat.le_refl _))
                  clear y3
                  go_wp2_with (first | (refine wpList_store_mid rfl 27 (.tmp 4) (.tmp 75) rfl w.heap.size 0 #[.slice A n c, .slice B k d] rfl rfl td (by kernel_rfl) (by simp [Value.oneCell']) ?_) | fail)
                  obtain ⟨z0, z1, z2, z3, z4⟩ := HE.out
                  have hi2 : ∀ i, bv + 1 ≤ i → ¬ i = w.heap.size := fun i hi => by omega
                  have hsz3 : w.heap.size ≤ bv + 1 := by omega
                  have hld : DInts (w5.setCell ⟨ga, 0, none⟩ (.int .i64 z)) (bv + 1) (.slice (some ⟨ga, 0, none⟩) n c8) := ⟨_, o6, by (try simp only [List.length_append, List.length_set, List.length_cons, List.length_nil]); omega⟩
                  have hln : DInts (w5.setCell ⟨ga, 0, none⟩ (.int .i64 z)) (bv + 1) (.slice A9 k c9) := ⟨_, ho6, by (try simp only [List.length_append, List.length_set, List.length_cons, List.length_nil]); omega⟩
                  have ts0 := turn_setCellsD w.heap.size [.slice A n c, .slice B k d] 0 (w5.setCell ⟨ga, 0, none⟩ (.int .i64 z))
                  exact bodyPost_ret (v := .tuple #[.agg #[.slice A n c, .slice B k d], .slice (some ⟨ga, 0, none⟩) n c8, .slice A9 k c9]) (by simp [results, Tryz.results22, go_sem, z0, z1]) rfl ⟨_, _, _, rfl, z2, (hld.turn ts0 (fun i hi => hi2 i hi)).mono hsz3, (hln.turn ts0 (fun i hi => hi2 i hi)).mono hsz3, z3.mono (by omega), z4⟩
                · have hnI : ¬ (0 : Int) < (n : Int) := by omega
                  have s0 := turn_cellD T d0 hbp
                  have s1 := turn_cellD T d1 hbp
                  have td := turn_thereD T tv (by omega)
                  have HE := Lib.hid (fld_ret (hfv.turn T (fun i hi => by omega)) td cu hp (kk.trans T) (Nat.le_refl _))
                  go_wp2_with (first | (refine wpList_store_mid rfl 27 (.tmp 4) (.tmp 75) rfl w.heap.size 0 #[.slice A n c, .slice B k d] rfl rfl td (by kernel_rfl) (by simp [Value.oneCell']) ?_) | fail)
                  obtain ⟨z0, z1, z2, z3, z4⟩ := HE.out
                  have hi2 : ∀ i, bv + 1 ≤ i → ¬ i = w.heap.size := fun i hi => by omega
                  have hsz3 : w.heap.size ≤ bv + 1 := by omega
                  have hld : DInts wz (bv + 1) (.slice A8 n c8) := ⟨_, hn, by (try simp only [List.length_append, List.length_set, List.length_cons, List.length_nil]); omega⟩
                  have hln : DInts wz (bv + 1) (.slice A9 k c9) := ⟨_, ho, by (try simp only [List.length_append, List.length_set, List.length_cons, List.length_nil]); omega⟩
                  have ts0 := turn_setCellsD w.heap.size [.slice A n c, .slice B k d] 0 wz
                  exact bodyPost_ret (v := .tuple #[.agg #[.slice A n c, .slice B k d], .slice A8 n c8, .slice A9 k c9]) (by simp [results, Tryz.results22, go_sem, z0, z1]) rfl ⟨_, _, _, rfl, z2, (hld.turn ts0 (fun i hi => hi2 i hi)).mono hsz3, (hln.turn ts0 (fun i hi => hi2 i hi)).mono hsz3, z3.mono (by omega), z4⟩
              · have q2 : (r == 2) = false := by simp [r2]
                by_cases r3 : r = 3
                · subst r3
                  by_cases hn0 : 0 < k
                  · have hnI : (0 : Int) < (k : Int) := by omega
                    obtain ⟨ga, hga⟩ : ∃ ga, A9 = some ⟨ga, 0, none⟩ := by obtain ⟨g, cc, e⟩ := ho.at0 hxl hn0; cases e; exact ⟨_, rfl⟩
                    subst hga
                    have CC := amongLit_any p (m + 5500) [-1, 6] wz cu (by omega) (by simp) (by simp)
                    simp only [List.map_cons, List.map_nil, List.length_cons, List.length_nil, Nat.zero_add, Nat.reduceAdd] at CC
                    replace CC := Lib.hid CC
                    go_wp2_with fail
                    with_reducible refine Calls.mono CC.out ?_
                    rintro e w5 ⟨z, rfl, _, c5, u5⟩
                    clear CC
                    have ho5 := own_low ho u5 (fun i hi => by omega)
                    have hn5 := own_low hn u5 (fun i hi => by omega)
                    have T5 := T.trans u5
                    obtain ⟨y1, y2, y3⟩ := ho5.slotL hxl hn0
                    obtain ⟨o6, t6⟩ := y3 z
                    have ho6 := hn5.turn t6 (fun g hg e => ap g (by rw [e]; rfl) hg)
                    have T6 := tp_own T5 t6 (fun i e => by have h1 := (ho5.lt i (by rw [e]; rfl)).1; have h2 := HWB.out; omega)
                    have c6 := c5.turn t6 (fun i hi e => by have h1 := (ho5.lt i (by rw [e]; rfl)).1; omega)
                    have s0 := turn_cellD T6 d0 hbp
                    have s1 := turn_cellD T6 d1 hbp
                    have td := turn_thereD T6 tv (by omega)
                    have HE := Lib.hid (fld_ret (hfv.turn T6 (fun i hi => by omega)) td c6 hp (kk.trans T6) (Nat.le_refl _))
                    clear y3
                    go_wp2_with (first | (refine wpList_store_mid rfl 27 (.tmp 4) (.tmp 75) rfl w.heap.size 0 #[.slice A n c, .slice B k d] rfl rfl td (by kernel_rfl) (by simp [Value.oneCell']) ?_) | fail)
                    obtain ⟨z0, z1, z2, z3, z4⟩ := HE.out
                    have hi2 : ∀ i, bv + 1 ≤ i → ¬ i = w.heap.size := fun i hi => by omega
                    have hsz3 : w.heap.size ≤ bv + 1 := by omega
                    have hld : DInts (w5.setCell ⟨ga, 0, none⟩ (.int .i64 z)) (bv + 1) (.slice A8 n c8) := ⟨_, ho6, by (try simp only [List.length_append, List.length_set, List.length_cons, List.length_nil]); omega⟩
                    have hln : DInts (w5.setCell ⟨ga, 0, none⟩ (.int .i64 z)) (bv + 1) (.slice (some ⟨ga, 0, none⟩) k c9) := ⟨_, o6, by (try simp only [List.length_append, List.length_set, List.length_cons, List.length_nil]); omega⟩
                    have ts0 := turn_setCellsD w.heap.size [.slice A n c, .slice B k d] 0 (w5.setCell ⟨ga, 0, none⟩ (.int .i64 z))
                    exact bodyPost_ret (v := .tuple #[.agg #[.slice A n c, .slice B k d], .slice A8 n c8, .slice (some ⟨ga, 0, none⟩) k c9]) (by simp [results, Tryz.results22, go_sem, z0, z1]) rfl ⟨_, _, _, rfl, z2, (hld.turn ts0 (fun i hi => hi2 i hi)).mono hsz3, (hln.turn ts0 (fun i hi => hi2 i hi)).mono hsz3, z3.mono (by omega), z4⟩
                  · have hnI : ¬ (0 : Int) < (k : Int) := by omega
                    have s0 := turn_cellD T d0 hbp
                    have s1 := turn_cellD T d1 hbp
                    have td := turn_thereD T tv (by omega)
                    have HE := Lib.hid (fld_ret (hfv.turn T (fun i hi => by omega)) td cu hp (kk.trans T) (Nat.le_refl _))
                    go_wp2_with (first | (refine wpList_store_mid rfl 27 (.tmp 4) (.tmp 75) rfl w.heap.size 0 #[.slice A n c, .slice B k d] rfl rfl td (by kernel_rfl) (by simp [Value.oneCell']) ?_) | fail)
                    obtain ⟨z0, z1, z2, z3, z4⟩ := HE.out
                    have hi2 : ∀ i, bv + 1 ≤ i → ¬ i = w.heap.size := fun i hi => by omega
                    have hsz3 : w.heap.size ≤ bv + 1 := by omega
                    have hld : DInts wz (bv + 1) (.slice A8 n c8) := ⟨_, hn, by (try simp only [List.length_append, List.length_set, List.length_cons, List.length_nil]); omega⟩
                    have hln : DInts wz (bv + 1) (.slice A9 k c9) := ⟨_, ho, by (try simp only [List.length_append, List.length_set, List.length_cons, List.length_nil]); omega⟩
                    have ts0 := turn_setCellsD w.heap.size [.slice A n c, .slice B k d] 0 wz
                    exact bodyPost_ret (v := .tuple #[.agg #[.slice A n c, .slice B k d], .slice A8 n c8, .slice A9 k c9]) (by simp [results, Tryz.results22, go_sem, z0, z1]) rfl ⟨_, _, _, rfl, z2, (hld.turn ts0 (fun i hi => hi2 i hi)).mono hsz3, (hln.turn ts0 (fun i hi => hi2 i hi)).mono hsz3, z3.mono (by omega), z4⟩
                · have q3 : (r == 3) = false := by simp [r3]
                  have s0 := turn_cellD T d0 hbp
                  have s1 := turn_cellD T d1 hbp
                  have td := turn_thereD T tv (by omega)
                  have HE := Lib.hid (fld_ret (hfv.turn T (fun i hi => by omega)) td cu hp (kk.trans T) (Nat.le_refl _))
                  go_wp2_with (first | (refine wpList_store_mid rfl 27 (.tmp 4) (.tmp 75) rfl w.heap.size 0 #[.slice A n c, .slice B k d] rfl rfl td (by kernel_rfl) (by simp [Value.oneCell']) ?_) | fail)
                  obtain ⟨z0, z1, z2, z3, z4⟩ := HE.out
                  have hi2 : ∀ i, bv + 1 ≤ i → ¬ i = w.heap.size := fun i hi => by omega
                  have hsz3 : w.heap.size ≤ bv + 1 := by omega
                  have hld : DInts wz (bv + 1) (.slice A8 n c8) := ⟨_, hn, by (try simp only [List.length_append, List.length_set, List.length_cons, List.length_nil]); omega⟩
                  have hln : DInts wz (bv + 1) (.slice A9 k c9) := ⟨_, ho, by (try simp only [List.length_append, List.length_set, List.length_cons, List.length_nil]); omega⟩
                  have ts0 := turn_setCellsD w.heap.size [.slice A n c, .slice B k d] 0 wz
                  exact bodyPost_ret (v := .tuple #[.agg #[.slice A n c, .slice B k d], .slice A8 n c8, .slice A9 k c9]) (by simp [results, Tryz.results22, go_sem, z0, z1]) rfl ⟨_, _, _, rfl, z2, (hld.turn ts0 (fun i hi => hi2 i hi)).mono hsz3, (hln.turn ts0 (fun i hi => hi2 i hi)).mono hsz3, z3.mono (by omega), z4⟩
end Go.Proofs.YtpiijhfjliolfaaGreat

namespace Go.Proofs.YtpiijhfjliolfaaGreat
open Go.RowKit Go.Sort

theorem putL_nil (a : Int) : putL [] a = [a] := by simp [putL]
theorem putL_len' (S : List Int) (a : Int) : (putL S a).length ≤ S.length + 1 := by
  unfold putL
  by_cases h : a ∈ S
  · rw [if_pos h]; omega
  · rw [if_neg h, List.length_append, List.length_cons]
    have : S.length = (S.takeWhile (· < a)).length + (S.dropWhile (· < a)).length := by
      conv => lhs; rw [← List.takeWhile_append_dropWhile (p := fun y => decide (y < a)) (l := S), List.length_append]
    omega
set_option maxRecDepth 100000 in
set_option maxHeartbeats 2000000 in
theorem l1Put_none (c0 : Nat) (a : Int) (w : World) :
    Calls Tryz.prog 54 #[.slice none 0 c0, .int .i64 a] w fun e w' => ∃ v, e = .returned v ∧ Own w' w.heap.size v (putL [] a) ∧ Kp w w' := by
  have hA := Lib.hid ((own_new0 w _ (Nat.le_refl _)).drew)
  have hAB := Lib.hid ((own_ab w a).drew)
  have hBA := Lib.hid ((own_ba w a).drew)
  go_enter Tryz.func54, Tryz.ntmps54
  go_wp2_with fail
  go_loop [5] (fun iv => iv = .int .i64 0) (fun iv => 0)
  case atStart => rfl
  case round =>
    obtain rfl := hrel
    go_wp2_with fail
    go_region_held3 (fun w' => Kp w w')
      (first | exact (by repeat (first | with_reducible assumption | with_reducible exact Kp.refl _ | with_reducible refine Kp.drew ?_ | with_reducible refine Kp.alloc ?_ _ | with_reducible refine Kp.drewN ?_ _ | refine Kp.setCell ?_ (by dsimp only; omega) _)) | exact hkA | exact hkA.alloc _ | exact hkB | exact hkC)
      (first
        | (refine step_app_all (by rfl) (.tmp 33) (.tmp 36) (by rfl) w.heap.size _ [] [] none 0 c0 (by rfl) (by rfl) hA.out (IntsAt.nil _ _) rfl (by simp) (by simp) ?_; intro v1 w1 ho1 ht1 h41; have hkA : Kp w w1 := hA.out.kp_turn (by repeat (first | with_reducible assumption | with_reducible exact Kp.refl _ | with_reducible refine Kp.drew ?_ | with_reducible refine Kp.alloc ?_ _ | with_reducible refine Kp.drewN ?_ _ | refine Kp.setCell ?_ (by dsimp only; omega) _)) (Nat.le_refl _) ht1)
        | (refine step_app_all (by rfl) (.tmp 33) (.tmp 36) (by rfl) w.heap.size _ [] [] none 0 c0 (by rfl) (by rfl) hAB.out (IntsAt.nil _ _) rfl (by simp; try omega) (by simp) ?_; intro v1 w1 ho1 ht1 h41; have hkA : Kp w w1 := hAB.out.kp_turn (by repeat (first | with_reducible assumption | with_reducible exact Kp.refl _ | with_reducible refine Kp.drew ?_ | with_reducible refine Kp.alloc ?_ _ | with_reducible refine Kp.drewN ?_ _ | refine Kp.setCell ?_ (by dsimp only; omega) _)) (Nat.le_refl _) ht1; have h1n := one_turn (g := w.heap.size + 1) ((one_ab w a).kp (Kp.refl _).drew) ht1 (by simp [Value.ownBlock]) (by simp))
        | (refine step_app_all (by rfl) (.tmp 33) (.tmp 36) (by rfl) w.heap.size _ [] [] none 0 c0 (by rfl) (by rfl) hBA.out (IntsAt.nil _ _) rfl (by simp; try omega) (by simp) ?_; intro v1 w1 ho1 ht1 h41; have hkA : Kp w w1 := hBA.out.kp_turn (by repeat (first | with_reducible assumption | with_reducible exact Kp.refl _ | with_reducible refine Kp.drew ?_ | with_reducible refine Kp.alloc ?_ _ | with_reducible refine Kp.drewN ?_ _ | refine Kp.setCell ?_ (by dsimp only; omega) _)) (Nat.le_refl _) ht1; have h1n := one_turn (g := w.heap.size) ((one_ba w a).kp (Kp.refl _).drew) ht1 (by simp [Value.ownBlock]) (by simp; try omega))
        | (refine step_app_all (by rfl) (.tmp 37) (.tmp 39) (by rfl) w.heap.size v1 ([] ++ []) [a] (some ⟨w.heap.size + 1, 0, none⟩) 1 1 (by rfl) (by rfl) ho1 h1n rfl hkA.le (by simp) ?_; intro v2 w2 ho2 ht2 h42; have hkB : Kp w w2 := ho1.kp_turn hkA (Nat.le_refl _) ht2)
        | (refine step_app_all (by rfl) (.tmp 37) (.tmp 39) (by rfl) w.heap.size v1 ([] ++ []) [a] (some ⟨w.heap.size, 0, none⟩) 1 1 (by rfl) (by rfl) ho1 h1n rfl hkA.le (by simp) ?_; intro v2 w2 ho2 ht2 h42; have hkB : Kp w w2 := ho1.kp_turn hkA (Nat.le_refl _) ht2)
        | (refine step_app (by rfl) (.tmp 37) (.tmp 39) (by rfl) w.heap.size v1 ([] ++ []) a _ (by rfl) (by rfl) (by rfl) ho1 hkA.le (by simp) ?_; intro v2 w2 ho2 ht2 h42; have hkB : Kp w w2 := ho1.kp_turn hkA (Nat.le_refl _) ht2)
        | (refine step_app_all (by rfl) (.tmp 40) (.tmp 43) (by rfl) w.heap.size v2 ([] ++ [] ++ [a]) [] none 0 c0 (by rfl) (by rfl) ho2 (IntsAt.nil _ _) rfl hkB.le (by simp) ?_; intro v3 w3 ho3 ht3 h43; have hkC : Kp w w3 := ho2.kp_turn hkB (Nat.le_refl _) ht3)
        | fail)
    all_goals
      go_wp2_with fail
      go_ret
      rw [putL_nil]
      exact ⟨_, rfl, ho3, hkC⟩
theorem l1Put_new (A0 : Option Addr) (S : List Int) (n c0 : Nat) (a : Int) (w : World) (hS : IntsAt w A0 S) (hn : S.length = n) (hs : S.Pairwise (· < ·)) (hc : n ≤ c0) (hb : n < 1048576) (ha : a ∉ S) :
    Calls Tryz.prog 54 #[.slice A0 n c0, .int .i64 a] w fun e w' => ∃ v, e = .returned v ∧ Own w' w.heap.size v (putL S a) ∧ Kp w w' := by
  cases A0 with
  | some ad =>
    refine (l1Put_some ad S n c0 a w hS hn hs hc hb).mono ?_
    rintro e w' ⟨v, h1, h2 | h2, h3⟩
    · exact absurd h2.1 ha
    · exact ⟨v, h1, h2, h3⟩
  | none =>
    have e : S = [] := by
      cases S with
      | nil => rfl
      | cons y t => obtain ⟨ad, h, _⟩ := hS.at_ (k := 0) (by simp); cases h
    subst e
    obtain rfl : n = 0 := by simpa using hn.symm
    exact l1Put_none c0 a w
theorem l1Put_any (A0 : Option Addr) (S : List Int) (n c0 : Nat) (a : Int) (w : World) (hS : IntsAt w A0 S) (hn : S.length = n) (hs : S.Pairwise (· < ·)) (hc : n ≤ c0) (hb : n < 1048576) :
    Calls Tryz.prog 54 #[.slice A0 n c0, .int .i64 a] w fun e w' => ∃ A' c', e = .returned (.slice A' (putL S a).length c') ∧ (putL S a).length ≤ c' ∧ IntsAt w' A' (putL S a) ∧ Kp w w' := by
  by_cases ha : a ∈ S
  · cases A0 with
    | some ad =>
      refine (l1Put_some ad S n c0 a w hS hn hs hc hb).mono ?_
      rintro e w' ⟨v, rfl, h2 | h2, h3⟩
      · obtain ⟨_, rfl⟩ := h2
        rw [show putL S a = S from if_pos ha, hn]
        exact ⟨some ad, c0, rfl, hc, hS.kp h3, h3⟩
      · obtain ⟨A', c', e, hi⟩ := h2.ints (by have := putL_len' S a; omega)
        exact ⟨A', c', by rw [e], h2.cap e, hi, h3⟩
    | none =>
      obtain ⟨k, hk, _⟩ := List.getElem_of_mem ha
      obtain ⟨ad, h, _⟩ := hS.at_ (k := 0) (by omega); cases h
  · refine (l1Put_new A0 S n c0 a w hS hn hs hc hb ha).mono ?_
    rintro e w' ⟨v, rfl, h2, h3⟩
    obtain ⟨A', c', e, hi⟩ := h2.ints (by have := putL_len' S a; omega)
    exact ⟨A', c', by rw [e], h2.cap e, hi, h3⟩
end Go.Proofs.YtpiijhfjliolfaaGreat

namespace Go.Proofs.YtpiijhfjliolfaaGreat
open Go.RowKit Go.Sort

theorem DFld.openP {w : World} {b : Nat} {v : Value} (h : DFld w b v) : ∃ F A c B d, v = .agg #[.slice A F.op.length c, .slice B F.di.length d] ∧ FldP w (fun i => b ≤ i) v F ∧ F.op.length ≤ 100 := by
  obtain ⟨F, hf⟩ := h
  obtain ⟨A, c, B, d, e, h1, _⟩ := id hf
  exact ⟨F, A, c, B, d, e, hf, h1.2.2⟩
theorem DInts.openP {w : World} {b n c : Nat} {A : Option Addr} (h : DInts w b (.slice A n c)) : ∃ xs : List Int, xs.length = n ∧ Own w b (.slice A n c) xs ∧ n ≤ 200 := by
  obtain ⟨xs, ho, hl⟩ := h
  obtain ⟨A', c', e⟩ := ho.shape
  cases e
  exact ⟨xs, rfl, ho, hl⟩
theorem Own.intsK {w : World} {base n c : Nat} {A : Option Addr} {xs : List Int} (h : Own w base (.slice A n c) xs) (hl : xs.length ≤ 9223372036854775807) : IntsAt w A xs := by
  obtain ⟨A', c', e, hi⟩ := h.ints hl
  cases e
  exact hi
set_option maxRecDepth 100000 in
set_option maxHeartbeats 2000000 in
theorem open7_any (p m b : Nat) (f : Value) (A1 : Option Addr) (n1 c1 : Nat) (A2 : Option Addr) (n2 c2 : Nat) (w : World) (hc : Cur w p m) (hm : m < 90000000) (hb : p < b) (hf : DFld w b f) (h1 : DInts w b (.slice A1 n1 c1)) (h2 : DInts w b (.slice A2 n2 c2)) :
    Calls Tryz.prog 23 #[.pointer (some ⟨p, 0, none⟩), f, .slice A1 n1 c1, .slice A2 n2 c2] w fun e w' => ∃ v, e = .returned v ∧ DInts w' w.heap.size v ∧ Cur w' p (m + 100) ∧ Tp p w w' := by
  have hp := hc.lt
  obtain ⟨F, A, c, B, d, rfl, hfp, hn9⟩ := hf.openP
  obtain ⟨rs, hrl, hor, hr2⟩ := h1.openP
  obtain ⟨ns, hnl, hon, hn2⟩ := h2.openP
  have k0 : Kp w (w.alloc (.cells #[.slice A F.op.length c, .slice B F.di.length d] 27)) := (Kp.refl w).alloc _
  obtain ⟨d0, d1⟩ := box2 w (.slice A F.op.length c) (.slice B F.di.length d) 27
  have CS := Lib.hid (sites_any p m A F.op.length c B F.di.length d _ (hc.kp k0) (by omega) (by omega))
  have T0 : Tp p w (w.alloc (.cells #[.slice A F.op.length c, .slice B F.di.length d] 27)) := Turn.of_kp k0
  have hle := k0.le
  have hbp : w.heap.size ≠ p := by omega
  go_enter Tryz.func23, Tryz.ntmps23
  go_wp2_with fail
  generalize w.alloc (.cells #[.slice A F.op.length c, .slice B F.di.length d] 27) = wb at *
  with_reducible refine Calls.mono CS.out ?_
  rintro e w1 ⟨v, rfl, hv, cu, u1⟩
  clear CS
  obtain ⟨A9, n9, c9, hvs⟩ : ∃ A9 n9 c9, v = .slice A9 n9 c9 := by obtain ⟨A9, c9, xs, e, _⟩ := hv.ints; exact ⟨A9, _, c9, e⟩
  subst hvs
  obtain ⟨S, hSl, hoS, hS2⟩ := hv.openP
  have hSc : n9 ≤ c9 := by have := hoS.capL rfl; omega
  have T1 := T0.trans u1
  have q0 := turn_cellD u1 d0 hbp
  have q1 := turn_cellD u1 d1 hbp
  have hf1 := (hfp.turn T1 (fun i hi => by omega)).fld
  replace hor := own_low hor T1 (fun i hi => by omega)
  replace hon := own_low hon T1 (fun i hi => by omega)
  replace hoS := hoS.mono hle
  have CG := Lib.hid (l7Given_any _ F A1 rs n1 c1 A2 ns n2 c2 A9 S n9 c9 w1 hf1 (hor.intsK (by omega)) hrl (hon.intsK (by omega)) hnl (hoS.intsK (by omega)) hSl)
  clear hv hfp hf h1 h2 T0 u1 d0 d1 k0 hle hf1
  go_wp2_with fail
  with_reducible refine Calls.mono CG.out ?_
  rintro e w2 ⟨rfl, hk⟩
  clear CG
  have T2 := T1.trans (Turn.of_kp hk)
  replace cu := cu.kp hk
  replace hoS := hoS.kp hk
  replace q0 := hk.get q0
  replace q1 := hk.get q1
  cases hg : haulB F rs ns S
  · go_wp2_with fail
    go_ret
    exact ⟨_, rfl, ⟨S, hoS, by omega⟩, cu.mono (by omega), T2⟩
  · have CP := Lib.hid (one_any p (m + 30) 8 w2 cu (by omega) (by omega))
    replace hor := hor.kp hk
    replace hon := hon.kp hk
    clear hk
    go_wp2_with fail
    with_reducible refine Calls.mono CP.out ?_
    rintro e w3 ⟨bo, rfl, c3, u3⟩
    clear CP
    have T3 := T2.trans u3
    have hoS3 := own_low hoS u3 (fun i hi => by omega)
    have e0 := turn_cellD u3 q0 hbp
    have e1 := turn_cellD u3 q1 hbp
    cases bo
    · replace hor := own_low hor u3 (fun i hi => by omega)
      replace hon := own_low hon u3 (fun i hi => by omega)
      have hir := hor.intsK (by omega)
      have hin := hon.intsK (by omega)
      obtain ⟨g1, ⟨g2, g3⟩, g4, g5⟩ := haulB_iff.1 hg
      obtain ⟨hgF, hsF, hSne⟩ := openedB_parts g1
      have h7 := (goodF_iff.1 hgF).1.2
      have h8 := (goodF_iff.1 hgF).2.2.1
      have HL3 := Lib.hid (fun (wx : World) (hx : Kp w3 wx) => l3Sum_any A2 ns n2 c2 wx (hin.kp hx) hnl (fun k hk => by have h9 := sum_small g4 k (by omega); have hk7 : k ≤ 7 := (by omega); omega) (fun x hx => by have := g4 x hx; omega))
      have HL7 := Lib.hid (fun (wx : World) (hx : Kp w3 wx) (As : Option Addr) (S : List Int) (ls cs : Nat) (ho : Own wx w.heap.size (.slice As ls cs) S) (hl : S.length = ls) (hs : setB F S = true) => l7Room_any A1 rs n1 c1 As S ls cs 20 wx (hir.kp hx) hrl (ho.intsK (by have := set_len hs; omega)) hl (fun x hx => by have := set_mem hs x hx; omega) (by have := set_len hs; omega) (by omega) (by omega) (fun x hx => by have := g2 x hx; omega))
      have HS := Lib.hid hsF
      obtain ⟨N, hN⟩ : ∃ N, F.op.length = N := ⟨_, rfl⟩
      have hNl : N ≤ 7 := by omega
      rw [hN] at e0 ⊢
      have HN := Lib.hid hN
      clear hg g1 g2 g3 g4 g5 hgF hsF hSne h7 h8 hor hon hir hin q0 q1 hoS hN T2 cu
      go_wp2_with fail
      go_loopw [9, 10] (fun sv iv wc => ∃ (j : Nat) (As : Option Addr) (ls cs : Nat) (S : List Int), sv = .slice As ls cs ∧ iv = .int .i64 j ∧ j ≤ N ∧ Hid (S.length = ls) ∧ Hid (setB F S = true) ∧ ls ≤ cs ∧ Own wc w.heap.size (.slice As ls cs) S ∧ Kp w3 wc) (fun _ iv _ => N - (intOf iv).toNat)
      case atStart => exact ⟨0, A9, n9, c9, S, rfl, rfl, by omega, Lib.hid hSl, HS, hSc, hoS3, Kp.refl _⟩
      case round =>
        clear hoS3 HS hSl hSc
        obtain ⟨j, As, ls, cs, S, rfl, rfl, hj, HL, HS, hSc, ho, hkr⟩ := hrel
        have z0 := hkr.get e0
        have z1 := hkr.get e1
        by_cases hlt : j < N
        · have hltI : (j : Int) < (N : Int) := by omega
          have C7 := Lib.hid (HL7.out _ hkr As S ls cs ho HL.out HS.out)
          go_wp2_with fail
          with_reducible refine Calls.mono C7.out ?_
          rintro e w4 ⟨rfl, hw⟩
          obtain rfl := hw
          clear C7
          have C3 := Lib.hid (HL3.out _ hkr)
          go_wp2_with fail
          with_reducible refine Calls.mono C3.out ?_
          rintro e w4 ⟨rfl, hw⟩
          obtain rfl := hw
          clear C3
          by_cases hlt2 : roomS rs S < ns.sum
          · have CH := Lib.hid (l1Has_any As S ls cs (j : Int) wr (ho.intsK (by have h5 := HL.out; have h6 := set_len HS.out; have h7 := HN.out; omega)) HL.out)
            go_wp2_with fail
            with_reducible refine Calls.mono CH.out ?_
            rintro e w4 ⟨rfl, hw⟩
            obtain rfl := hw
            clear CH
            cases hb : S.any (fun x => x == (j : Int))
            · have hjS : (j : Int) ∉ S := fun h => by
                rw [List.any_eq_false] at hb
                exact hb _ h (by simp)
              have CU := Lib.hid (l1Put_new As S ls cs (j : Int) wr (ho.intsK (by have h5 := HL.out; have h6 := set_len HS.out; have h7 := HN.out; omega)) HL.out (ris_iff.1 HS.out).1 hSc (by have h5 := HL.out; have h6 := set_len HS.out; have h7 := HN.out; omega) hjS)
              go_wp2_with fail
              with_reducible refine Calls.mono CU.out ?_
              rintro e w5 ⟨v5, rfl, ho5, hk5⟩
              clear CU
              have hwl : w.heap.size ≤ wr.heap.size := by have h1 := T3.size; have h2 := hkr.le; omega
              obtain ⟨A5, c5, hv5⟩ := ho5.shape
              obtain ⟨l5, hl5⟩ : ∃ l, (putL S (j : Int)).length = l := ⟨_, rfl⟩
              rw [hl5] at hv5
              subst hv5
              have hc5 := ho5.capL rfl
              go_wp2_with fail
              go_roundw
              case rel => exact ⟨j + 1, A5, l5, c5, putL S (j : Int), rfl, by go_num, by omega, Lib.hid hl5, Lib.hid (setB_put HS.out (by omega) (by have := HN.out; omega)), by omega, ho5.mono hwl, hkr.trans hk5⟩
              case measure => simp [intOf]; omega
            · go_wp2_with fail
              go_roundw
              case rel => exact ⟨j + 1, As, ls, cs, S, rfl, by go_num, by omega, HL, HS, hSc, ho, hkr⟩
              case measure => simp [intOf]; omega
          · have T4 := T3.trans (Turn.of_kp hkr)
            have hd2 : decide (roomS rs S < ns.sum) = false := decide_eq_false hlt2
            go_wp2_with fail
            go_ret
            exact ⟨_, rfl, ⟨S, ho, by have h5 := HL.out; have h6 := set_len HS.out; have h7 := HN.out; omega⟩, (c3.kp hkr).mono (by omega), T4⟩
        · have T4 := T3.trans (Turn.of_kp hkr)
          have hltI : ¬ (j : Int) < (N : Int) := by omega
          go_wp2_with fail
          go_ret
          exact ⟨_, rfl, ⟨S, ho, by have h5 := HL.out; have h6 := set_len HS.out; have h7 := HN.out; omega⟩, (c3.kp hkr).mono (by omega), T4⟩
    · go_wp2_with fail
      go_ret
      exact ⟨_, rfl, ⟨S, hoS3, by omega⟩, c3.mono (by omega), T3⟩
end Go.Proofs.YtpiijhfjliolfaaGreat

namespace Go.Proofs.YtpiijhfjliolfaaGreat
open Go.RowKit Go.Sort

/-- A new cursor. -/
theorem cur_new {w : World} {A : Option Addr} {n c : Nat} {t : TypeId} (hb : BytesAt w A n) : Cur (w.alloc (.cells #[.slice A n c, .int .i64 0, .int .u64 0] t)) w.heap.size 0 := by
  have hk : Kp w (w.alloc (.cells #[.slice A n c, .int .i64 0, .int .u64 0] t)) := (Kp.refl w).alloc _
  refine ⟨⟨A, n, c, 0, 0, ?_, ?_, ?_, Nat.le_refl _, hb.kp hk, fun ad e h0 => ?_⟩, there_newD w [.slice A n c, .int .i64 0, .int .u64 0] t⟩
  · rw [World.cell?_alloc_at _ _ _ _ rfl]; rfl
  · rw [World.cell?_alloc_at _ _ _ _ rfl]; rfl
  · rw [World.cell?_alloc_at _ _ _ _ rfl]; rfl
  · obtain ⟨ad', b, e', hc, _⟩ := hb.2 0 h0
    rw [e] at e'
    cases e'
    have := World.block_lt_of_cell? _ _ hc
    rwa [blk_add] at this
theorem BytesAt.kpD {w w' : World} {A : Option Addr} {n : Nat} (h : BytesAt w A n) (hk : Kp w w') : BytesAt w' A n := h.kp hk
/-- The results of a draw whose first one is a field. -/
theorem drw_ret {w w2 : World} {rb b : Nat} {x y : Value} (hf : DFld w2 b (.agg #[x, y])) (hb : rb < b) (ht : w2.there rb 0 2) (k : Kp w w2) (hr : w.heap.size ≤ rb) : (w2.setCells rb 0 [x, y]).cell? ⟨rb, 0, none⟩ = some x ∧ (w2.setCells rb 0 [x, y]).cell? ⟨rb, 1, none⟩ = some y ∧ DFld (w2.setCells rb 0 [x, y]) w.heap.size (.agg #[x, y]) ∧ Kp w (w2.setCells rb 0 [x, y]) ∧ Turn (fun i => i = rb) w2 (w2.setCells rb 0 [x, y]) := by
  have ts := turn_setCellsD rb [x, y] 0 w2
  have hg := World.rangeAt_setCells_same w2 rb 0 [x, y] ht
  exact ⟨hg 0 _ rfl, hg 1 _ rfl, (hf.turn ts (fun i hi => by omega)).mono (by omega), k.turn ts (fun i hi => by omega), ts⟩
def MgPost (w : World) (e : Ending) (w' : World) : Prop := ∃ v r l a, e = .returned (.tuple #[v, .int .i64 r, l, .int .i64 a]) ∧ DFld w' w.heap.size v ∧ DInts w' w.heap.size l ∧ Kp w w'
def WrPost (w : World) (e : Ending) (w' : World) : Prop := ∃ v l a, e = .returned (.tuple #[v, l, .int .i64 a]) ∧ DFld w' w.heap.size v ∧ DInts w' w.heap.size l ∧ Kp w w'
end Go.Proofs.YtpiijhfjliolfaaGreat

namespace Go.Proofs.YtpiijhfjliolfaaGreat
open Go.RowKit Go.Sort

/-- A field, rooms, needs and a set have been drawn. -/
def FsPost (w : World) (e : Ending) (w' : World) : Prop := ∃ v rv nv sv, e = .returned (.tuple #[v, rv, nv, sv]) ∧ DFld w' w.heap.size v ∧ DInts w' w.heap.size rv ∧ DInts w' w.heap.size nv ∧ DInts w' w.heap.size sv ∧ Kp w w'
theorem DInts.cutK {w : World} {b : Nat} {v : Value} (h : DInts w b v) : ∃ A n c, v = .slice A n c := by
  obtain ⟨A, c, xs, e, _⟩ := h.ints
  exact ⟨A, _, c, e⟩
end Go.Proofs.YtpiijhfjliolfaaGreat

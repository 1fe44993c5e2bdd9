/- The drawing of arguments for the laws on flows: flow prices, mostly. No condition. -/
import Derived.Test.YtcnceocgdghciaaQBg
import Derived.Test.YtcnceocgdghciaaQBj
namespace Go.Proofs.Ytcnceocgdghciaa
open Go.RowKit Go.Sort

theorem Own.cutK {w : World} {base : Nat} {v : Value} {xs : List Int} {n : Nat} (h : Own w base v xs) (hn : xs.length = n) : ∃ A c, v = .slice A n c ∧ (0 < n → ∃ g, A = some ⟨g, 0, none⟩) := by
  rcases Nat.eq_zero_or_pos n with h0 | h0
  · obtain ⟨A, c, e⟩ := h.shape
    exact ⟨A, c, by rw [← hn]; exact e, fun h => by omega⟩
  · obtain ⟨g, cap, e⟩ := h.at0 hn h0
    exact ⟨_, cap, e, fun _ => ⟨g, rfl⟩⟩
/-- Two lists have been drawn. -/
def PrPost (p m : Nat) (w : World) (e : Ending) (w' : World) : Prop := ∃ uv wv, e = .returned (.tuple #[uv, wv]) ∧ DInts w' w.heap.size uv ∧ DInts w' w.heap.size wv ∧ Cur w' p (m + 100) ∧ Tp p w w'
set_option maxRecDepth 100000 in
set_option maxHeartbeats 2000000 in
theorem prices7_any (p m b : Nat) (f : Value) (A1 : Option Addr) (n1 c1 : Nat) (A2 : Option Addr) (n2 c2 : Nat) (A3 : Option Addr) (n3 c3 : Nat) (w : World) (hc : Cur w p m) (hm : m < 90000000) (hb : p < b) (hf : DFld w b f) (h1 : DInts w b (.slice A1 n1 c1)) (h2 : DInts w b (.slice A2 n2 c2)) (h3 : DInts w b (.slice A3 n3 c3)) :
    Calls Try.prog 23 #[.pointer (some ⟨p, 0, none⟩), f, .slice A1 n1 c1, .slice A2 n2 c2, .slice A3 n3 c3] w (PrPost p m w) := by
  have hp := hc.lt
  obtain ⟨F, A, c, B, d, rfl, hfp, hn9⟩ := hf.openP
  obtain ⟨rs, hrl, hor, hr2⟩ := h1.openP
  obtain ⟨ns, hnl, hon, hn2⟩ := h2.openP
  obtain ⟨S, hSl, hoS, hS2⟩ := h3.openP
  have k0 : Kp w (w.alloc (.cells #[.slice A F.op.length c, .slice B F.di.length d] 27)) := (Kp.refl w).alloc _
  obtain ⟨d0, d1⟩ := box2 w (.slice A F.op.length c) (.slice B F.di.length d) 27
  have hbp : w.heap.size ≠ p := by omega
  have hfa := hfp.fld
  have hir := hor.intsK (by omega)
  have hin := hon.intsK (by omega)
  have hiS := hoS.intsK (by omega)
  have CG := Lib.hid (specLp_any _ F A1 rs n1 c1 A2 ns n2 c2 A3 S n3 c3 _ (hfa.kp k0) (hir.kp k0) hrl (hin.kp k0) hnl (hiS.kp k0) hSl)
  have c0 := hc.kp k0
  clear hfp hor hon hoS hfa hir hin hiS hf h1 h2 h3
  go_enter Try.func23, Try.ntmps23
  go_wp2_with fail
  generalize w.alloc (.cells #[.slice A F.op.length c, .slice B F.di.length d] 27) = wb at *
  with_reducible refine Calls.mono CG.out ?_
  rintro e w1 ⟨uv, wv, rfl, hu, hw, ap, hk⟩
  clear CG
  replace c0 := c0.kp hk
  have hle := k0.le
  replace k0 := k0.trans hk
  have T0 : Tp p w w1 := Turn.of_kp k0
  replace hu := hu.mono hle
  replace hw := hw.mono hle
  clear hk d0 d1
  cases hg : lfOk F rs ns S
  · have hz1 := lit_intsD w1 [0] (by simp)
    have z1 := own_oneD w1 w.heap.size 0 k0.le
    have ka : Kp w1 (w1.alloc (.cells #[.int .i64 0] 3)) := (Kp.refl w1).alloc _
    have kb : Kp (w1.alloc (.cells #[.int .i64 0] 3)) ((w1.alloc (.cells #[.int .i64 0] 3)).alloc (.cells #[.int .i64 0] 3)) := (Kp.refl _).alloc _
    have z2 := own_oneD (w1.alloc (.cells #[.int .i64 0] 3)) w.heap.size 0 (Nat.le_trans k0.le ka.le)
    replace z1 := z1.kp kb
    rw [World.size_alloc] at z2
    have T1 := T0.trans (Turn.of_kp (S := fun i => i = p) (ka.trans kb))
    have c1 := c0.kp (ka.trans kb)
    go_wp2_with fail
    go_ret2
    exact ⟨_, _, rfl, ⟨_, z1, by simp⟩, ⟨_, z2, by simp⟩, c1.mono (by omega), T1⟩
  · have h0 := hg
    unfold lfOk at h0
    rw [Bool.and_eq_true, decide_eq_true_eq] at h0
    have hP := haul_p h0.1
    have h7 := (goodF_iff.1 hP.good).1
    have h8 := (goodF_iff.1 hP.good).2.2.1
    obtain ⟨J, hul⟩ : ∃ J, (lpU F rs ns S).length = J := ⟨_, rfl⟩
    obtain ⟨M, hwl⟩ : ∃ M, (lpW F rs ns S).length = M := ⟨_, rfl⟩
    have hJ7 : J ≤ 7 := by rw [lpU_yes hg, mapTo_len] at hul; omega
    have hM7 : 1 ≤ M ∧ M ≤ 7 := by rw [lpW, if_pos hg, mapTo_len] at hwl; omega
    obtain ⟨Au, cu, rfl, hug⟩ := hu.cutK hul
    obtain ⟨Aw, cw, rfl, hwg⟩ := hw.cutK hwl
    obtain ⟨gw, rfl⟩ := hwg (by omega)
    clear h0 hP h7 h8 hg hwg
    by_cases hJ0 : 0 < J
    · obtain ⟨gu, rfl⟩ := hug hJ0
      have hJI : (0 : Int) < (J : Int) := by omega
      have CP := Lib.hid (one_any p m 3 w1 c0 (by omega) (by omega))
      go_wp2_with fail
      with_reducible refine Calls.mono CP.out ?_
      rintro e w2 ⟨bo, rfl, c2, u2⟩
      clear CP
      have T2 := T0.trans u2
      have hu2 := own_low hu u2 (fun i hi => by omega)
      have hw2 := own_low hw u2 (fun i hi => by omega)
      clear hu hw u2 T0 c0
      cases bo
      · have CP := Lib.hid (one_any p _ 3 w2 c2 (by omega) (by omega))
        go_wp2_with fail
        with_reducible refine Calls.mono CP.out ?_
        rintro e w7 ⟨bo, rfl, c7, u7⟩
        clear CP
        have T7 := (T2).trans u7
        have hu7 := own_low hu2 u7 (fun i hi => by omega)
        have hw7 := own_low hw2 u7 (fun i hi => by omega)
        cases bo
        · go_wp2_with fail
          go_ret2
          exact ⟨_, _, rfl, ⟨_, hu7, by (try rw [List.length_set]); omega⟩, ⟨_, hw7, by (try rw [List.length_set]); omega⟩, (c7).mono (by omega), T7⟩
        · have CP := Lib.hid (pick_any p _ M w7 c7 (by omega) (by omega))
          go_wp2_with fail
          with_reducible refine Calls.mono CP.out ?_
          rintro e w8 ⟨x, rfl, hx, c8, u8⟩
          clear CP
          obtain ⟨a, rfl⟩ := Int.eq_ofNat_of_zero_le hx.1
          have ha : a < M := by have := hx.2.2 (by omega); omega
          have haI : (a : Int) < (M : Int) := by omega
          have CC := amongLit_any p _ [0, 1, 5, -1, 999, 1000] w8 c8 (by omega) (by simp) (by simp)
          simp only [List.map_cons, List.map_nil, List.length_cons, List.length_nil, Nat.zero_add, Nat.reduceAdd] at CC
          replace CC := Lib.hid CC
          go_wp2_with fail
          with_reducible refine Calls.mono CC.out ?_
          rintro e w9 ⟨z, rfl, _, c9, u9⟩
          clear CC
          have T9 := (T7.trans u8).trans u9
          have hu9 := own_low (own_low hu7 u8 (fun i hi => by omega)) u9 (fun i hi => by omega)
          have hw9 := own_low (own_low hw7 u8 (fun i hi => by omega)) u9 (fun i hi => by omega)
          obtain ⟨y1, y2, y3⟩ := hw9.slotL hwl ha
          obtain ⟨o9, t9⟩ := y3 z
          clear y3
          have hua := hu9.turn t9 (fun g hg e => ap g hg (by rw [e]; rfl))
          have Ta := tp_own T9 t9 (fun i e => by have h1 := (hw9.lt i (by rw [e]; rfl)).1; omega)
          have ca := c9.turn t9 (fun i hi e => by have h1 := (hw9.lt i (by rw [e]; rfl)).1; omega)
          go_wp2_with fail
          go_ret2
          exact ⟨_, _, rfl, ⟨_, hua, by (try rw [List.length_set]); omega⟩, ⟨_, o9, by (try rw [List.length_set]); omega⟩, (ca).mono (by omega), Ta⟩
      · have CP := Lib.hid (pick_any p _ J w2 c2 (by omega) (by omega))
        go_wp2_with fail
        with_reducible refine Calls.mono CP.out ?_
        rintro e w3 ⟨x, rfl, hx, c3, u3⟩
        clear CP
        obtain ⟨j, rfl⟩ := Int.eq_ofNat_of_zero_le hx.1
        have hj : j < J := by have := hx.2.2 (by omega); omega
        have hjI : (j : Int) < (J : Int) := by omega
        have CP := Lib.hid (pick_any p _ 30 w3 c3 (by omega) (by omega))
        go_wp2_with fail
        with_reducible refine Calls.mono CP.out ?_
        rintro e w4 ⟨y, rfl, hy, c4, u4⟩
        clear CP
        have hyw : wrap64 (y - 10) = y - 10 := IntWalk.wrap64_in _ (by have := hy.1; have := hy.2.2 (by omega); omega)
        have T4 := (T2.trans u3).trans u4
        have hu4 := own_low (own_low hu2 u3 (fun i hi => by omega)) u4 (fun i hi => by omega)
        have hw4 := own_low (own_low hw2 u3 (fun i hi => by omega)) u4 (fun i hi => by omega)
        obtain ⟨y1, y2, y3⟩ := hu4.slotL hul hj
        obtain ⟨o5, t5⟩ := y3 (y - 10)
        clear y3
        have hw5 := hw4.turn t5 (fun g hg e => ap g (by rw [e]; rfl) hg)
        have T5 := tp_own T4 t5 (fun i e => by have h1 := (hu4.lt i (by rw [e]; rfl)).1; omega)
        have c5 := c4.turn t5 (fun i hi e => by have h1 := (hu4.lt i (by rw [e]; rfl)).1; omega)
        clear hu2 hw2 hu4 hw4 T2 T4 u3 u4 c2 c3 c4 t5
        have CP := Lib.hid (one_any p _ 3 (w4.setCell ⟨gu, j, none⟩ (.int .i64 (y - 10))) c5 (by omega) (by omega))
        go_wp2_with fail
        with_reducible refine Calls.mono CP.out ?_
        rintro e w7 ⟨bo, rfl, c7, u7⟩
        clear CP
        have T7 := (T5).trans u7
        have hu7 := own_low o5 u7 (fun i hi => by omega)
        have hw7 := own_low hw5 u7 (fun i hi => by omega)
        cases bo
        · go_wp2_with fail
          go_ret2
          exact ⟨_, _, rfl, ⟨_, hu7, by (try rw [List.length_set]); omega⟩, ⟨_, hw7, by (try rw [List.length_set]); omega⟩, (c7).mono (by omega), T7⟩
        · have CP := Lib.hid (pick_any p _ M w7 c7 (by omega) (by omega))
          go_wp2_with fail
          with_reducible refine Calls.mono CP.out ?_
          rintro e w8 ⟨x, rfl, hx, c8, u8⟩
          clear CP
          obtain ⟨a, rfl⟩ := Int.eq_ofNat_of_zero_le hx.1
          have ha : a < M := by have := hx.2.2 (by omega); omega
          have haI : (a : Int) < (M : Int) := by omega
          have CC := amongLit_any p _ [0, 1, 5, -1, 999, 1000] w8 c8 (by omega) (by simp) (by simp)
          simp only [List.map_cons, List.map_nil, List.length_cons, List.length_nil, Nat.zero_add, Nat.reduceAdd] at CC
          replace CC := Lib.hid CC
          go_wp2_with fail
          with_reducible refine Calls.mono CC.out ?_
          rintro e w9 ⟨z, rfl, _, c9, u9⟩
          clear CC
          have T9 := (T7.trans u8).trans u9
          have hu9 := own_low (own_low hu7 u8 (fun i hi => by omega)) u9 (fun i hi => by omega)
          have hw9 := own_low (own_low hw7 u8 (fun i hi => by omega)) u9 (fun i hi => by omega)
          obtain ⟨y1, y2, y3⟩ := hw9.slotL hwl ha
          obtain ⟨o9, t9⟩ := y3 z
          clear y3
          have hua := hu9.turn t9 (fun g hg e => ap g hg (by rw [e]; rfl))
          have Ta := tp_own T9 t9 (fun i e => by have h1 := (hw9.lt i (by rw [e]; rfl)).1; omega)
          have ca := c9.turn t9 (fun i hi e => by have h1 := (hw9.lt i (by rw [e]; rfl)).1; omega)
          go_wp2_with fail
          go_ret2
          exact ⟨_, _, rfl, ⟨_, hua, by (try rw [List.length_set]); omega⟩, ⟨_, o9, by (try rw [List.length_set]); omega⟩, (ca).mono (by omega), Ta⟩
    · obtain rfl : J = 0 := by omega
      have CP := Lib.hid (one_any p _ 3 w1 c0 (by omega) (by omega))
      go_wp2_with fail
      with_reducible refine Calls.mono CP.out ?_
      rintro e w7 ⟨bo, rfl, c7, u7⟩
      clear CP
      have T7 := (T0).trans u7
      have hu7 := own_low hu u7 (fun i hi => by omega)
      have hw7 := own_low hw u7 (fun i hi => by omega)
      cases bo
      · go_wp2_with fail
        go_ret2
        exact ⟨_, _, rfl, ⟨_, hu7, by (try rw [List.length_set]); omega⟩, ⟨_, hw7, by (try rw [List.length_set]); omega⟩, (c7).mono (by omega), T7⟩
      · have CP := Lib.hid (pick_any p _ M w7 c7 (by omega) (by omega))
        go_wp2_with fail
        with_reducible refine Calls.mono CP.out ?_
        rintro e w8 ⟨x, rfl, hx, c8, u8⟩
        clear CP
        obtain ⟨a, rfl⟩ := Int.eq_ofNat_of_zero_le hx.1
        have ha : a < M := by have := hx.2.2 (by omega); omega
        have haI : (a : Int) < (M : Int) := by omega
        have CC := amongLit_any p _ [0, 1, 5, -1, 999, 1000] w8 c8 (by omega) (by simp) (by simp)
        simp only [List.map_cons, List.map_nil, List.length_cons, List.length_nil, Nat.zero_add, Nat.reduceAdd] at CC
        replace CC := Lib.hid CC
        go_wp2_with fail
        with_reducible refine Calls.mono CC.out ?_
        rintro e w9 ⟨z, rfl, _, c9, u9⟩
        clear CC
        have T9 := (T7.trans u8).trans u9
        have hu9 := own_low (own_low hu7 u8 (fun i hi => by omega)) u9 (fun i hi => by omega)
        have hw9 := own_low (own_low hw7 u8 (fun i hi => by omega)) u9 (fun i hi => by omega)
        obtain ⟨y1, y2, y3⟩ := hw9.slotL hwl ha
        obtain ⟨o9, t9⟩ := y3 z
        clear y3
        have hua := hu9.turn t9 (fun g hg e => ap g hg (by rw [e]; rfl))
        have Ta := tp_own T9 t9 (fun i e => by have h1 := (hw9.lt i (by rw [e]; rfl)).1; omega)
        have ca := c9.turn t9 (fun i hi e => by have h1 := (hw9.lt i (by rw [e]; rfl)).1; omega)
        go_wp2_with fail
        go_ret2
        exact ⟨_, _, rfl, ⟨_, hua, by (try rw [List.length_set]); omega⟩, ⟨_, o9, by (try rw [List.length_set]); omega⟩, (ca).mono (by omega), Ta⟩
end Go.Proofs.Ytcnceocgdghciaa

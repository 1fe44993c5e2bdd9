/- The drawing of arguments for the law on rooms. No condition. -/
import Derived.Test.YtpiijhfjliolfaaGreatQBi
import Derived.Test.YtpiijhfjliolfaaGreatQBj
namespace Go.Proofs.YtpiijhfjliolfaaGreat
open Go.RowKit Go.Sort

/-- A number is put into a list of the call's own. -/
theorem l1PutO_any (A : Option Addr) (S : List Int) (n c base : Nat) (a : Int) (w : World) (ho : Own w base (.slice A n c) S) (hn : S.length = n) (hs : S.Pairwise (· < ·)) (hc : n ≤ c) (hb : n < 1048576) (hbase : base ≤ w.heap.size) :
    Calls Tryz.prog 54 #[.slice A n c, .int .i64 a] w fun e w' => ∃ A' c', e = .returned (.slice A' (putL S a).length c') ∧ (putL S a).length ≤ c' ∧ Own w' base (.slice A' (putL S a).length c') (putL S a) ∧ Kp w w' := by
  have hS : IntsAt w A S := ho.intsK (by omega)
  have new : a ∉ S → Calls Tryz.prog 54 #[.slice A n c, .int .i64 a] w fun e w' => ∃ A' c', e = .returned (.slice A' (putL S a).length c') ∧ (putL S a).length ≤ c' ∧ Own w' base (.slice A' (putL S a).length c') (putL S a) ∧ Kp w w' := fun ha => by
    refine (l1Put_new A S n c a w hS hn hs hc hb ha).mono ?_
    rintro e w' ⟨v, rfl, h2, h3⟩
    obtain ⟨A', c', e, hi⟩ := h2.ints (by have := putL_len' S a; omega)
    subst e
    exact ⟨A', c', rfl, h2.cap rfl, h2.mono hbase, h3⟩
  by_cases ha : a ∈ S
  · cases A with
    | some ad =>
      refine (l1Put_some ad S n c a w hS hn hs hc hb).mono ?_
      rintro e w' ⟨v, rfl, h2 | h2, h3⟩
      · obtain ⟨_, rfl⟩ := h2
        rw [show putL S a = S from if_pos ha, hn]
        exact ⟨some ad, c, rfl, hc, ho.kp h3, h3⟩
      · obtain ⟨A', c', e, hi⟩ := h2.ints (by have := putL_len' S a; omega)
        subst e
        exact ⟨A', c', rfl, h2.cap rfl, h2.mono hbase, h3⟩
    | none =>
      obtain ⟨k, hk, _⟩ := List.getElem_of_mem ha
      obtain ⟨ad, h, _⟩ := hS.at_ (k := 0) (by omega); cases h
  · exact new ha
set_option maxRecDepth 100000 in
set_option maxHeartbeats 1000000 in
theorem l5LengthsO_any (f : Value) (F : Fld) (w : World) (hf : FldAt w f F) (hg : goodF F = true) :
    Calls Tryz.prog 55 #[f] w fun e w' => ∃ v, e = .returned v ∧ DInts w' w.heap.size v ∧ Kp w w' := by
  have HG := Lib.hid hg
  have h7 := (goodF_iff.1 hg).2.2.1
  have HPL := Lib.hid (putTo_len hg)
  obtain ⟨A, c, B, d, rfl, hA, hB⟩ := hf
  have hk0 : Kp w (w.alloc (.cells #[.slice A F.op.length c, .slice B F.di.length d] 27)) := (Kp.refl w).alloc _
  obtain ⟨d0, d1⟩ := box2 w (.slice A F.op.length c) (.slice B F.di.length d) 27
  have hFA := FldAt.kp (show FldAt w (.agg #[.slice A F.op.length c, .slice B F.di.length d]) F from ⟨A, c, B, d, rfl, hA, hB⟩) hk0
  replace hB := hB.kp hk0
  clear hA hg
  go_enter Tryz.func55, Tryz.ntmps55
  go_wp2_with fail
  have hsz : Hid ((w.alloc (.cells #[.slice A F.op.length c, .slice B F.di.length d] 27)).heap.size = w.heap.size + 1) := by show _ = _; simp
  generalize w.alloc (.cells #[.slice A F.op.length c, .slice B F.di.length d] 27) = wb at *
  have hkb : Kp wb wb := Kp.refl _
  have hkw := hk0
  have hkx : Kp wb (wb.alloc (.cells #[] 3)) := (Kp.refl wb).alloc _
  have hwz : w.heap.size ≤ wb.heap.size := by have := hsz.out; omega
  have ho0 := own_new0 wb w.heap.size hwz
  rw [hsz.out] at ho0
  have q_d0 := hkb.get d0
  have q_d1 := hkb.get d1
  go_wp2_with fail
  go_loopw [3, 4] (fun ov iv wr => ∃ (j : Nat) (A' : Option Addr) (n' c' : Nat), j ≤ F.di.length ∧ iv = .int .i64 j ∧ ov = .slice A' n' c' ∧ n' ≤ c' ∧ Hid ((putTo F.di j 0).length = n') ∧ Own wr w.heap.size (.slice A' n' c') (putTo F.di j 0) ∧ Kp wb wr) (fun _ iv _ => F.di.length - (intOf iv).toNat)
  case atStart => exact ⟨0, _, 0, 0, by omega, rfl, rfl, by omega, rfl, ho0, hkx⟩
  case round =>
    clear ho0
    obtain ⟨j, A1, n1, c1, hj, rfl, rfl, hnc, HN, hi, hkr⟩ := hrel
    obtain ⟨wo, rfl⟩ : ∃ wo : World, wo = wr := ⟨_, rfl⟩
    have e0 := hkr.get d0
    have e1 := hkr.get d1
    by_cases hlt : j < F.di.length
    · obtain ⟨bd, Ar, cr, rfl, hcell, hrow⟩ := (hB.kp (hkb.trans hkr)).at_ hlt
      have hrd : F.di.getD j [] = F.di[j] := by simp [List.getD, hlt]
      obtain ⟨M, HM⟩ : ∃ M, Hid (M = F.di[j].length) := ⟨_, Lib.hid rfl⟩
      have hM7 : M ≤ 7 := by
        have := ((goodF_iff.1 HG.out).2.2.2 F.di[j] (List.getElem_mem hlt)).2
        have := (goodF_iff.1 HG.out).1.2
        rw [HM.out]; omega
      rw [← HM.out] at hcell
      have hwo : w.heap.size ≤ wo.heap.size := Nat.le_trans hwz hkr.le
      clear hkx
      go_wp2_with fail
      go_loopw [3, 5] (fun ov iv wi => ∃ (a : Nat) (A2 : Option Addr) (n2 c2 : Nat), a ≤ M ∧ iv = .int .i64 a ∧ ov = .slice A2 n2 c2 ∧ n2 ≤ c2 ∧ Hid ((putTo F.di j a).length = n2) ∧ Own wi w.heap.size (.slice A2 n2 c2) (putTo F.di j a) ∧ Kp wo wi) (fun _ iv _ => M - (intOf iv).toNat)
      case atStart => exact ⟨0, A1, n1, c1, by omega, rfl, rfl, hnc, HN, hi, Kp.refl _⟩
      case round =>
        obtain ⟨a, A2, n2, c2, ha, rfl, rfl, hnc2, HN2, hi2, hkr2⟩ := hrel
        have y0 := hkr2.get e0
        have y1 := hkr2.get e1
        have y2 := hkr2.get hcell
        by_cases hla : a < M
        · have la : a < F.di[j].length := by rw [← HM.out]; exact hla
          obtain ⟨ar, rfl, hcl⟩ := (hrow.kp hkr2).at_ la
          have HS := Lib.hid (putTo_step (rows := F.di) (j := j) (a := a) (by rw [hrd]; exact la))
          have hz : (F.di.getD j [])[a]'(by rw [hrd]; exact la) = F.di[j][a] := List.getElem_of_eq hrd _
          have HPs := Lib.hid (HPL.out j a)
          have CC := Lib.hid (fun (wx : World) (hx : Kp wr wx) => l1PutO_any A2 (putTo F.di j a) n2 c2 w.heap.size F.di[j][a] wx (hi2.kp hx) HN2.out (putTo_sorted _ _ _) hnc2 (by have := HPs.out; have := HN2.out; omega) (Nat.le_trans hwo (Nat.le_trans hkr2.le hx.le)))
          go_wp2_with fail
          with_reducible refine Calls.mono (CC.out _ (by repeat (first | with_reducible assumption | with_reducible exact Kp.refl _ | with_reducible refine Kp.drew ?_ | with_reducible refine Kp.alloc ?_ _ | with_reducible refine Kp.drewN ?_ _ | refine Kp.setCell ?_ (by dsimp only; omega) _))) ?_
          rintro e wy ⟨A3, c3, rfl, hc3, hi3, hk3⟩
          clear CC
          rw [← hz, ← HS.out] at hi3 hc3
          rw [← hz, ← HS.out]
          go_wp2_with fail
          go_roundw
          case rel => exact ⟨a + 1, A3, _, c3, by omega, by go_num, rfl, hc3, rfl, hi3, hkr2.trans hk3⟩
          case measure => simp [intOf]; omega
        · obtain rfl : a = M := by omega
          have HR := Lib.hid (putTo_row hlt)
          rw [hrd, ← HM.out] at HR
          go_wp2_with fail
          go_roundw
          case rel => exact ⟨j + 1, A2, n2, c2, by omega, by go_num, rfl, hnc2, by show _ = _; rw [HR.out]; exact HN2.out, by rw [HR.out]; exact hi2, hkr.trans hkr2⟩
          case measure => simp [intOf]; omega
    · obtain rfl : j = F.di.length := by omega
      have HPs := HPL.out F.di.length 0
      go_wp2_with fail
      go_ret
      exact ⟨_, rfl, ⟨_, hi, by omega⟩, (hkw.trans hkb).trans hkr⟩
set_option maxRecDepth 100000 in
set_option maxHeartbeats 2000000 in
theorem radius5_any (p m b : Nat) (f : Value) (w : World) (hc : Cur w p m) (hm : m < 90000000) (hb : p < b) (hf : DFld w b f) :
    Calls Tryz.prog 24 #[.pointer (some ⟨p, 0, none⟩), f] w fun e w' => ∃ r, e = .returned (.int .i64 r) ∧ Cur w' p (m + 30) ∧ Tp p w w' := by
  have hp := hc.lt
  obtain ⟨F, A, c, B, d, rfl, hfp, hn9⟩ := hf.openP
  have k0 : Kp w (w.alloc (.cells #[.slice A F.op.length c, .slice B F.di.length d] 27)) := (Kp.refl w).alloc _
  obtain ⟨d0, d1⟩ := box2 w (.slice A F.op.length c) (.slice B F.di.length d) 27
  have T0 : Tp p w (w.alloc (.cells #[.slice A F.op.length c, .slice B F.di.length d] 27)) := Turn.of_kp k0
  have hbp : w.heap.size ≠ p := by omega
  have cu := hc.kp k0
  have hf0 := hfp.kp k0
  have CG := Lib.hid (l2Good_any _ F _ hf0.fld)
  clear hf hfp hc k0
  go_enter Tryz.func24, Tryz.ntmps24
  go_wp2_with fail
  generalize w.alloc (.cells #[.slice A F.op.length c, .slice B F.di.length d] 27) = wb at *
  with_reducible refine Calls.mono CG.out ?_
  rintro e w1 ⟨rfl, hk⟩
  clear CG
  have T1 := T0.trans (Turn.of_kp hk)
  have c1 := cu.kp hk
  cases hg : goodF F
  · clear hg
    have CC := amongLit_any p (m + 10) [0, 3, 10, 99, 4611686018427387904, -1] w1 (c1.mono (by omega)) (by omega) (by decide) (by decide)
    simp only [List.map_cons, List.map_nil, List.length_cons, List.length_nil, Nat.zero_add, Nat.reduceAdd] at CC
    replace CC := Lib.hid CC
    go_wp2_with fail
    with_reducible refine Calls.mono CC.out ?_
    rintro e wz ⟨r, rfl, _, cz, uz⟩
    clear CC
    go_wp2_with fail
    go_ret
    exact ⟨_, rfl, cz.mono (by omega), (T1).trans uz⟩
  · have HG := Lib.hid hg
    have CP := Lib.hid (one_any p m 4 w1 c1 (by omega) (by omega))
    have e0 := hk.get d0
    have e1 := hk.get d1
    have hf1 := hf0.kp hk
    clear hg hf0 hk T0 cu
    go_wp2_with fail
    with_reducible refine Calls.mono CP.out ?_
    rintro e w2 ⟨bo, rfl, c2, u2⟩
    clear CP
    have T2 := T1.trans u2
    cases bo
    · have q0 := turn_cellD u2 e0 hbp
      have q1 := turn_cellD u2 e1 hbp
      have hf2 := (hf1.turn u2 (fun i hi => by omega)).fld
      have CL := Lib.hid (l5LengthsO_any _ F w2 hf2 HG.out)
      clear hf1 hf2 d0 d1 e0 e1
      go_wp2_with fail
      with_reducible refine Calls.mono CL.out ?_
      rintro e w3 ⟨v, rfl, hv, hk3⟩
      clear CL
      have T3 := T2.trans (Turn.of_kp hk3)
      have c3 := c2.kp hk3
      have hs2 : w.heap.size ≤ w2.heap.size := T2.size
      obtain ⟨Av, L, cv, rfl⟩ := hv.cutK
      obtain ⟨xs, hxl, ho, hL⟩ := hv.openP
      by_cases h0 : 0 < L
      · have h0I : (0 : Int) < (L : Int) := by omega
        have CP := Lib.hid (pick_any p _ L w3 c3 (by omega) (by omega))
        go_wp2_with fail
        with_reducible refine Calls.mono CP.out ?_
        rintro e w4 ⟨r, rfl, hr, c4, u4⟩
        clear CP
        obtain ⟨q, rfl⟩ := Int.eq_ofNat_of_zero_le hr.1
        have hq : q < L := by
          by_cases h : (L : Int) ≤ 1
          · have := hr.2.1 h; omega
          · have := hr.2.2 (by omega); omega
        have ho4 := own_low ho u4 (fun i hi => by omega)
        obtain ⟨ad, rfl, y0⟩ := (ho4.intsK (by omega)).at_ (show q < xs.length by omega)
        obtain ⟨z, hz⟩ : ∃ z, xs[q]'(by omega) = z := ⟨_, rfl⟩
        rw [hz] at y0
        have hqI : (q : Int) < (L : Int) := by omega
        have n1 : ((q : Int)).toNat = q := Int.toNat_natCast q
        go_wp2_with fail
        go_ret
        exact ⟨_, rfl, c4.mono (by omega), T3.trans u4⟩
      · obtain rfl : L = 0 := by omega
        have CC := amongLit_any p (m + 10) [0, 3, 10, 99, 4611686018427387904, -1] w3 (c3.mono (by omega)) (by omega) (by decide) (by decide)
        simp only [List.map_cons, List.map_nil, List.length_cons, List.length_nil, Nat.zero_add, Nat.reduceAdd] at CC
        replace CC := Lib.hid CC
        go_wp2_with fail
        with_reducible refine Calls.mono CC.out ?_
        rintro e wz ⟨r, rfl, _, cz, uz⟩
        clear CC
        go_wp2_with fail
        go_ret
        exact ⟨_, rfl, cz.mono (by omega), (T3).trans uz⟩
    · have CC := amongLit_any p (m + 10) [0, 3, 10, 99, 4611686018427387904, -1] w2 (c2.mono (by omega)) (by omega) (by decide) (by decide)
      simp only [List.map_cons, List.map_nil, List.length_cons, List.length_nil, Nat.zero_add, Nat.reduceAdd] at CC
      replace CC := Lib.hid CC
      go_wp2_with fail
      with_reducible refine Calls.mono CC.out ?_
      rintro e wz ⟨r, rfl, _, cz, uz⟩
      clear CC
      go_wp2_with fail
      go_ret
      exact ⟨_, rfl, cz.mono (by omega), (T2).trans uz⟩
set_option maxRecDepth 100000 in
set_option maxHeartbeats 2000000 in
theorem number5_any (p m : Nat) (A : Option Addr) (n c : Nat) (B : Option Addr) (k d : Nat) (w : World) (hc : Cur w p m) (hm : m < 90000000) (hn : n ≤ 100) :
    Calls Tryz.prog 45 #[.pointer (some ⟨p, 0, none⟩), .agg #[.slice A n c, .slice B k d]] w fun e w' => ∃ r, e = .returned (.int .i64 r) ∧ Cur w' p (m + 30) ∧ Tp p w w' := by
  have hp := hc.lt
  have k0 : Kp w (w.alloc (.cells #[.slice A n c, .slice B k d] 27)) := (Kp.refl w).alloc _
  obtain ⟨d0, d1⟩ := box2 w (.slice A n c) (.slice B k d) 27
  have T0 : Tp p w (w.alloc (.cells #[.slice A n c, .slice B k d] 27)) := Turn.of_kp k0
  have hbp : w.heap.size ≠ p := by omega
  have CP := Lib.hid (one_any p m 24 _ (hc.kp k0) (by omega) (by omega))
  clear k0 hc
  go_enter Tryz.func45, Tryz.ntmps45
  go_wp2_with fail
  generalize w.alloc (.cells #[.slice A n c, .slice B k d] 27) = wb at *
  with_reducible refine Calls.mono CP.out ?_
  rintro e w1 ⟨bo, rfl, c1, u1⟩
  clear CP
  have T1 := T0.trans u1
  have q0 := turn_cellD u1 d0 hbp
  cases bo
  · have CL := Lib.hid (l1Least_any (n : Int) 3 w1)
    obtain ⟨x, hx⟩ : ∃ x : Int, min (n : Int) 3 = x := ⟨_, rfl⟩
    rw [hx] at CL
    go_wp2_with fail
    with_reducible refine Calls.mono CL.out ?_
    rintro e w2 ⟨rfl, hw⟩
    obtain rfl := hw
    clear CL
    have CM := Lib.hid (l1Most_any 1 x w1)
    obtain ⟨y, hy⟩ : ∃ y : Int, max 1 x = y := ⟨_, rfl⟩
    rw [hy] at CM
    go_wp2_with fail
    with_reducible refine Calls.mono CM.out ?_
    rintro e w2 ⟨rfl, hw⟩
    obtain rfl := hw
    clear CM
    have CP := Lib.hid (pick_any p _ y w1 c1 (by omega) (by omega))
    go_wp2_with fail
    with_reducible refine Calls.mono CP.out ?_
    rintro e w3 ⟨r, rfl, hr, c3, u3⟩
    clear CP
    go_wp2_with fail
    go_ret
    exact ⟨_, rfl, c3.mono (by omega), T1.trans u3⟩
  · have CC := amongLit_any p (m + 2) [0, 8, -1] w1 c1 (by omega) (by decide) (by decide)
    simp only [List.map_cons, List.map_nil, List.length_cons, List.length_nil, Nat.zero_add, Nat.reduceAdd] at CC
    replace CC := Lib.hid CC
    go_wp2_with fail
    with_reducible refine Calls.mono CC.out ?_
    rintro e wz ⟨r, rfl, _, cz, uz⟩
    clear CC
    go_wp2_with fail
    go_ret
    exact ⟨_, rfl, cz.mono (by omega), T1.trans uz⟩
def CsPost (w : World) (e : Ending) (w' : World) : Prop := ∃ v rv nv sv r, e = .returned (.tuple #[v, rv, nv, sv, .int .i64 r]) ∧ DFld w' w.heap.size v ∧ DInts w' w.heap.size rv ∧ DInts w' w.heap.size nv ∧ DInts w' w.heap.size sv ∧ Kp w w'
set_option maxRecDepth 100000 in
set_option maxHeartbeats 2000000 in
theorem drawCanServe_any (A : Option Addr) (n c : Nat) (w : World) (hb : BytesAt w A n) :
    Calls Tryz.prog 5 #[.slice A n c] w (CsPost w) := by
  have t0 := there_newD w [.slice none 0 0, .slice none 0 0] 27
  simp only [List.length_cons, List.length_nil, Nat.zero_add, Nat.reduceAdd] at t0
  have k1 : Kp w (w.alloc (.cells #[.slice none 0 0, .slice none 0 0] 27)) := (Kp.refl w).alloc _
  have k2 : Kp _ ((w.alloc (.cells #[.slice none 0 0, .slice none 0 0] 27)).alloc (.cells #[.slice A n c, .int .i64 0, .int .u64 0] 51)) := (Kp.refl _).alloc _
  have cu := cur_new (c := c) (t := 51) (hb.kp k1)
  have ta := turn_thereD (Turn.of_kp (S := fun _ => False) k2) t0 (fun h => h)
  have hz : Hid (((w.alloc (.cells #[.slice none 0 0, .slice none 0 0] 27)).alloc (.cells #[.slice A n c, .int .i64 0, .int .u64 0] 51)).heap.size = w.heap.size + 2) := by show _ = _; simp
  have k0 := k1.trans k2
  rw [World.size_alloc] at cu
  have CF := Lib.hid (rooms7_any (w.heap.size + 1) 0 6 _ cu (by omega) (by omega))
  clear k1 k2 t0
  go_enter Tryz.func5, Tryz.ntmps5
  go_wp2_with fail
  generalize (w.alloc (.cells #[.slice none 0 0, .slice none 0 0] 27)).alloc (.cells #[.slice A n c, .int .i64 0, .int .u64 0] 51) = wa at *
  with_reducible refine Calls.mono CF.out ?_
  rintro e w1 ⟨v, rv, nv, rfl, hv, hrv, hnv, c1, u1⟩
  clear CF
  rw [hz.out] at hv hrv hnv
  obtain ⟨A9, n9, c9, B9, k9, d9, rfl, hn9, hk9⟩ := hv.shape3
  obtain ⟨Ar, nr, cr, rfl⟩ := hrv.cutK
  obtain ⟨An, nn, cn, rfl⟩ := hnv.cutK
  have kv : Kp w1 (w1.alloc (.cells #[.slice A9 n9 c9, .slice B9 k9 d9] 27)) := (Kp.refl w1).alloc _
  obtain ⟨d0, d1⟩ := box2 w1 (.slice A9 n9 c9) (.slice B9 k9 d9) 27
  have hvb : w.heap.size + 2 ≤ w1.heap.size := by have := u1.size; rw [hz.out] at this; exact this
  have tv := turn_thereD (Turn.of_kp (S := fun _ => False) kv) (turn_thereD u1 ta (by omega)) (fun h => h)
  have kk : Kp w (w1.alloc (.cells #[.slice A9 n9 c9, .slice B9 k9 d9] 27)) := (k0.turn u1 (fun i hi => by omega)).trans kv
  have hfv := hv.kp kv
  replace hrv := hrv.kp kv
  replace hnv := hnv.kp kv
  have cv := c1.kp kv
  have HWB : Hid ((w1.alloc (.cells #[.slice A9 n9 c9, .slice B9 k9 d9] 27)).heap.size = w1.heap.size + 1) := by show _ = _; simp
  clear hv c1 u1 ta k0 cu hz
  go_wp2_with fail
  generalize w1.alloc (.cells #[.slice A9 n9 c9, .slice B9 k9 d9] 27) = wq at *
  generalize w1.heap.size = bv at *
  have hbv : bv ≠ w.heap.size + 1 := by omega
  have hqs : w.heap.size + 2 ≤ wq.heap.size := by have := HWB.out; omega
  have hpi : ∀ i, w.heap.size + 2 ≤ i → ¬ i = w.heap.size + 1 := fun i hi => by omega
  have hqi : ∀ i, w.heap.size ≤ i → ¬ i < w.heap.size := fun i hi => by omega
  have e0 := (Kp.refl wq).drew.get d0
  have e1 := (Kp.refl wq).drew.get d1
  have kd := (Kp.refl wq).drew
  have CO := Lib.hid (open7_any (w.heap.size + 1) _ (w.heap.size + 2) _ Ar nr cr An nn cn wq.drew (cv.kp kd) (by omega) (by omega) (hfv.kp kd) (hrv.kp kd) (hnv.kp kd))
  refine wp_region_held_drew (S := fun w' => w'.cell? ⟨bv, 0, none⟩ = some (.slice A9 n9 c9) ∧ w'.cell? ⟨bv, 1, none⟩ = some (.slice B9 k9 d9)) (by kernel_rfl) ⟨e0, e1⟩ (fun hHeld => ?_)
  refine wpAnyH_take (i := 0) (v := ?_) rfl (by kernel_rfl) (by kernel_rfl) (by kernel_rfl) (fun _ _ _ h => h) (Or.inl ⟨by rfl, ?_⟩) (by assumption) ?_
  rotate_left
  · intro w hSw; (try dsimp only at hSw); go_simp <;> with_reducible rfl
  (try simp only [Act.put, List.setIfInBounds_toArray, List.set_cons_zero, List.set_cons_succ])
  refine wpAnyH_take (i := 1) (v := ?_) rfl (by kernel_rfl) (by kernel_rfl) (by kernel_rfl) (fun _ _ _ h => h) (Or.inl ⟨by rfl, ?_⟩) (by assumption) ?_
  rotate_left
  · intro w hSw; (try dsimp only at hSw); go_simp <;> with_reducible rfl
  (try simp only [Act.put, List.setIfInBounds_toArray, List.set_cons_zero, List.set_cons_succ])
  refine wpAnyH_take (i := 2) (v := ?_) rfl (by kernel_rfl) (by kernel_rfl) (by kernel_rfl) (fun _ _ _ h => h) (Or.inl ⟨by rfl, ?_⟩) (by assumption) ?_
  rotate_left
  · intro w hSw; (try dsimp only at hSw); go_simp <;> with_reducible rfl
  (try simp only [Act.put, List.setIfInBounds_toArray, List.set_cons_zero, List.set_cons_succ])
  refine wpAnyH_take (i := 3) (v := ?_) rfl (by kernel_rfl) (by kernel_rfl) (by kernel_rfl) (fun _ _ _ h => h) (Or.inl ⟨by rfl, ?_⟩) (by assumption) ?_
  rotate_left
  · intro w hSw; (try dsimp only at hSw); go_simp <;> with_reducible rfl
  (try simp only [Act.put, List.setIfInBounds_toArray, List.set_cons_zero, List.set_cons_succ])
  refine wpAnyH_take (i := 4) (v := ?_) rfl (by kernel_rfl) (by kernel_rfl) (by kernel_rfl) (fun _ _ _ h => h) (Or.inl ⟨by rfl, ?_⟩) (by assumption) ?_
  rotate_left
  · intro w hSw; (try dsimp only at hSw); go_simp <;> with_reducible rfl
  (try simp only [Act.put, List.setIfInBounds_toArray, List.set_cons_zero, List.set_cons_succ])
  refine wpAnyH_take (i := 5) (v := ?_) rfl (by kernel_rfl) (by kernel_rfl) (by kernel_rfl) (fun _ _ _ h => h) (Or.inl ⟨by rfl, ?_⟩) (by assumption) ?_
  rotate_left
  · intro w hSw; (try dsimp only at hSw); go_simp <;> with_reducible rfl
  (try simp only [Act.put, List.setIfInBounds_toArray, List.set_cons_zero, List.set_cons_succ])
  refine wpAnyH_take (i := 6) (v := ?_) rfl (by kernel_rfl) (by kernel_rfl) (by kernel_rfl) (fun _ _ _ h => h) (Or.inl ⟨by rfl, ?_⟩) (by assumption) ?_
  rotate_left
  · intro w hSw; (try dsimp only at hSw); go_simp <;> with_reducible rfl
  (try simp only [Act.put, List.setIfInBounds_toArray, List.set_cons_zero, List.set_cons_succ])
  refine wpAnyH_take (i := 8) (v := ?_) rfl (by kernel_rfl) (by kernel_rfl) (by kernel_rfl) (fun _ _ _ h => h) (Or.inl ⟨by rfl, ?_⟩) (by assumption) ?_
  rotate_left
  · intro w hSw; (try dsimp only at hSw); go_simp <;> with_reducible rfl
  (try simp only [Act.put, List.setIfInBounds_toArray, List.set_cons_zero, List.set_cons_succ])
  refine wpAnyH_take (i := 9) (v := ?_) rfl (by kernel_rfl) (by kernel_rfl) (by kernel_rfl) (fun _ _ _ h => h) (Or.inl ⟨by rfl, ?_⟩) (by assumption) ?_
  rotate_left
  · intro w hSw; (try dsimp only at hSw); go_simp <;> with_reducible rfl
  (try simp only [Act.put, List.setIfInBounds_toArray, List.set_cons_zero, List.set_cons_succ])
  refine wpAnyH_ready (rs := [7]) (by kernel_rfl) (by simp) ?_
  refine AllReadyH.cons rfl (fun K hK => ?_) AllReadyH.nil
  go_simp
  with_reducible refine Calls.mono CO.out ?_
  rintro e w2 ⟨sv, rfl, hsv, c2, u2⟩
  clear CO
  (try go_wp2_with fail)
  have s0 := turn_cellD u2 e0 hbv
  have s1 := turn_cellD u2 e1 hbv
  refine hK.out _ _ ?_ (fun hHeld => ?_)
  · (try dsimp only); exact ⟨s0, s1⟩
  clear hK K
  (try simp only [Act.put, List.setIfInBounds_toArray, List.set_cons_zero, List.set_cons_succ])
  replace hsv := hsv.mono (show w.heap.size + 2 ≤ wq.drew.heap.size from hqs)
  obtain ⟨As, ns, cs, rfl⟩ := hsv.cutK
  have hfv2 := (hfv.kp kd).turn u2 hpi
  have CR := Lib.hid (radius5_any (w.heap.size + 1) _ (w.heap.size + 2) _ w2 c2 (by omega) (by omega) hfv2)
  refine wpAnyH_ready (rs := [10]) (by kernel_rfl) (by simp) ?_
  refine AllReadyH.cons rfl (fun K hK => ?_) AllReadyH.nil
  go_simp
  with_reducible refine Calls.mono CR.out ?_
  rintro e w3 ⟨r, rfl, c3, u3⟩
  clear CR
  (try go_wp2_with fail)
  have x0 := turn_cellD u3 s0 hbv
  have x1 := turn_cellD u3 s1 hbv
  refine hK.out _ _ ?_ (fun hHeld => ?_)
  · (try dsimp only); exact ⟨x0, x1⟩
  clear hK K
  (try simp only [Act.put, List.setIfInBounds_toArray, List.set_cons_zero, List.set_cons_succ])
  have hfv3 := hfv2.turn u3 hpi
  have hrv3 := ((hrv.kp kd).turn u2 hpi).turn u3 hpi
  have hnv3 := ((hnv.kp kd).turn u2 hpi).turn u3 hpi
  have hsv3 := hsv.turn u3 hpi
  have tv3 := turn_thereD u3 (turn_thereD u2 (turn_thereD (Turn.of_kp (S := fun _ => False) kd) tv (fun h => h)) (by omega)) (by omega)
  have kk3 : Kp w w3 := ((kk.trans kd).turn u2 (fun i hi => by omega)).turn u3 (fun i hi => by omega)
  have HE := Lib.hid (drw_ret hfv3 (by omega) tv3 kk3 (Nat.le_refl _))
  have hi2 : ∀ i, w.heap.size + 2 ≤ i → ¬ i = w.heap.size := fun i hi => by omega
  have hsz3 : w.heap.size ≤ w.heap.size + 2 := by omega
  refine wpAnyH_ready (rs := [11]) (by kernel_rfl) (by simp) ?_
  refine AllReadyH.cons rfl (fun K hK => ?_) AllReadyH.nil
  rw [if_pos (by rfl)]
  refine wp_store_mid 27 (.tmp 2) (.tmp 20) rfl w.heap.size 0 #[.slice A9 n9 c9, .slice B9 k9 d9] rfl rfl tv3 (by kernel_rfl) (by simp [Value.oneCell']) ?_
  refine hK.out _ _ ?_ (fun hHeld => ?_)
  · (try dsimp only); exact ⟨turn_cellD HE.out.2.2.2.2 x0 (by show bv ≠ w.heap.size; omega), turn_cellD HE.out.2.2.2.2 x1 (by show bv ≠ w.heap.size; omega)⟩
  clear hK K
  (try simp only [Act.put, List.setIfInBounds_toArray, List.set_cons_zero, List.set_cons_succ])
  refine wpAnyH_take (i := 12) (v := ?_) rfl (by kernel_rfl) (by kernel_rfl) (by kernel_rfl) (fun _ _ _ h => h) (Or.inl ⟨by rfl, ?_⟩) (by assumption) ?_
  rotate_left
  · intro w hSw; (try dsimp only at hSw); go_simp <;> with_reducible rfl
  (try simp only [Act.put, List.setIfInBounds_toArray, List.set_cons_zero, List.set_cons_succ])
  refine wpAnyH_take (i := 13) (v := ?_) rfl (by kernel_rfl) (by kernel_rfl) (by kernel_rfl) (fun _ _ _ h => h) (Or.inl ⟨by rfl, ?_⟩) (by assumption) ?_
  rotate_left
  · intro w hSw; (try dsimp only at hSw); go_simp <;> with_reducible rfl
  (try simp only [Act.put, List.setIfInBounds_toArray, List.set_cons_zero, List.set_cons_succ])
  refine wpAnyH_take (i := 14) (v := ?_) rfl (by kernel_rfl) (by kernel_rfl) (by kernel_rfl) (fun _ _ _ h => h) (Or.inl ⟨by rfl, ?_⟩) (by assumption) ?_
  rotate_left
  · intro w hSw; (try dsimp only at hSw); go_simp <;> with_reducible rfl
  (try simp only [Act.put, List.setIfInBounds_toArray, List.set_cons_zero, List.set_cons_succ])
  refine wpAnyH_take (i := 15) (v := ?_) rfl (by kernel_rfl) (by kernel_rfl) (by kernel_rfl) (fun _ _ _ h => h) (Or.inl ⟨by rfl, ?_⟩) (by assumption) ?_
  rotate_left
  · intro w hSw; (try dsimp only at hSw); go_simp <;> with_reducible rfl
  (try simp only [Act.put, List.setIfInBounds_toArray, List.set_cons_zero, List.set_cons_succ])
  refine wpAnyH_done (by kernel_rfl) ?_ _
  go_wp2_with fail
  obtain ⟨z0, z1, z2, z3, z4⟩ := HE.out
  exact bodyPost_ret (v := .tuple #[.agg #[.slice A9 n9 c9, .slice B9 k9 d9], .slice Ar nr cr, .slice An nn cn, .slice As ns cs, .int .i64 r]) (by simp [results, Tryz.results5, go_sem, z0, z1]) rfl ⟨_, _, _, _, _, rfl, z2, (hrv3.turn z4 hi2).mono hsz3, (hnv3.turn z4 hi2).mono hsz3, (hsv3.turn z4 hi2).mono hsz3, z3⟩
def RrPost (w : World) (e : Ending) (w' : World) : Prop := ∃ v rv nv r, e = .returned (.tuple #[v, rv, nv, .int .i64 r]) ∧ DFld w' w.heap.size v ∧ DInts w' w.heap.size rv ∧ DInts w' w.heap.size nv ∧ Kp w w'
set_option maxRecDepth 100000 in
set_option maxHeartbeats 2000000 in
theorem drawRoomReach_any (A : Option Addr) (n c : Nat) (w : World) (hb : BytesAt w A n) :
    Calls Tryz.prog 14 #[.slice A n c] w (RrPost w) := by
  have t0 := there_newD w [.slice none 0 0, .slice none 0 0] 27
  simp only [List.length_cons, List.length_nil, Nat.zero_add, Nat.reduceAdd] at t0
  have k1 : Kp w (w.alloc (.cells #[.slice none 0 0, .slice none 0 0] 27)) := (Kp.refl w).alloc _
  have k2 : Kp _ ((w.alloc (.cells #[.slice none 0 0, .slice none 0 0] 27)).alloc (.cells #[.slice A n c, .int .i64 0, .int .u64 0] 51)) := (Kp.refl _).alloc _
  have cu := cur_new (c := c) (t := 51) (hb.kp k1)
  have ta := turn_thereD (Turn.of_kp (S := fun _ => False) k2) t0 (fun h => h)
  have hz : Hid (((w.alloc (.cells #[.slice none 0 0, .slice none 0 0] 27)).alloc (.cells #[.slice A n c, .int .i64 0, .int .u64 0] 51)).heap.size = w.heap.size + 2) := by show _ = _; simp
  have k0 := k1.trans k2
  rw [World.size_alloc] at cu
  have CF := Lib.hid (rooms7_any (w.heap.size + 1) 0 5 _ cu (by omega) (by omega))
  clear k1 k2 t0
  go_enter Tryz.func14, Tryz.ntmps14
  go_wp2_with fail
  generalize (w.alloc (.cells #[.slice none 0 0, .slice none 0 0] 27)).alloc (.cells #[.slice A n c, .int .i64 0, .int .u64 0] 51) = wa at *
  with_reducible refine Calls.mono CF.out ?_
  rintro e w1 ⟨v, rv, nv, rfl, hv, hrv, hnv, c1, u1⟩
  clear CF
  rw [hz.out] at hv hrv hnv
  obtain ⟨A9, n9, c9, B9, k9, d9, rfl, hn9, hk9⟩ := hv.shape3
  obtain ⟨Ar, nr, cr, rfl⟩ := hrv.cutK
  obtain ⟨An, nn, cn, rfl⟩ := hnv.cutK
  have kv : Kp w1 (w1.alloc (.cells #[.slice A9 n9 c9, .slice B9 k9 d9] 27)) := (Kp.refl w1).alloc _
  obtain ⟨d0, d1⟩ := box2 w1 (.slice A9 n9 c9) (.slice B9 k9 d9) 27
  have hvb : w.heap.size + 2 ≤ w1.heap.size := by have := u1.size; rw [hz.out] at this; exact this
  have tv := turn_thereD (Turn.of_kp (S := fun _ => False) kv) (turn_thereD u1 ta (by omega)) (fun h => h)
  have kk : Kp w (w1.alloc (.cells #[.slice A9 n9 c9, .slice B9 k9 d9] 27)) := (k0.turn u1 (fun i hi => by omega)).trans kv
  have hfv := hv.kp kv
  replace hrv := hrv.kp kv
  replace hnv := hnv.kp kv
  have cv := c1.kp kv
  have HWB : Hid ((w1.alloc (.cells #[.slice A9 n9 c9, .slice B9 k9 d9] 27)).heap.size = w1.heap.size + 1) := by show _ = _; simp
  clear hv c1 u1 ta k0 cu hz
  go_wp2_with fail
  generalize w1.alloc (.cells #[.slice A9 n9 c9, .slice B9 k9 d9] 27) = wq at *
  generalize w1.heap.size = bv at *
  have hbv : bv ≠ w.heap.size + 1 := by omega
  have hqs : w.heap.size + 2 ≤ wq.heap.size := by have := HWB.out; omega
  have hpi : ∀ i, w.heap.size + 2 ≤ i → ¬ i = w.heap.size + 1 := fun i hi => by omega
  have hqi : ∀ i, w.heap.size ≤ i → ¬ i < w.heap.size := fun i hi => by omega
  have hn100 : n9 ≤ 100 := hn9
  have e0 := (Kp.refl wq).drew.get d0
  have e1 := (Kp.refl wq).drew.get d1
  have kd := (Kp.refl wq).drew
  have CO := Lib.hid (number5_any (w.heap.size + 1) _ A9 n9 c9 B9 k9 d9 wq.drew (cv.kp kd) (by omega) hn100)
  refine wp_region_held_drew (S := fun w' => w'.cell? ⟨bv, 0, none⟩ = some (.slice A9 n9 c9) ∧ w'.cell? ⟨bv, 1, none⟩ = some (.slice B9 k9 d9)) (by kernel_rfl) ⟨e0, e1⟩ (fun hHeld => ?_)
  refine wpAnyH_take (i := 0) (v := ?_) rfl (by kernel_rfl) (by kernel_rfl) (by kernel_rfl) (fun _ _ _ h => h) (Or.inl ⟨by rfl, ?_⟩) (by assumption) ?_
  rotate_left
  · intro w hSw; (try dsimp only at hSw); go_simp <;> with_reducible rfl
  (try simp only [Act.put, List.setIfInBounds_toArray, List.set_cons_zero, List.set_cons_succ])
  refine wpAnyH_take (i := 1) (v := ?_) rfl (by kernel_rfl) (by kernel_rfl) (by kernel_rfl) (fun _ _ _ h => h) (Or.inl ⟨by rfl, ?_⟩) (by assumption) ?_
  rotate_left
  · intro w hSw; (try dsimp only at hSw); go_simp <;> with_reducible rfl
  (try simp only [Act.put, List.setIfInBounds_toArray, List.set_cons_zero, List.set_cons_succ])
  refine wpAnyH_take (i := 2) (v := ?_) rfl (by kernel_rfl) (by kernel_rfl) (by kernel_rfl) (fun _ _ _ h => h) (Or.inl ⟨by rfl, ?_⟩) (by assumption) ?_
  rotate_left
  · intro w hSw; (try dsimp only at hSw); go_simp <;> with_reducible rfl
  (try simp only [Act.put, List.setIfInBounds_toArray, List.set_cons_zero, List.set_cons_succ])
  refine wpAnyH_take (i := 3) (v := ?_) rfl (by kernel_rfl) (by kernel_rfl) (by kernel_rfl) (fun _ _ _ h => h) (Or.inl ⟨by rfl, ?_⟩) (by assumption) ?_
  rotate_left
  · intro w hSw; (try dsimp only at hSw); go_simp <;> with_reducible rfl
  (try simp only [Act.put, List.setIfInBounds_toArray, List.set_cons_zero, List.set_cons_succ])
  refine wpAnyH_take (i := 4) (v := ?_) rfl (by kernel_rfl) (by kernel_rfl) (by kernel_rfl) (fun _ _ _ h => h) (Or.inl ⟨by rfl, ?_⟩) (by assumption) ?_
  rotate_left
  · intro w hSw; (try dsimp only at hSw); go_simp <;> with_reducible rfl
  (try simp only [Act.put, List.setIfInBounds_toArray, List.set_cons_zero, List.set_cons_succ])
  refine wpAnyH_ready (rs := [5]) (by kernel_rfl) (by simp) ?_
  refine AllReadyH.cons rfl (fun K hK => ?_) AllReadyH.nil
  go_simp
  with_reducible refine Calls.mono CO.out ?_
  rintro e w2 ⟨r, rfl, c2, u2⟩
  clear CO
  (try go_wp2_with fail)
  have s0 := turn_cellD u2 e0 hbv
  have s1 := turn_cellD u2 e1 hbv
  refine hK.out _ _ ?_ (fun hHeld => ?_)
  · (try dsimp only); exact ⟨s0, s1⟩
  clear hK K
  (try simp only [Act.put, List.setIfInBounds_toArray, List.set_cons_zero, List.set_cons_succ])
  have hfv2 := (hfv.kp kd).turn u2 hpi
  have hrv2 := (hrv.kp kd).turn u2 hpi
  have hnv2 := (hnv.kp kd).turn u2 hpi
  have tv2 := turn_thereD u2 (turn_thereD (Turn.of_kp (S := fun _ => False) kd) tv (fun h => h)) (by omega)
  have kk2 : Kp w w2 := (kk.trans kd).turn u2 (fun i hi => by omega)
  have HE := Lib.hid (drw_ret hfv2 (by omega) tv2 kk2 (Nat.le_refl _))
  have hi2 : ∀ i, w.heap.size + 2 ≤ i → ¬ i = w.heap.size := fun i hi => by omega
  have hsz3 : w.heap.size ≤ w.heap.size + 2 := by omega
  refine wpAnyH_ready (rs := [6]) (by kernel_rfl) (by simp) ?_
  refine AllReadyH.cons rfl (fun K hK => ?_) AllReadyH.nil
  rw [if_pos (by rfl)]
  refine wp_store_mid 27 (.tmp 2) (.tmp 19) rfl w.heap.size 0 #[.slice A9 n9 c9, .slice B9 k9 d9] rfl rfl tv2 (by kernel_rfl) (by simp [Value.oneCell']) ?_
  refine hK.out _ _ ?_ (fun hHeld => ?_)
  · (try dsimp only); exact ⟨turn_cellD HE.out.2.2.2.2 s0 (by show bv ≠ w.heap.size; omega), turn_cellD HE.out.2.2.2.2 s1 (by show bv ≠ w.heap.size; omega)⟩
  clear hK K
  (try simp only [Act.put, List.setIfInBounds_toArray, List.set_cons_zero, List.set_cons_succ])
  refine wpAnyH_take (i := 7) (v := ?_) rfl (by kernel_rfl) (by kernel_rfl) (by kernel_rfl) (fun _ _ _ h => h) (Or.inl ⟨by rfl, ?_⟩) (by assumption) ?_
  rotate_left
  · intro w hSw; (try dsimp only at hSw); go_simp <;> with_reducible rfl
  (try simp only [Act.put, List.setIfInBounds_toArray, List.set_cons_zero, List.set_cons_succ])
  refine wpAnyH_take (i := 8) (v := ?_) rfl (by kernel_rfl) (by kernel_rfl) (by kernel_rfl) (fun _ _ _ h => h) (Or.inl ⟨by rfl, ?_⟩) (by assumption) ?_
  rotate_left
  · intro w hSw; (try dsimp only at hSw); go_simp <;> with_reducible rfl
  (try simp only [Act.put, List.setIfInBounds_toArray, List.set_cons_zero, List.set_cons_succ])
  refine wpAnyH_take (i := 9) (v := ?_) rfl (by kernel_rfl) (by kernel_rfl) (by kernel_rfl) (fun _ _ _ h => h) (Or.inl ⟨by rfl, ?_⟩) (by assumption) ?_
  rotate_left
  · intro w hSw; (try dsimp only at hSw); go_simp <;> with_reducible rfl
  (try simp only [Act.put, List.setIfInBounds_toArray, List.set_cons_zero, List.set_cons_succ])
  refine wpAnyH_done (by kernel_rfl) ?_ _
  go_wp2_with fail
  obtain ⟨z0, z1, z2, z3, z4⟩ := HE.out
  exact bodyPost_ret (v := .tuple #[.agg #[.slice A9 n9 c9, .slice B9 k9 d9], .slice Ar nr cr, .slice An nn cn, .int .i64 r]) (by simp [results, Tryz.results14, go_sem, z0, z1]) rfl ⟨_, _, _, _, rfl, z2, (hrv2.turn z4 hi2).mono hsz3, (hnv2.turn z4 hi2).mono hsz3, z3⟩
def BrPost (w : World) (e : Ending) (w' : World) : Prop := ∃ v rv nv, e = .returned (.tuple #[v, rv, nv]) ∧ DFld w' w.heap.size v ∧ DInts w' w.heap.size rv ∧ DInts w' w.heap.size nv ∧ Kp w w'
set_option maxRecDepth 100000 in
set_option maxHeartbeats 2000000 in
theorem drawBestRooms_any (A : Option Addr) (n c : Nat) (w : World) (hb : BytesAt w A n) :
    Calls Tryz.prog 10 #[.slice A n c] w (BrPost w) := by
  have t0 := there_newD w [.slice none 0 0, .slice none 0 0] 27
  simp only [List.length_cons, List.length_nil, Nat.zero_add, Nat.reduceAdd] at t0
  have k1 : Kp w (w.alloc (.cells #[.slice none 0 0, .slice none 0 0] 27)) := (Kp.refl w).alloc _
  have k2 : Kp _ ((w.alloc (.cells #[.slice none 0 0, .slice none 0 0] 27)).alloc (.cells #[.slice A n c, .int .i64 0, .int .u64 0] 51)) := (Kp.refl _).alloc _
  have cu := cur_new (c := c) (t := 51) (hb.kp k1)
  have ta := turn_thereD (Turn.of_kp (S := fun _ => False) k2) t0 (fun h => h)
  have hz : Hid (((w.alloc (.cells #[.slice none 0 0, .slice none 0 0] 27)).alloc (.cells #[.slice A n c, .int .i64 0, .int .u64 0] 51)).heap.size = w.heap.size + 2) := by show _ = _; simp
  have k0 := k1.trans k2
  rw [World.size_alloc] at cu
  have CF := Lib.hid (rooms7_any (w.heap.size + 1) 0 5 _ cu (by omega) (by omega))
  clear k1 k2 t0
  go_enter Tryz.func10, Tryz.ntmps10
  go_wp2_with fail
  generalize (w.alloc (.cells #[.slice none 0 0, .slice none 0 0] 27)).alloc (.cells #[.slice A n c, .int .i64 0, .int .u64 0] 51) = wa at *
  with_reducible refine Calls.mono CF.out ?_
  rintro e w1 ⟨v, rv, nv, rfl, hv, hrv, hnv, c1, u1⟩
  clear CF
  rw [hz.out] at hv hrv hnv
  obtain ⟨A9, n9, c9, B9, k9, d9, rfl, hn9, hk9⟩ := hv.shape3
  obtain ⟨Ar, nr, cr, rfl⟩ := hrv.cutK
  obtain ⟨An, nn, cn, rfl⟩ := hnv.cutK
  have td := turn_thereD u1 ta (by omega)
  have kd : Kp w w1 := k0.turn u1 (fun i hi => by omega)
  have HE := Lib.hid (drw_ret hv (by omega) td kd (Nat.le_refl _))
  have hi2 : ∀ i, w.heap.size + 2 ≤ i → ¬ i = w.heap.size := fun i hi => by omega
  have hsz3 : w.heap.size ≤ w.heap.size + 2 := by omega
  go_wp2_with (first | (refine wpList_store_mid rfl 27 (.tmp 2) (.tmp 11) rfl w.heap.size 0 #[.slice A9 n9 c9, .slice B9 k9 d9] rfl rfl td (by kernel_rfl) (by simp [Value.oneCell']) ?_) | fail)
  obtain ⟨z0, z1, z2, z3, z4⟩ := HE.out
  exact bodyPost_ret (v := .tuple #[.agg #[.slice A9 n9 c9, .slice B9 k9 d9], .slice Ar nr cr, .slice An nn cn]) (by simp [results, Tryz.results10, go_sem, z0, z1]) rfl ⟨_, _, _, rfl, z2, (hrv.turn z4 hi2).mono hsz3, (hnv.turn z4 hi2).mono hsz3, z3⟩
end Go.Proofs.YtpiijhfjliolfaaGreat

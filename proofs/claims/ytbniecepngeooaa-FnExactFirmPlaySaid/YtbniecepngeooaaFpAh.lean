/- The play of two firms: the reference. No condition. -/
import Derived.Test.YtbniecepngeooaaFpAf
import Derived.Test.YtbniecepngeooaaFpAe
namespace Go.Proofs.Ytbniecepngeooaa
open Go.RowKit Go.Sort

set_option maxRecDepth 100000 in
set_option maxHeartbeats 2000000 in
theorem l9Value_any (F : Fld) (k : Nat) (hg : goodF F = true) (hk1 : 1 ≤ k) (hk2 : 2 * k ≤ F.op.length) : ∀ (n : Nat) (f : Value) (A1 A2 : Option Addr) (O X Y : List Int) (n1 c1 n2 c2 : Nat) (w : World), FldAt w f F → IntsAt w A1 X → X.length = n1 → n1 ≤ c1 → IntsAt w A2 Y → Y.length = n2 → n2 ≤ c2 → O.length + n = 2 * k → Duel F.op.length O X Y →
    Calls Try.prog 22 #[f, .int .i64 (k : Int), .slice A1 n1 c1, .slice A2 n2 c2] w fun e w' => e = .returned (.int .i64 (playN F n O).1) ∧ Kp w w'
  | 0, f, A1, A2, O, X, Y, n1, c1, n2, c2, w, hf, h1, hn1, hc1, h2, hn2, hc2, hnk, hd => by
    obtain ⟨A, c, B, d, rfl, hA, hB⟩ := hf
    have hk0 : Kp w (w.alloc (.cells #[.slice A F.op.length c, .slice B F.di.length d] 29)) := (Kp.refl w).alloc _
    obtain ⟨d0, d1⟩ := box2 w (.slice A F.op.length c) (.slice B F.di.length d) 29
    have hFA := FldAt.kp (show FldAt w (.agg #[.slice A F.op.length c, .slice B F.di.length d]) F from ⟨A, c, B, d, rfl, hA, hB⟩) hk0
    have h10 := h1.kp hk0
    have h20 := h2.kp hk0
    have Hn1 := Lib.hid hn1; have Hn2 := Lib.hid hn2
    have HD := Lib.hid hd
    have HG := Lib.hid hg
    have HE : Hid (X ≠ []) := fun e => by have := hd.lx; rw [e] at this; simp at this; omega
    have hdec : ((n2 : Int) == (k : Int)) = true := by have := hd.ly; simp; omega
    clear hA hB h1 h2 hn1 hn2 hd hg
    go_enter Try.func22, Try.ntmps22
    go_wp2_with fail
    have hsz : Hid ((w.alloc (.cells #[.slice A F.op.length c, .slice B F.di.length d] 29)).heap.size = w.heap.size + 1) := by show _ = _; simp
    generalize w.alloc (.cells #[.slice A F.op.length c, .slice B F.di.length d] 29) = wb at *
    have hkb : Kp wb wb := Kp.refl _
    have hkw := hk0
    have q_d0 := hkb.get d0
    have q_d1 := hkb.get d1
    go_wp2_with fail
    have CC := Lib.hid (l9Count_any _ F A1 A2 O X Y n1 c1 n2 c2 wb (hFA.kp hkb) (h10.kp hkb) Hn1.out (h20.kp hkb) Hn2.out HG.out HD.out HE.out)
    with_reducible refine Calls.mono CC.out ?_
    rintro e w1 ⟨rfl, hk1⟩
    clear CC q_d0 q_d1
    replace hkb := hkb.trans hk1
    have q_d0 := hkb.get d0
    have q_d1 := hkb.get d1
    go_wp2_with fail
    go_ret
    exact ⟨rfl, hkw.trans hkb⟩
  | n + 1, f, A1, A2, O, X, Y, n1, c1, n2, c2, w, hf, h1, hn1, hc1, h2, hn2, hc2, hnk, hd => by
    have IH := Lib.hid (l9Value_any F k hg hk1 hk2 n)
    obtain ⟨A, c, B, d, rfl, hA, hB⟩ := hf
    have hk0 : Kp w (w.alloc (.cells #[.slice A F.op.length c, .slice B F.di.length d] 29)) := (Kp.refl w).alloc _
    obtain ⟨d0, d1⟩ := box2 w (.slice A F.op.length c) (.slice B F.di.length d) 29
    have hFA := FldAt.kp (show FldAt w (.agg #[.slice A F.op.length c, .slice B F.di.length d]) F from ⟨A, c, B, d, rfl, hA, hB⟩) hk0
    have h10 := h1.kp hk0
    have h20 := h2.kp hk0
    have Hn1 := Lib.hid hn1; have Hn2 := Lib.hid hn2
    have HD := Lib.hid hd
    have HG := Lib.hid hg
    have h7 := (goodF_iff.1 hg).1.2
    have h8 := (goodF_iff.1 hg).2.2.1
    have hdec : ((n2 : Int) == (k : Int)) = false := by have := hd.ly; simp; omega
    have Hlen : Hid (O.length < F.op.length) := by show _ < _; omega
    have hl1 : n1 ≤ 7 := by have := hd.lx; omega
    have hl2 : n2 ≤ 7 := by have := hd.ly; omega
    have hev : ((n1 : Int) == (n2 : Int)) = evL O := by
      unfold evL
      have := hd.same
      rw [hn1, hn2] at this
      rw [Bool.eq_iff_iff, beq_iff_eq, decide_eq_true_eq]
      omega
    clear hA hB h1 h2 hn1 hn2 hd hg
    go_enter Try.func22, Try.ntmps22
    go_wp2_with fail
    have hsz : Hid ((w.alloc (.cells #[.slice A F.op.length c, .slice B F.di.length d] 29)).heap.size = w.heap.size + 1) := by show _ = _; simp
    generalize w.alloc (.cells #[.slice A F.op.length c, .slice B F.di.length d] 29) = wb at *
    have hkb : Kp wb wb := Kp.refl _
    have hkw := hk0
    have q_d0 := hkb.get d0
    have q_d1 := hkb.get d1
    go_wp2_with fail
    obtain ⟨wl, rfl⟩ : ∃ wl : World, wl = wb := ⟨_, rfl⟩
    go_loopw [9, 10] (fun bv iv wr => ∃ (j : Nat) (bz : Int), j ≤ F.op.length ∧ iv = .int .i64 j ∧ bv = .int .i64 bz ∧ Hid (sbest (playTo F n O j) = bz) ∧ Kp wl wr) (fun _ iv _ => F.op.length - (intOf iv).toNat)
    case atStart => exact ⟨0, -1, by omega, rfl, rfl, rfl, Kp.refl _⟩
    case round =>
      obtain ⟨j, bz, hj, rfl, rfl, Hst, hkr⟩ := hrel
      obtain ⟨wx, rfl⟩ : ∃ wx : World, wx = wr := ⟨_, rfl⟩
      have z0 := hkr.get d0
      have z1 := hkr.get d1
      by_cases hlt : j < F.op.length
      · have hany : ∀ L : List Int, (L.any fun x => x == (j : Int)) = decide ((j : Int) ∈ L) := fun L => by
          rw [Bool.eq_iff_iff, List.any_eq_true, decide_eq_true_eq]
          exact ⟨fun ⟨x, hx, e⟩ => (eq_of_beq e) ▸ hx, fun h => ⟨_, h, by simp⟩⟩
        have CC := Lib.hid (l1Has_any A1 X n1 c1 (j : Int) wx (h10.kp hkr) Hn1.out)
        have CD := Lib.hid (l1Has_any A2 Y n2 c2 (j : Int) wx (h20.kp hkr) Hn2.out)
        rw [hany] at CC CD
        clear hany
        by_cases hin1 : (j : Int) ∈ X
        · rw [decide_eq_true hin1] at CC
          have Hy : Hid (sbest (playTo F n O (j + 1)) = bz) := by show _ = _; rw [sbest_no (HD.out.mem.2 (.inl hin1))]; exact Hst.out
          clear hin1 CD
          go_wp2_with fail
          with_reducible refine Calls.mono CC.out ?_
          rintro e w5 ⟨rfl, hw5⟩
          obtain rfl := hw5
          clear CC
          go_wp2_with fail
          go_roundw
          case rel => exact ⟨j + 1, bz, by omega, by go_num, rfl, Hy, hkr⟩
          case measure => simp [intOf]; omega
        by_cases hin2 : (j : Int) ∈ Y
        · rw [decide_eq_false hin1] at CC
          rw [decide_eq_true hin2] at CD
          have Hy : Hid (sbest (playTo F n O (j + 1)) = bz) := by show _ = _; rw [sbest_no (HD.out.mem.2 (.inr hin2))]; exact Hst.out
          clear hin1 hin2
          go_wp2_with fail
          with_reducible refine Calls.mono CC.out ?_
          rintro e w5 ⟨rfl, hw5⟩
          obtain rfl := hw5
          clear CC
          go_wp2_with fail
          with_reducible refine Calls.mono CD.out ?_
          rintro e w5 ⟨rfl, hw5⟩
          obtain rfl := hw5
          clear CD
          go_wp2_with fail
          go_roundw
          case rel => exact ⟨j + 1, bz, by omega, by go_num, rfl, Hy, hkr⟩
          case measure => simp [intOf]; omega
        rw [decide_eq_false hin1] at CC
        rw [decide_eq_false hin2] at CD
        have Hin : Hid ((j : Int) ∉ O) := fun h => (HD.out.mem.1 h).elim hin1 hin2
        clear hin1 hin2
        have hpb := play_bd F n (O ++ [(j : Int)])
        have hsb := sbest_bd F n O j
        rw [Hst.out] at hsb
        have hpv : pval F n O j = (playN F n (O ++ [(j : Int)])).1 := rfl
        rw [← hpv] at hpb
        have hkz : Kp wx wx := Kp.refl _
        have hFl := hFA.kp hkr
        have h11 := h10.kp hkr
        have h21 := h20.kp hkr
        cases he : evL O
        · have hodd : O.length % 2 = 1 := by have := of_decide_eq_false he; omega
          rw [he] at hev
          have Hs := Lib.hid (sbest_two (F := F) (n := n) Hin.out he)
          rw [Hst.out] at Hs
          have C1 := Lib.hid (fun (w' : World) (hx : Kp wx w') => l1Put_any A2 Y n2 c2 (j : Int) w' (h21.kp hx) Hn2.out HD.out.sy hc2 (by omega))
          have C2 := Lib.hid (fun (w' : World) (hx : Kp wx w') (A' : Option Addr) (c' : Nat) (hi : IntsAt w' A' (putL Y (j : Int))) (hc : (putL Y (j : Int)).length ≤ c') => (show Calls Try.prog 22 #[.agg #[.slice A F.op.length c, .slice B F.di.length d], .int .i64 (k : Int), .slice A1 n1 c1, .slice A' (putL Y (j : Int)).length c'] w' (fun e w'' => e = .returned (.int .i64 (pval F n O j)) ∧ Kp w' w'') from
            IH.out _ A1 A' (O ++ [(j : Int)]) X (putL Y (j : Int)) n1 c1 _ c' w' (hFl.kp hx) (h11.kp hx) Hn1.out hc1 hi rfl hc (by rw [List.length_append, List.length_singleton]; omega) (HD.out.two hlt Hin.out hodd)))
          obtain ⟨vz, Hvz⟩ : ∃ z, Hid (pval F n O j = z) := ⟨_, Lib.hid rfl⟩
          rw [Hvz.out] at Hs C2 hpb
          clear he hodd hpv
          go_wp2_with fail
          with_reducible refine Calls.mono CC.out ?_
          rintro e w5 ⟨rfl, hw5⟩
          obtain rfl := hw5
          clear CC
          go_wp2_with fail
          with_reducible refine Calls.mono CD.out ?_
          rintro e w5 ⟨rfl, hw5⟩
          obtain rfl := hw5
          clear CD
          clear q_d0 q_d1
          have q_z0 := hkz.get z0
          have q_z1 := hkz.get z1
          go_wp2_with fail
          clear q_z0 q_z1
          have q_z0 := hkz.get z0
          have q_z1 := hkz.get z1
          have tok1 : True := trivial
          go_wp2_with fail
          go_region_held3 (fun w' => w'.cell? ⟨w.heap.size, 0, none⟩ = some (.slice A F.op.length c) ∧ w'.cell? ⟨w.heap.size, 1, none⟩ = some (.slice B F.di.length d) ∧ Kp wx w')
            (first | (refine keepc2 z0 z1 ?_; exact (by repeat (first | with_reducible assumption | with_reducible exact Kp.refl _ | with_reducible refine Kp.drew ?_ | with_reducible refine Kp.alloc ?_ _ | with_reducible refine Kp.drewN ?_ _ | refine Kp.setCell ?_ (by dsimp only; omega) _))) | fail)
            (first
              | (have _t := tok1; go_at_call 29; with_reducible refine Calls.mono (C1.out _ (by repeat (first | with_reducible assumption | with_reducible exact Kp.refl _ | with_reducible refine Kp.drew ?_ | with_reducible refine Kp.alloc ?_ _ | with_reducible refine Kp.drewN ?_ _ | refine Kp.setCell ?_ (by dsimp only; omega) _))) ?_; rintro e wr1 ⟨A', c', rfl, hc', hi', hka⟩; have hr1 : Kp wx wr1 := Kp.trans (by repeat (first | with_reducible assumption | with_reducible exact Kp.refl _ | with_reducible refine Kp.drew ?_ | with_reducible refine Kp.alloc ?_ _ | with_reducible refine Kp.drewN ?_ _ | refine Kp.setCell ?_ (by dsimp only; omega) _)) hka; have tok2 : True := trivial; clear tok1 _t)
              | (have _t := tok2; go_at_call 22; with_reducible refine Calls.mono (C2.out _ (by repeat (first | with_reducible assumption | with_reducible exact Kp.refl _ | with_reducible refine Kp.drew ?_ | with_reducible refine Kp.alloc ?_ _ | with_reducible refine Kp.drewN ?_ _ | refine Kp.setCell ?_ (by dsimp only; omega) _)) A' c' (hi'.kp (by first | with_reducible assumption | exact Kp.refl _ | exact (Kp.refl _).drew)) hc') ?_; rintro e wr2 ⟨rfl, hka⟩; have hr2 : Kp wx wr2 := Kp.trans (by repeat (first | with_reducible assumption | with_reducible exact Kp.refl _ | with_reducible refine Kp.drew ?_ | with_reducible refine Kp.alloc ?_ _ | with_reducible refine Kp.drewN ?_ _ | refine Kp.setCell ?_ (by dsimp only; omega) _)) hka; have tok3 : True := trivial; clear tok2 _t)
              | fail)
          have hkf := hkr.trans hr2
          by_cases h0 : bz < 0
          · rw [if_pos (.inl h0)] at Hs
            go_wp2_with fail
            go_roundw
            case rel => exact ⟨j + 1, vz, by omega, by go_num, rfl, Hs, hkf⟩
            case measure => simp [intOf]; omega
          · by_cases h1 : vz < bz
            · rw [if_pos (.inr h1)] at Hs
              go_wp2_with fail
              go_roundw
              case rel => exact ⟨j + 1, vz, by omega, by go_num, rfl, Hs, hkf⟩
              case measure => simp [intOf]; omega
            · rw [if_neg (by omega)] at Hs
              go_wp2_with fail
              go_roundw
              case rel => exact ⟨j + 1, bz, by omega, by go_num, rfl, Hs, hkf⟩
              case measure => simp [intOf]; omega
        · have heven : O.length % 2 = 0 := of_decide_eq_true he
          rw [he] at hev
          have Hs := Lib.hid (sbest_one (F := F) (n := n) Hin.out he)
          rw [Hst.out] at Hs
          have C1 := Lib.hid (fun (w' : World) (hx : Kp wx w') => l1Put_any A1 X n1 c1 (j : Int) w' (h11.kp hx) Hn1.out HD.out.sx hc1 (by omega))
          have C2 := Lib.hid (fun (w' : World) (hx : Kp wx w') (A' : Option Addr) (c' : Nat) (hi : IntsAt w' A' (putL X (j : Int))) (hc : (putL X (j : Int)).length ≤ c') => (show Calls Try.prog 22 #[.agg #[.slice A F.op.length c, .slice B F.di.length d], .int .i64 (k : Int), .slice A' (putL X (j : Int)).length c', .slice A2 n2 c2] w' (fun e w'' => e = .returned (.int .i64 (pval F n O j)) ∧ Kp w' w'') from
            IH.out _ A' A2 (O ++ [(j : Int)]) (putL X (j : Int)) Y _ c' n2 c2 w' (hFl.kp hx) hi rfl hc (h21.kp hx) Hn2.out hc2 (by rw [List.length_append, List.length_singleton]; omega) (HD.out.one hlt Hin.out heven)))
          obtain ⟨vz, Hvz⟩ : ∃ z, Hid (pval F n O j = z) := ⟨_, Lib.hid rfl⟩
          rw [Hvz.out] at Hs C2 hpb
          have C3 := Lib.hid (fun (w' : World) => l1Most_any bz vz w')
          clear he heven hpv
          go_wp2_with fail
          with_reducible refine Calls.mono CC.out ?_
          rintro e w5 ⟨rfl, hw5⟩
          obtain rfl := hw5
          clear CC
          go_wp2_with fail
          with_reducible refine Calls.mono CD.out ?_
          rintro e w5 ⟨rfl, hw5⟩
          obtain rfl := hw5
          clear CD
          clear q_d0 q_d1
          have q_z0 := hkz.get z0
          have q_z1 := hkz.get z1
          go_wp2_with fail
          clear q_z0 q_z1
          have q_z0 := hkz.get z0
          have q_z1 := hkz.get z1
          have tok1 : True := trivial
          go_wp2_with fail
          go_region_held3 (fun w' => w'.cell? ⟨w.heap.size, 0, none⟩ = some (.slice A F.op.length c) ∧ w'.cell? ⟨w.heap.size, 1, none⟩ = some (.slice B F.di.length d) ∧ Kp wx w')
            (first | (refine keepc2 z0 z1 ?_; exact (by repeat (first | with_reducible assumption | with_reducible exact Kp.refl _ | with_reducible refine Kp.drew ?_ | with_reducible refine Kp.alloc ?_ _ | with_reducible refine Kp.drewN ?_ _ | refine Kp.setCell ?_ (by dsimp only; omega) _))) | fail)
            (first
              | (have _t := tok1; go_at_call 29; with_reducible refine Calls.mono (C1.out _ (by repeat (first | with_reducible assumption | with_reducible exact Kp.refl _ | with_reducible refine Kp.drew ?_ | with_reducible refine Kp.alloc ?_ _ | with_reducible refine Kp.drewN ?_ _ | refine Kp.setCell ?_ (by dsimp only; omega) _))) ?_; rintro e wr1 ⟨A', c', rfl, hc', hi', hka⟩; have hr1 : Kp wx wr1 := Kp.trans (by repeat (first | with_reducible assumption | with_reducible exact Kp.refl _ | with_reducible refine Kp.drew ?_ | with_reducible refine Kp.alloc ?_ _ | with_reducible refine Kp.drewN ?_ _ | refine Kp.setCell ?_ (by dsimp only; omega) _)) hka; have tok2 : True := trivial; clear tok1 _t)
              | (have _t := tok2; go_at_call 22; with_reducible refine Calls.mono (C2.out _ (by repeat (first | with_reducible assumption | with_reducible exact Kp.refl _ | with_reducible refine Kp.drew ?_ | with_reducible refine Kp.alloc ?_ _ | with_reducible refine Kp.drewN ?_ _ | refine Kp.setCell ?_ (by dsimp only; omega) _)) A' c' (hi'.kp (by first | with_reducible assumption | exact Kp.refl _ | exact (Kp.refl _).drew)) hc') ?_; rintro e wr2 ⟨rfl, hka⟩; have hr2 : Kp wx wr2 := Kp.trans (by repeat (first | with_reducible assumption | with_reducible exact Kp.refl _ | with_reducible refine Kp.drew ?_ | with_reducible refine Kp.alloc ?_ _ | with_reducible refine Kp.drewN ?_ _ | refine Kp.setCell ?_ (by dsimp only; omega) _)) hka; have tok3 : True := trivial; clear tok2 _t)
              | (have _t := tok3; go_at_call 42; with_reducible refine Calls.mono (C3.out _) ?_; rintro e wr3 ⟨rfl, hw⟩; obtain rfl := hw; have tok4 : True := trivial; clear tok3 _t)
              | fail)
          have hkf := hkr.trans hr2
          go_wp2_with fail
          go_roundw
          case rel => exact ⟨j + 1, _, by omega, by go_num, rfl, Hs, hkf⟩
          case measure => simp [intOf]; omega
      · obtain rfl : j = F.op.length := by omega
        have Hy : Hid ((playN F (n + 1) O).1 = bz) := by show _ = _; rw [← sbest_end Hlen.out]; exact Hst.out
        go_wp2_with fail
        go_ret
        exact ⟨by rw [Hy.out]; rfl, hkw.trans hkr⟩
end Go.Proofs.Ytbniecepngeooaa

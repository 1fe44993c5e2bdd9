/- The play of two firms: the reference; FirmValue: reference and program; FirmPlay: reference and program. No condition. -/
import Derived.Test.YtblebedejddefaaGreatQAf
import Derived.Test.YtblebedejddefaaGreatQAe
import Derived.Test.YtblebedejddefaaGreatQAg
namespace Go.Proofs.YtblebedejddefaaGreat
open Go.RowKit Go.Sort

set_option maxRecDepth 100000 in
set_option maxHeartbeats 2000000 in
theorem l9Value_any (F : Fld) (k : Nat) (hg : goodF F = true) (hk1 : 1 ≤ k) (hk2 : 2 * k ≤ F.op.length) : ∀ (n : Nat) (f : Value) (A1 A2 : Option Addr) (O X Y : List Int) (n1 c1 n2 c2 : Nat) (w : World), FldAt w f F → IntsAt w A1 X → X.length = n1 → n1 ≤ c1 → IntsAt w A2 Y → Y.length = n2 → n2 ≤ c2 → O.length + n = 2 * k → Duel F.op.length O X Y →
    Calls Tryz.prog 27 #[f, .int .i64 (k : Int), .slice A1 n1 c1, .slice A2 n2 c2] w fun e w' => e = .returned (.int .i64 (playN F n O).1) ∧ Kp w w'
  | 0, f, A1, A2, O, X, Y, n1, c1, n2, c2, w, hf, h1, hn1, hc1, h2, hn2, hc2, hnk, hd => by
    obtain ⟨A, c, B, d, rfl, hA, hB⟩ := hf
    have hk0 : Kp w (w.alloc (.cells #[.slice A F.op.length c, .slice B F.di.length d] 27)) := (Kp.refl w).alloc _
    obtain ⟨d0, d1⟩ := box2 w (.slice A F.op.length c) (.slice B F.di.length d) 27
    have hFA := FldAt.kp (show FldAt w (.agg #[.slice A F.op.length c, .slice B F.di.length d]) F from ⟨A, c, B, d, rfl, hA, hB⟩) hk0
    have h10 := h1.kp hk0
    have h20 := h2.kp hk0
    have Hn1 := Lib.hid hn1; have Hn2 := Lib.hid hn2
    have HD := Lib.hid hd
    have HG := Lib.hid hg
    have HE : Hid (X ≠ []) := fun e => by have := hd.lx; rw [e] at this; simp at this; omega
    have hdec : ((n2 : Int) == (k : Int)) = true := by have := hd.ly; simp; omega
    clear hA hB h1 h2 hn1 hn2 hd hg
    go_enter Tryz.func27, Tryz.ntmps27
    go_wp2_with fail
    have hsz : Hid ((w.alloc (.cells #[.slice A F.op.length c, .slice B F.di.length d] 27)).heap.size = w.heap.size + 1) := by show _ = _; simp
    generalize w.alloc (.cells #[.slice A F.op.length c, .slice B F.di.length d] 27) = wb at *
    have hkb : Kp wb wb := Kp.refl _
    have hkw := hk0
    have q_d0 := hkb.get d0
    have q_d1 := hkb.get d1
    go_wp2_with fail
    have CC := Lib.hid (l9Count_any _ F A1 A2 O X Y n1 c1 n2 c2 wb (hFA.kp hkb) (h10.kp hkb) Hn1.out (h20.kp hkb) Hn2.out HG.out HD.out HE.out)
    with_reducible refine Calls.mono CC.out ?_
    rintro e w1 ⟨rfl, hk1⟩
    clear CC q_d0 q_d1
    replace hkb := hkb.trans hk1
    have q_d0 := hkb.get d0
    have q_d1 := hkb.get d1
    go_wp2_with fail
    go_ret
    exact ⟨rfl, hkw.trans hkb⟩
  | n + 1, f, A1, A2, O, X, Y, n1, c1, n2, c2, w, hf, h1, hn1, hc1, h2, hn2, hc2, hnk, hd => by
    have IH := Lib.hid (l9Value_any F k hg hk1 hk2 n)
    obtain ⟨A, c, B, d, rfl, hA, hB⟩ := hf
    have hk0 : Kp w (w.alloc (.cells #[.slice A F.op.length c, .slice B F.di.length d] 27)) := (Kp.refl w).alloc _
    obtain ⟨d0, d1⟩ := box2 w (.slice A F.op.length c) (.slice B F.di.length d) 27
    have hFA := FldAt.kp (show FldAt w (.agg #[.slice A F.op.length c, .slice B F.di.length d]) F from ⟨A, c, B, d, rfl, hA, hB⟩) hk0
    have h10 := h1.kp hk0
    have h20 := h2.kp hk0
    have Hn1 := Lib.hid hn1; have Hn2 := Lib.hid hn2
    have HD := Lib.hid hd
    have HG := Lib.hid hg
    have h7 := (goodF_iff.1 hg).1.2
    have h8 := (goodF_iff.1 hg).2.2.1
    have hdec : ((n2 : Int) == (k : Int)) = false := by have := hd.ly; simp; omega
    have Hlen : Hid (O.length < F.op.length) := by show _ < _; omega
    have hl1 : n1 ≤ 7 := by have := hd.lx; omega
    have hl2 : n2 ≤ 7 := by have := hd.ly; omega
    have hev : ((n1 : Int) == (n2 : Int)) = evL O := by
      unfold evL
      have := hd.same
      rw [hn1, hn2] at this
      rw [Bool.eq_iff_iff, beq_iff_eq, decide_eq_true_eq]
      omega
    clear hA hB h1 h2 hn1 hn2 hd hg
    go_enter Tryz.func27, Tryz.ntmps27
    go_wp2_with fail
    have hsz : Hid ((w.alloc (.cells #[.slice A F.op.length c, .slice B F.di.length d] 27)).heap.size = w.heap.size + 1) := by show _ = _; simp
    generalize w.alloc (.cells #[.slice A F.op.length c, .slice B F.di.length d] 27) = wb at *
    have hkb : Kp wb wb := Kp.refl _
    have hkw := hk0
    have q_d0 := hkb.get d0
    have q_d1 := hkb.get d1
    go_wp2_with fail
    obtain ⟨wl, rfl⟩ : ∃ wl : World, wl = wb := ⟨_, rfl⟩
    go_loopw [9, 10] (fun bv iv wr => ∃ (j : Nat) (bz : Int), j ≤ F.op.length ∧ iv = .int .i64 j ∧ bv = .int .i64 bz ∧ Hid (sbest (playTo F n O j) = bz) ∧ Kp wl wr) (fun _ iv _ => F.op.length - (intOf iv).toNat)
    case atStart => exact ⟨0, -1, by omega, rfl, rfl, rfl, Kp.refl _⟩
    case round =>
      obtain ⟨j, bz, hj, rfl, rfl, Hst, hkr⟩ := hrel
      obtain ⟨wx, rfl⟩ : ∃ wx : World, wx = wr := ⟨_, rfl⟩
      have z0 := hkr.get d0
      have z1 := hkr.get d1
      by_cases hlt : j < F.op.length
      · have hany : ∀ L : List Int, (L.any fun x => x == (j : Int)) = decide ((j : Int) ∈ L) := fun L => by
          rw [Bool.eq_iff_iff, List.any_eq_true, decide_eq_true_eq]
          exact ⟨fun ⟨x, hx, e⟩ => (eq_of_beq e) ▸ hx, fun h => ⟨_, h, by simp⟩⟩
        have CC := Lib.hid (l1Has_any A1 X n1 c1 (j : Int) wx (h10.kp hkr) Hn1.out)
        have CD := Lib.hid (l1Has_any A2 Y n2 c2 (j : Int) wx (h20.kp hkr) Hn2.out)
        rw [hany] at CC CD
        clear hany
        by_cases hin1 : (j : Int) ∈ X
        · rw [decide_eq_true hin1] at CC
          have Hy : Hid (sbest (playTo F n O (j + 1)) = bz) := by show _ = _; rw [sbest_no (HD.out.mem.2 (.inl hin1))]; exact Hst.out
          clear hin1 CD
          go_wp2_with fail
          with_reducible refine Calls.mono CC.out ?_
          rintro e w5 ⟨rfl, hw5⟩
          obtain rfl := hw5
          clear CC
          go_wp2_with fail
          go_roundw
          case rel => exact ⟨j + 1, bz, by omega, by go_num, rfl, Hy, hkr⟩
          case measure => simp [intOf]; omega
        by_cases hin2 : (j : Int) ∈ Y
        · rw [decide_eq_false hin1] at CC
          rw [decide_eq_true hin2] at CD
          have Hy : Hid (sbest (playTo F n O (j + 1)) = bz) := by show _ = _; rw [sbest_no (HD.out.mem.2 (.inr hin2))]; exact Hst.out
          clear hin1 hin2
          go_wp2_with fail
          with_reducible refine Calls.mono CC.out ?_
          rintro e w5 ⟨rfl, hw5⟩
          obtain rfl := hw5
          clear CC
          go_wp2_with fail
          with_reducible refine Calls.mono CD.out ?_
          rintro e w5 ⟨rfl, hw5⟩
          obtain rfl := hw5
          clear CD
          go_wp2_with fail
          go_roundw
          case rel => exact ⟨j + 1, bz, by omega, by go_num, rfl, Hy, hkr⟩
          case measure => simp [intOf]; omega
        rw [decide_eq_false hin1] at CC
        rw [decide_eq_false hin2] at CD
        have Hin : Hid ((j : Int) ∉ O) := fun h => (HD.out.mem.1 h).elim hin1 hin2
        clear hin1 hin2
        have hpb := play_bd F n (O ++ [(j : Int)])
        have hsb := sbest_bd F n O j
        rw [Hst.out] at hsb
        have hpv : pval F n O j = (playN F n (O ++ [(j : Int)])).1 := rfl
        rw [← hpv] at hpb
        have hkz : Kp wx wx := Kp.refl _
        have hFl := hFA.kp hkr
        have h11 := h10.kp hkr
        have h21 := h20.kp hkr
        cases he : evL O
        · have hodd : O.length % 2 = 1 := by have := of_decide_eq_false he; omega
          rw [he] at hev
          have Hs := Lib.hid (sbest_two (F := F) (n := n) Hin.out he)
          rw [Hst.out] at Hs
          have C1 := Lib.hid (fun (w' : World) (hx : Kp wx w') => l1Put_any A2 Y n2 c2 (j : Int) w' (h21.kp hx) Hn2.out HD.out.sy hc2 (by omega))
          have C2 := Lib.hid (fun (w' : World) (hx : Kp wx w') (A' : Option Addr) (c' : Nat) (hi : IntsAt w' A' (putL Y (j : Int))) (hc : (putL Y (j : Int)).length ≤ c') => (show Calls Tryz.prog 27 #[.agg #[.slice A F.op.length c, .slice B F.di.length d], .int .i64 (k : Int), .slice A1 n1 c1, .slice A' (putL Y (j : Int)).length c'] w' (fun e w'' => e = .returned (.int .i64 (pval F n O j)) ∧ Kp w' w'') from
            IH.out _ A1 A' (O ++ [(j : Int)]) X (putL Y (j : Int)) n1 c1 _ c' w' (hFl.kp hx) (h11.kp hx) Hn1.out hc1 hi rfl hc (by rw [List.length_append, List.length_singleton]; omega) (HD.out.two hlt Hin.out hodd)))
          obtain ⟨vz, Hvz⟩ : ∃ z, Hid (pval F n O j = z) := ⟨_, Lib.hid rfl⟩
          rw [Hvz.out] at Hs C2 hpb
          clear he hodd hpv
          go_wp2_with fail
          with_reducible refine Calls.mono CC.out ?_
          rintro e w5 ⟨rfl, hw5⟩
          obtain rfl := hw5
          clear CC
          go_wp2_with fail
          with_reducible refine Calls.mono CD.out ?_
          rintro e w5 ⟨rfl, hw5⟩
          obtain rfl := hw5
          clear CD
          clear q_d0 q_d1
          have q_z0 := hkz.get z0
          have q_z1 := hkz.get z1
          go_wp2_with fail
          clear q_z0 q_z1
          have q_z0 := hkz.get z0
          have q_z1 := hkz.get z1
          have tok1 : True := trivial
          go_wp2_with fail
          go_region_held3 (fun w' => w'.cell? ⟨w.heap.size, 0, none⟩ = some (.slice A F.op.length c) ∧ w'.cell? ⟨w.heap.size, 1, none⟩ = some (.slice B F.di.length d) ∧ Kp wx w')
            (first | (refine keepc2 z0 z1 ?_; exact (by repeat (first | with_reducible assumption | with_reducible exact Kp.refl _ | with_reducible refine Kp.drew ?_ | with_reducible refine Kp.alloc ?_ _ | with_reducible refine Kp.drewN ?_ _ | refine Kp.setCell ?_ (by dsimp only; omega) _))) | fail)
            (first
              | (have _t := tok1; go_at_call 29; with_reducible refine Calls.mono (C1.out _ (by repeat (first | with_reducible assumption | with_reducible exact Kp.refl _ | with_reducible refine Kp.drew ?_ | with_reducible refine Kp.alloc ?_ _ | with_reducible refine Kp.drewN ?_ _ | refine Kp.setCell ?_ (by dsimp only; omega) _))) ?_; rintro e wr1 ⟨A', c', rfl, hc', hi', hka⟩; have hr1 : Kp wx wr1 := Kp.trans (by repeat (first | with_reducible assumption | with_reducible exact Kp.refl _ | with_reducible refine Kp.drew ?_ | with_reducible refine Kp.alloc ?_ _ | with_reducible refine Kp.drewN ?_ _ | refine Kp.setCell ?_ (by dsimp only; omega) _)) hka; have tok2 : True := trivial; clear tok1 _t)
              | (have _t := tok2; go_at_call 27; with_reducible refine Calls.mono (C2.out _ (by repeat (first | with_reducible assumption | with_reducible exact Kp.refl _ | with_reducible refine Kp.drew ?_ | with_reducible refine Kp.alloc ?_ _ | with_reducible refine Kp.drewN ?_ _ | refine Kp.setCell ?_ (by dsimp only; omega) _)) A' c' (hi'.kp (by first | with_reducible assumption | exact Kp.refl _ | exact (Kp.refl _).drew)) hc') ?_; rintro e wr2 ⟨rfl, hka⟩; have hr2 : Kp wx wr2 := Kp.trans (by repeat (first | with_reducible assumption | with_reducible exact Kp.refl _ | with_reducible refine Kp.drew ?_ | with_reducible refine Kp.alloc ?_ _ | with_reducible refine Kp.drewN ?_ _ | refine Kp.setCell ?_ (by dsimp only; omega) _)) hka; have tok3 : True := trivial; clear tok2 _t)
              | fail)
          have hkf := hkr.trans hr2
          by_cases h0 : bz < 0
          · rw [if_pos (.inl h0)] at Hs
            go_wp2_with fail
            go_roundw
            case rel => exact ⟨j + 1, vz, by omega, by go_num, rfl, Hs, hkf⟩
            case measure => simp [intOf]; omega
          · by_cases h1 : vz < bz
            · rw [if_pos (.inr h1)] at Hs
              go_wp2_with fail
              go_roundw
              case rel => exact ⟨j + 1, vz, by omega, by go_num, rfl, Hs, hkf⟩
              case measure => simp [intOf]; omega
            · rw [if_neg (by omega)] at Hs
              go_wp2_with fail
              go_roundw
              case rel => exact ⟨j + 1, bz, by omega, by go_num, rfl, Hs, hkf⟩
              case measure => simp [intOf]; omega
        · have heven : O.length % 2 = 0 := of_decide_eq_true he
          rw [he] at hev
          have Hs := Lib.hid (sbest_one (F := F) (n := n) Hin.out he)
          rw [Hst.out] at Hs
          have C1 := Lib.hid (fun (w' : World) (hx : Kp wx w') => l1Put_any A1 X n1 c1 (j : Int) w' (h11.kp hx) Hn1.out HD.out.sx hc1 (by omega))
          have C2 := Lib.hid (fun (w' : World) (hx : Kp wx w') (A' : Option Addr) (c' : Nat) (hi : IntsAt w' A' (putL X (j : Int))) (hc : (putL X (j : Int)).length ≤ c') => (show Calls Tryz.prog 27 #[.agg #[.slice A F.op.length c, .slice B F.di.length d], .int .i64 (k : Int), .slice A' (putL X (j : Int)).length c', .slice A2 n2 c2] w' (fun e w'' => e = .returned (.int .i64 (pval F n O j)) ∧ Kp w' w'') from
            IH.out _ A' A2 (O ++ [(j : Int)]) (putL X (j : Int)) Y _ c' n2 c2 w' (hFl.kp hx) hi rfl hc (h21.kp hx) Hn2.out hc2 (by rw [List.length_append, List.length_singleton]; omega) (HD.out.one hlt Hin.out heven)))
          obtain ⟨vz, Hvz⟩ : ∃ z, Hid (pval F n O j = z) := ⟨_, Lib.hid rfl⟩
          rw [Hvz.out] at Hs C2 hpb
          have C3 := Lib.hid (fun (w' : World) => l1Most_any bz vz w')
          clear he heven hpv
          go_wp2_with fail
          with_reducible refine Calls.mono CC.out ?_
          rintro e w5 ⟨rfl, hw5⟩
          obtain rfl := hw5
          clear CC
          go_wp2_with fail
          with_reducible refine Calls.mono CD.out ?_
          rintro e w5 ⟨rfl, hw5⟩
          obtain rfl := hw5
          clear CD
          clear q_d0 q_d1
          have q_z0 := hkz.get z0
          have q_z1 := hkz.get z1
          go_wp2_with fail
          clear q_z0 q_z1
          have q_z0 := hkz.get z0
          have q_z1 := hkz.get z1
          have tok1 : True := trivial
          go_wp2_with fail
          go_region_held3 (fun w' => w'.cell? ⟨w.heap.size, 0, none⟩ = some (.slice A F.op.length c) ∧ w'.cell? ⟨w.heap.size, 1, none⟩ = some (.slice B F.di.length d) ∧ Kp wx w')
            (first | (refine keepc2 z0 z1 ?_; exact (by repeat (first | with_reducible assumption | with_reducible exact Kp.refl _ | with_reducible refine Kp.drew ?_ | with_reducible refine Kp.alloc ?_ _ | with_reducible refine Kp.drewN ?_ _ | refine Kp.setCell ?_ (by dsimp only; omega) _))) | fail)
            (first
              | (have _t := tok1; go_at_call 29; with_reducible refine Calls.mono (C1.out _ (by repeat (first | with_reducible assumption | with_reducible exact Kp.refl _ | with_reducible refine Kp.drew ?_ | with_reducible refine Kp.alloc ?_ _ | with_reducible refine Kp.drewN ?_ _ | refine Kp.setCell ?_ (by dsimp only; omega) _))) ?_; rintro e wr1 ⟨A', c', rfl, hc', hi', hka⟩; have hr1 : Kp wx wr1 := Kp.trans (by repeat (first | with_reducible assumption | with_reducible exact Kp.refl _ | with_reducible refine Kp.drew ?_ | with_reducible refine Kp.alloc ?_ _ | with_reducible refine Kp.drewN ?_ _ | refine Kp.setCell ?_ (by dsimp only; omega) _)) hka; have tok2 : True := trivial; clear tok1 _t)
              | (have _t := tok2; go_at_call 27; with_reducible refine Calls.mono (C2.out _ (by repeat (first | with_reducible assumption | with_reducible exact Kp.refl _ | with_reducible refine Kp.drew ?_ | with_reducible refine Kp.alloc ?_ _ | with_reducible refine Kp.drewN ?_ _ | refine Kp.setCell ?_ (by dsimp only; omega) _)) A' c' (hi'.kp (by first | with_reducible assumption | exact Kp.refl _ | exact (Kp.refl _).drew)) hc') ?_; rintro e wr2 ⟨rfl, hka⟩; have hr2 : Kp wx wr2 := Kp.trans (by repeat (first | with_reducible assumption | with_reducible exact Kp.refl _ | with_reducible refine Kp.drew ?_ | with_reducible refine Kp.alloc ?_ _ | with_reducible refine Kp.drewN ?_ _ | refine Kp.setCell ?_ (by dsimp only; omega) _)) hka; have tok3 : True := trivial; clear tok2 _t)
              | (have _t := tok3; go_at_call 61; with_reducible refine Calls.mono (C3.out _) ?_; rintro e wr3 ⟨rfl, hw⟩; obtain rfl := hw; have tok4 : True := trivial; clear tok3 _t)
              | fail)
          have hkf := hkr.trans hr2
          go_wp2_with fail
          go_roundw
          case rel => exact ⟨j + 1, _, by omega, by go_num, rfl, Hs, hkf⟩
          case measure => simp [intOf]; omega
      · obtain rfl : j = F.op.length := by omega
        have Hy : Hid ((playN F (n + 1) O).1 = bz) := by show _ = _; rw [← sbest_end Hlen.out]; exact Hst.out
        go_wp2_with fail
        go_ret
        exact ⟨by rw [Hy.out]; rfl, hkw.trans hkr⟩
end Go.Proofs.YtblebedejddefaaGreat

namespace Go.Proofs.YtblebedejddefaaGreat
open Go.RowKit Go.Sort

def fvV (F : Fld) (k : Int) : Int := if duelB F k = true then (playN F (2 * k.toNat) []).1 else 0
theorem fvV_yes {F : Fld} {k : Int} (h : duelB F k = true) : fvV F k = (playN F (2 * k.toNat) []).1 := if_pos h
theorem fvV_no {F : Fld} {k : Int} (h : duelB F k = false) : fvV F k = 0 := if_neg (by simp [h])
theorem duel_parts {F : Fld} {k : Int} (h : duelB F k = true) : goodF F = true ∧ ∃ n : Nat, k = (n : Int) ∧ 1 ≤ n ∧ 2 * n ≤ F.op.length := by
  simp only [duelB, inB, Bool.and_eq_true, decide_eq_true_eq] at h
  obtain ⟨h0, h1, h2⟩ := h
  exact ⟨h0, k.toNat, by omega, by omega, by omega⟩
set_option maxHeartbeats 1000000 in
theorem implFv_any (f : Value) (F : Fld) (k : Int) (w : World) (hf : FldAt w f F) :
    Calls Tryz.prog 6 #[f, .int .i64 k] w fun e w' => e = .returned (.tuple #[.int .i64 (fvV F k), .bool (duelB F k)]) ∧ Kp w w' := by
  obtain ⟨A, c, B, d, rfl, hA, hB⟩ := hf
  have hk0 : Kp w (w.alloc (.cells #[.slice A F.op.length c, .slice B F.di.length d] 27)) := (Kp.refl w).alloc _
  obtain ⟨d0, d1⟩ := box2 w (.slice A F.op.length c) (.slice B F.di.length d) 27
  have hFA := FldAt.kp (show FldAt w (.agg #[.slice A F.op.length c, .slice B F.di.length d]) F from ⟨A, c, B, d, rfl, hA, hB⟩) hk0
  clear hA hB
  have CC := Lib.hid (fun (wx : World) (hx : Kp (w.alloc (.cells #[.slice A F.op.length c, .slice B F.di.length d] 27)) wx) => isDuel_any _ F k wx (hFA.kp hx))
  go_enter Tryz.func6, Tryz.ntmps6
  go_wp2_with fail
  have hsz : Hid ((w.alloc (.cells #[.slice A F.op.length c, .slice B F.di.length d] 27)).heap.size = w.heap.size + 1) := by show _ = _; simp
  generalize w.alloc (.cells #[.slice A F.op.length c, .slice B F.di.length d] 27) = wb at *
  have hkb : Kp wb wb := Kp.refl _
  have hkw := hk0
  have CD := Lib.hid (CC.out wb hkb)
  with_reducible refine Calls.mono CD.out ?_
  rintro e w1 ⟨rfl, hk1⟩
  clear CC CD
  replace hkb := hkb.trans hk1
  cases hg_ : duelB F k
  · have Hno := Lib.hid (fvV_no hg_)
    have HB := Lib.hid hg_
    clear hg_
    have q_d0 := hkb.get d0
    have q_d1 := hkb.get d1
    go_wp2_with fail
    go_ret2
    exact ⟨by rw [Hno.out, HB.out]; rfl, hkw.trans hkb⟩
  have Hy := Lib.hid (fvV_yes hg_)
  have Hd := Lib.hid (duel_parts hg_)
  have HB := Lib.hid hg_
  clear hg_
  obtain ⟨n, hkn, hn1, hn2⟩ := Hd.out.2
  have CC := Lib.hid (play_any F n Hd.out.1 hn1 hn2 (2 * n) _ none [] 0 0 w1 (hFA.kp hkb) (IntsAt.nil _ _) rfl (by omega) ⟨[], [], Duel.nil _⟩)
  have Hkn := Lib.hid hkn
  rw [← Hkn.out] at CC
  clear hkn
  have q_d0 := hkb.get d0
  have q_d1 := hkb.get d1
  go_wp2_with fail
  with_reducible refine Calls.mono CC.out ?_
  rintro e w2 ⟨rfl, hk2⟩
  clear CC
  replace hkb := hkb.trans hk2
  clear q_d0 q_d1
  have q_d0 := hkb.get d0
  have q_d1 := hkb.get d1
  go_wp2_with fail
  go_ret2
  exact ⟨by rw [HB.out, Hy.out, show 2 * k.toNat = 2 * n by rw [Hkn.out]; omega]; rfl, hkw.trans hkb⟩
set_option maxHeartbeats 1000000 in
theorem specFv_any (f : Value) (F : Fld) (k : Int) (w : World) (hf : FldAt w f F) :
    Calls Tryz.prog 7 #[f, .int .i64 k] w fun e w' => e = .returned (.tuple #[.int .i64 (fvV F k), .bool (duelB F k)]) ∧ Kp w w' := by
  obtain ⟨A, c, B, d, rfl, hA, hB⟩ := hf
  have hk0 : Kp w (w.alloc (.cells #[.slice A F.op.length c, .slice B F.di.length d] 27)) := (Kp.refl w).alloc _
  obtain ⟨d0, d1⟩ := box2 w (.slice A F.op.length c) (.slice B F.di.length d) 27
  have hFA := FldAt.kp (show FldAt w (.agg #[.slice A F.op.length c, .slice B F.di.length d]) F from ⟨A, c, B, d, rfl, hA, hB⟩) hk0
  clear hA hB
  have CC := Lib.hid (fun (wx : World) (hx : Kp (w.alloc (.cells #[.slice A F.op.length c, .slice B F.di.length d] 27)) wx) => l9Firms_any _ F k wx (hFA.kp hx))
  go_enter Tryz.func7, Tryz.ntmps7
  go_wp2_with fail
  have hsz : Hid ((w.alloc (.cells #[.slice A F.op.length c, .slice B F.di.length d] 27)).heap.size = w.heap.size + 1) := by show _ = _; simp
  generalize w.alloc (.cells #[.slice A F.op.length c, .slice B F.di.length d] 27) = wb at *
  have hkb : Kp wb wb := Kp.refl _
  have hkw := hk0
  have CD := Lib.hid (CC.out wb hkb)
  with_reducible refine Calls.mono CD.out ?_
  rintro e w1 ⟨rfl, hk1⟩
  clear CC CD
  replace hkb := hkb.trans hk1
  cases hg_ : duelB F k
  · have Hno := Lib.hid (fvV_no hg_)
    have HB := Lib.hid hg_
    clear hg_
    have q_d0 := hkb.get d0
    have q_d1 := hkb.get d1
    go_wp2_with fail
    go_ret2
    exact ⟨by rw [Hno.out, HB.out]; rfl, hkw.trans hkb⟩
  have Hy := Lib.hid (fvV_yes hg_)
  have Hd := Lib.hid (duel_parts hg_)
  have HB := Lib.hid hg_
  clear hg_
  obtain ⟨n, hkn, hn1, hn2⟩ := Hd.out.2
  have Hkn := Lib.hid hkn
  have C0 := Lib.hid (fun (wx : World) (hx : Kp w1 wx) (A1 A2 : Option Addr) => l9Value_any F n Hd.out.1 hn1 hn2 (2 * n) (.agg #[.slice A F.op.length c, .slice B F.di.length d]) A1 A2 [] [] [] 0 0 0 0 wx (hFA.kp (hkb.trans hx)) (IntsAt.nil _ _) rfl (Nat.le_refl _) (IntsAt.nil _ _) rfl (Nat.le_refl _) (by rw [List.length_nil]; omega) (Duel.nil _))
  rw [← Hkn.out] at C0
  clear hkn
  have q_d0 := hkb.get d0
  have q_d1 := hkb.get d1
  go_wp2_with fail
  with_reducible refine Calls.mono (C0.out _ (((Kp.refl _).alloc _).alloc _) _ _) ?_
  rintro e w2 ⟨rfl, hk2⟩
  clear q_d0 q_d1
  clear C0
  go_wp2_with fail
  go_ret2
  exact ⟨by rw [HB.out, Hy.out, show 2 * k.toNat = 2 * n by rw [Hkn.out]; omega]; rfl, (hkw.trans hkb).trans ((((Kp.refl _).alloc _).alloc _).trans hk2)⟩
end Go.Proofs.YtblebedejddefaaGreat

namespace Go.Proofs.YtblebedejddefaaGreat
open Go.RowKit Go.Sort

def fpL (F : Fld) (k : Int) : List Int := if duelB F k = true then outL F (2 * k.toNat) (2 * k.toNat) else []
theorem fpL_yes {F : Fld} {k : Int} {n : Nat} (h : duelB F k = true) (hk : k = (n : Int)) : fpL F k = outL F (2 * n) (2 * n) := by
  unfold fpL
  rw [if_pos h, hk]; simp
theorem fpL_no {F : Fld} {k : Int} (h : duelB F k = false) : fpL F k = [] := if_neg (by simp [h])
theorem fpL_len (F : Fld) (k : Int) : (fpL F k).length ≤ 1048576 := by
  cases h : duelB F k
  · rw [fpL_no h]; simp
  · obtain ⟨hg, n, hk, _, h2⟩ := duel_parts h
    rw [fpL_yes h hk, outL_len]
    have := (goodF_iff.1 hg).1.2
    omega
/-- The sites that are opened belong to the two firms in turn. -/
theorem out_duel {F : Fld} {n : Nat} (h2 : 2 * n ≤ F.op.length) : ∀ i, i ≤ 2 * n → ∃ X Y, Duel F.op.length (outL F (2 * n) i) X Y
  | 0, _ => ⟨[], [], Duel.nil _⟩
  | i + 1, hi => by
    obtain ⟨X, Y, hd⟩ := out_duel h2 i (by omega)
    obtain ⟨s, h1, h3, h4, _⟩ := play_site F (2 * n - i - 1) (O := outL F (2 * n) i) (by rw [outL_len]; omega)
    rw [show 2 * n - i - 1 + 1 = 2 * n - i by omega] at h1
    show ∃ X Y, Duel F.op.length (outL F (2 * n) i ++ [(playN F (2 * n - i) (outL F (2 * n) i)).2]) X Y
    rw [h1]
    rcases Nat.mod_two_eq_zero_or_one (outL F (2 * n) i).length with h0 | h0
    · exact ⟨_, _, hd.one h3 h4 h0⟩
    · exact ⟨_, _, hd.two h3 h4 h0⟩
set_option maxRecDepth 100000 in
set_option maxHeartbeats 1000000 in
theorem implFp_any (f : Value) (F : Fld) (k : Int) (w : World) (hf : FldAt w f F) :
    Calls Tryz.prog 8 #[f, .int .i64 k] w fun e w' => ∃ v, e = .returned (.tuple #[v, .bool (duelB F k)]) ∧ Own w' w.heap.size v (fpL F k) ∧ Kp w w' := by
  obtain ⟨A, c, B, d, rfl, hA, hB⟩ := hf
  have hk0 : Kp w (w.alloc (.cells #[.slice A F.op.length c, .slice B F.di.length d] 27)) := (Kp.refl w).alloc _
  obtain ⟨d0, d1⟩ := box2 w (.slice A F.op.length c) (.slice B F.di.length d) 27
  have hFA := FldAt.kp (show FldAt w (.agg #[.slice A F.op.length c, .slice B F.di.length d]) F from ⟨A, c, B, d, rfl, hA, hB⟩) hk0
  clear hA hB
  have CC := Lib.hid (fun (wx : World) (hx : Kp (w.alloc (.cells #[.slice A F.op.length c, .slice B F.di.length d] 27)) wx) => isDuel_any _ F k wx (hFA.kp hx))
  go_enter Tryz.func8, Tryz.ntmps8
  go_wp2_with fail
  have hsz : Hid ((w.alloc (.cells #[.slice A F.op.length c, .slice B F.di.length d] 27)).heap.size = w.heap.size + 1) := by show _ = _; simp
  generalize w.alloc (.cells #[.slice A F.op.length c, .slice B F.di.length d] 27) = wb at *
  have hkb : Kp wb wb := Kp.refl _
  have hkw := hk0
  have CD := Lib.hid (CC.out wb hkb)
  with_reducible refine Calls.mono CD.out ?_
  rintro e w1 ⟨rfl, hk1⟩
  clear CC CD
  replace hkb := hkb.trans hk1
  cases hg_ : duelB F k
  · have Hno := Lib.hid (fpL_no hg_)
    have HB := Lib.hid hg_
    clear hg_
    have q_d0 := hkb.get d0
    have q_d1 := hkb.get d1
    go_wp2_with fail
    go_ret2
    exact ⟨_, by rw [HB.out]; rfl, by rw [Hno.out]; exact Own.nil _ _, hkw.trans hkb⟩
  have Hd := Lib.hid (duel_parts hg_)
  have HB := Lib.hid hg_
  clear hg_
  obtain ⟨n, hkn, hn1, hn2⟩ := Hd.out.2
  have Hfp := Lib.hid (fpL_yes HB.out hkn)
  have h7 := (goodF_iff.1 Hd.out.1).1.2
  subst hkn
  have hwr : IntKind.i64.wrap (2 * (n : Int)) = 2 * (n : Int) := IntWalk.i64_in _ (by omega)
  have hFl := hFA.kp hkb
  have g0 := hkb.get d0
  have g1 := hkb.get d1
  have hkl := hkw.trans hkb
  obtain ⟨wl, rfl⟩ : ∃ wl : World, wl = w1 := ⟨_, rfl⟩
  have ho0 := own_new0 wl wl.heap.size (Nat.le_refl _)
  have hkn0 := (Kp.refl wl).alloc (.cells #[] 3)
  go_wp2_with fail
  go_loopw [6] (fun ov wr => ∃ i : Nat, i ≤ 2 * n ∧ (∃ Ao co, ov = .slice Ao i co) ∧ Own wr wl.heap.size ov (outL F (2 * n) i) ∧ Kp wl wr) (fun ov _ => 2 * n - (match ov with | .slice _ l _ => l | _ => 0))
  case atStart => exact ⟨0, by omega, ⟨_, _, rfl⟩, ho0, hkn0⟩
  case round =>
    clear ho0 hkn0
    obtain ⟨i, hi, ⟨Ao, co, rfl⟩, hoi, hkr⟩ := hrel
    have z0 := hkr.get g0
    have z1 := hkr.get g1
    have hll := outL_len F (2 * n) i
    by_cases hlt : i < 2 * n
    · have hltI : (i : Int) < 2 * (n : Int) := by omega
      have CC := Lib.hid (play_any F n Hd.out.1 hn1 hn2 (2 * n - i) _ Ao (outL F (2 * n) i) i co wr (hFl.kp hkr) (hoi.intsOf (by omega)) hll (by omega) (out_duel hn2 i hi))
      obtain ⟨sv, Hsv⟩ : ∃ z, Hid ((playN F (2 * n - i) (outL F (2 * n) i)).2 = z) := ⟨_, Lib.hid rfl⟩
      rw [Hsv.out] at CC
      have Hs : Hid (outL F (2 * n) (i + 1) = outL F (2 * n) i ++ [sv]) := by show _ = _; rw [← Hsv.out]; rfl
      go_wp2_with fail
      with_reducible refine Calls.mono CC.out ?_
      rintro e w5 ⟨rfl, hk5⟩
      clear CC z0 z1
      have ho5 := hoi.kp hk5
      have hk6 := hkr.trans hk5
      have hlen2 : (outL F (2 * n) i).length < 1048576 := by omega
      go_wp2_with (at_builtin; go_loud (refine wpl_app rfl (.tmp 26) (.tmp 28) rfl wl.heap.size _ (outL F (2 * n) i) sv rfl rfl ho5 hk6.le hlen2 ?_; intro v' w' ho' ht' h4'))
      obtain ⟨A', c', hv'⟩ := ho'.shape
      rw [List.length_append, hll] at hv'
      subst hv'
      go_wp2_with fail
      go_roundw
      case rel => exact ⟨i + 1, by omega, ⟨_, _, rfl⟩, by rw [Hs.out]; exact ho', Own.kp_turn ho5 hk6 (Nat.le_refl _) ht'⟩
      case measure => show 2 * n - (i + 1) < 2 * n - i; omega
    · obtain rfl : i = 2 * n := by omega
      go_wp2_with fail
      go_ret2
      exact ⟨_, by rw [HB.out]; rfl, by rw [Hfp.out]; exact hoi.mono hkl.le, hkl.trans hkr⟩
theorem apartF {w w' : World} {base base' : Nat} {v u : Value} {xs ys : List Int} (h : Own w base v xs) (h' : Own w' base' u ys) (hl : w.heap.size ≤ base') : Apart v u := fun g hg hu => by
  have h1 := (h.lt g hg).2
  have h2 := (h'.lt g hu).1
  omega
theorem apartF_sym {v u : Value} (h : Apart v u) : Apart u v := fun g hu hv => h g hv hu
/-- The reference's state between two openings. -/
structure FpS (wr : World) (lo : Nat) (ov fv sv : Value) (out X Y : List Int) : Prop where
  oo : Own wr lo ov out
  ox : Own wr lo fv X
  oy : Own wr lo sv Y
  ax : Apart ov fv
  ay : Apart ov sv
theorem FpS.kp {wr w' : World} {lo : Nat} {ov fv sv : Value} {out X Y : List Int} (h : FpS wr lo ov fv sv out X Y) (hk : Kp wr w') : FpS w' lo ov fv sv out X Y :=
  ⟨h.oo.kp hk, h.ox.kp hk, h.oy.kp hk, h.ax, h.ay⟩
theorem FpS.first {wr w' : World} {lo : Nat} {ov fv sv fv' : Value} {out X X' Y : List Int} (h : FpS wr lo ov fv sv out X Y) (hk : Kp wr w') (hn : Own w' wr.heap.size fv' X') (hl : lo ≤ wr.heap.size) : FpS w' lo ov fv' sv out X' Y :=
  ⟨h.oo.kp hk, hn.mono hl, h.oy.kp hk, apartF h.oo hn (Nat.le_refl _), h.ay⟩
theorem FpS.second {wr w' : World} {lo : Nat} {ov fv sv sv' : Value} {out X Y Y' : List Int} (h : FpS wr lo ov fv sv out X Y) (hk : Kp wr w') (hn : Own w' wr.heap.size sv' Y') (hl : lo ≤ wr.heap.size) : FpS w' lo ov fv sv' out X Y' :=
  ⟨h.oo.kp hk, h.ox.kp hk, hn.mono hl, h.ax, apartF h.oo hn (Nat.le_refl _)⟩
theorem FpS.app {W w' : World} {lo : Nat} {ov fv sv ov' : Value} {out out' X Y : List Int} (h : FpS W lo ov fv sv out X Y) (ho : Own w' lo ov' out') (ht : Turn (fun i => ov.ownBlock = some i) W w') (h4 : ov'.ownBlock = ov.ownBlock ∨ ∀ g, ov'.ownBlock = some g → W.heap.size ≤ g) : FpS w' lo ov' fv sv out' X Y :=
  ⟨ho, h.ox.turn ht (fun g hg e => h.ax g e hg), h.oy.turn ht (fun g hg e => h.ay g e hg), h.ax.grow h.ox h4, h.ay.grow h.oy h4⟩
set_option maxRecDepth 100000 in
set_option maxHeartbeats 2000000 in
theorem specFp_any (f : Value) (F : Fld) (k : Int) (w : World) (hf : FldAt w f F) :
    Calls Tryz.prog 9 #[f, .int .i64 k] w fun e w' => ∃ v, e = .returned (.tuple #[v, .bool (duelB F k)]) ∧ Own w' w.heap.size v (fpL F k) ∧ Kp w w' := by
  obtain ⟨A, c, B, d, rfl, hA, hB⟩ := hf
  have hk0 : Kp w (w.alloc (.cells #[.slice A F.op.length c, .slice B F.di.length d] 27)) := (Kp.refl w).alloc _
  obtain ⟨d0, d1⟩ := box2 w (.slice A F.op.length c) (.slice B F.di.length d) 27
  have hFA := FldAt.kp (show FldAt w (.agg #[.slice A F.op.length c, .slice B F.di.length d]) F from ⟨A, c, B, d, rfl, hA, hB⟩) hk0
  clear hA hB
  go_enter Tryz.func9, Tryz.ntmps9
  go_wp2_with fail
  have hsz : Hid ((w.alloc (.cells #[.slice A F.op.length c, .slice B F.di.length d] 27)).heap.size = w.heap.size + 1) := by show _ = _; simp
  generalize w.alloc (.cells #[.slice A F.op.length c, .slice B F.di.length d] 27) = wb at *
  have hkb : Kp wb wb := Kp.refl _
  have hkw := hk0
  have ho0 := own_new0 wb wb.heap.size (Nat.le_refl _)
  have hwbl := hkw.le
  have hkn := (Kp.refl wb).alloc (.cells #[] 3)
  have q_0 := hkn.get d0
  have q_1 := hkn.get d1
  have CC := Lib.hid (l9Firms_any _ F k _ (hFA.kp hkn))
  have Hbs : Hid (wb.heap.size = w.heap.size + 1) := hsz
  rw [hsz.out] at ho0
  go_wp2_with fail
  with_reducible refine Calls.mono CC.out ?_
  rintro e w1 ⟨rfl, hk1⟩
  clear CC q_0 q_1
  replace hkb := hkn.trans hk1
  have ho1 := ho0.kp hk1
  clear ho0
  cases hg_ : duelB F k
  · have Hno := Lib.hid (fpL_no hg_)
    have HB := Lib.hid hg_
    clear hg_
    have q_d0 := hkb.get d0
    have q_d1 := hkb.get d1
    go_wp2_with fail
    go_ret2
    exact ⟨_, by rw [HB.out]; rfl, by rw [Hno.out]; exact ho1.mono (by omega), hkw.trans hkb⟩
  have Hd := Lib.hid (duel_parts hg_)
  have HB := Lib.hid hg_
  clear hg_
  obtain ⟨n, hkn', hn1, hn2⟩ := Hd.out.2
  have Hfp := Lib.hid (fpL_yes HB.out hkn')
  have h7 := (goodF_iff.1 Hd.out.1).1.2
  subst hkn'
  have hwr : IntKind.i64.wrap (2 * (n : Int)) = 2 * (n : Int) := IntWalk.i64_in _ (by omega)
  have hFl := hFA.kp hkb
  have g0 := hkb.get d0
  have g1 := hkb.get d1
  have hw1 := hk1.le
  rw [World.size_alloc, hsz.out] at hw1
  have hlw1 : wb.heap.size ≤ w1.heap.size := hkb.le
  have hx0 := own_new0 w1 wb.heap.size hlw1
  have hx1 := (Kp.refl w1).alloc (.cells #[] 3)
  have hy0 := own_new0 (w1.alloc (.cells #[] 3)) wb.heap.size (Nat.le_trans hlw1 hx1.le)
  have hy1 := hx1.alloc (.cells #[] 3)
  rw [World.size_alloc] at hy0
  have HS0 : Hid (FpS ((w1.alloc (.cells #[] 3)).alloc (.cells #[] 3)) wb.heap.size (.slice (some ⟨w.heap.size + 1, 0, none⟩) 0 0) (.slice (some ⟨w1.heap.size, 0, none⟩) 0 0) (.slice (some ⟨w1.heap.size + 1, 0, none⟩) 0 0) [] [] []) := by
    refine ⟨(ho1.mono (by rw [hsz.out]; exact Nat.le_refl _)).kp hy1, hx0.kp ((Kp.refl _).alloc _), hy0, fun g hg hu => ?_, fun g hg hu => ?_⟩
    · have e1 : g = w.heap.size + 1 := by simpa [Value.ownBlock] using hg.symm
      have e2 : g = w1.heap.size := by simpa [Value.ownBlock] using hu.symm
      omega
    · have e1 : g = w.heap.size + 1 := by simpa [Value.ownBlock] using hg.symm
      have e2 : g = w1.heap.size + 1 := by simpa [Value.ownBlock] using hu.symm
      omega
  have hkl0 := hkb.trans hy1
  clear hx0 hx1 hy0 ho1 hkn hw1 hk1
  go_wp2_with fail
  go_loopw [6, 7, 8] (fun ov fv sv wr => ∃ (i : Nat) (X Y : List Int) (Ao Ax Ay : Option Addr) (co cx cy : Nat), i ≤ 2 * n ∧ ov = .slice Ao i co ∧ fv = .slice Ax X.length cx ∧ sv = .slice Ay Y.length cy ∧ Hid (FpS wr wb.heap.size (.slice Ao i co) (.slice Ax X.length cx) (.slice Ay Y.length cy) (outL F (2 * n) i) X Y) ∧ Hid (Duel F.op.length (outL F (2 * n) i) X Y) ∧ Kp wb wr) (fun ov _ _ _ => 2 * n - (match ov with | .slice _ l _ => l | _ => 0))
  case atStart => exact ⟨0, [], [], _, _, _, _, _, _, by omega, rfl, rfl, rfl, HS0.out, Duel.nil _, hkl0⟩
  case round =>
    clear HS0 hkl0 g0 g1 hy1
    obtain ⟨i, X, Y, Ao, Ax, Ay, co, cx, cy, hi, rfl, rfl, rfl, HS, HD, hkr⟩ := hrel
    have z0 := hkr.get d0
    have z1 := hkr.get d1
    have hll := outL_len F (2 * n) i
    have HX := Lib.hid HD.out.lx
    have HY := Lib.hid HD.out.ly
    have hlx7 : X.length ≤ 7 := by have := HX.out; omega
    have hly7 : Y.length ≤ 7 := by have := HY.out; omega
    have hcx : X.length ≤ cx := Own.capL HS.out.ox rfl
    have hcy : Y.length ≤ cy := Own.capL HS.out.oy rfl
    by_cases hlt : i < 2 * n
    · have hltI : (i : Int) < 2 * (n : Int) := by omega
      have CC := Lib.hid (l9Value_any F n Hd.out.1 hn1 hn2 (2 * n - i) _ Ax Ay (outL F (2 * n) i) X Y X.length cx Y.length cy wr (hFA.kp hkr) (HS.out.ox.intsOf (by omega)) rfl hcx (HS.out.oy.intsOf (by omega)) rfl hcy (by omega) HD.out)
      have Hps := Lib.hid (play_site F (2 * n - i - 1) (O := outL F (2 * n) i) (by omega))
      rw [show 2 * n - i - 1 + 1 = 2 * n - i by omega] at Hps
      have hpb := play_bd F (2 * n - i) (outL F (2 * n) i)
      obtain ⟨bz, Hbz⟩ : ∃ z, Hid ((playN F (2 * n - i) (outL F (2 * n) i)).1 = z) := ⟨_, Lib.hid rfl⟩
      rw [Hbz.out] at CC Hps hpb
      obtain ⟨s, hs1, hs2, hs3, hs4, hs5⟩ := Hps.out
      have Hs1 := Lib.hid hs1; have Hs3 := Lib.hid hs3; have Hs4 := Lib.hid hs4; have Hs5 := Lib.hid hs5
      have Hout : Hid (outL F (2 * n) (i + 1) = outL F (2 * n) i ++ [(s : Int)]) := by show _ = _; rw [← Hs1.out]; rfl
      have hev : ((X.length : Int) == (Y.length : Int)) = evL (outL F (2 * n) i) := by
        unfold evL
        rw [Bool.eq_iff_iff, beq_iff_eq, decide_eq_true_eq]
        have := HD.out.same
        omega
      clear hs1 hs3 hs4 hs5 Hps
      go_wp2_with fail
      with_reducible refine Calls.mono CC.out ?_
      rintro e w5 ⟨rfl, hk5⟩
      clear CC z0 z1
      have HS5 := Lib.hid (HS.out.kp hk5)
      have hkr5 := hkr.trans hk5
      clear HS hkr hk5
      obtain ⟨wm, rfl⟩ : ∃ wm : World, wm = w5 := ⟨_, rfl⟩
      have z0 := hkr5.get d0
      have z1 := hkr5.get d1
      cases he : evL (outL F (2 * n) i)
      · rw [he] at hev
        have hpar : (outL F (2 * n) i).length % 2 = 1 := by have := of_decide_eq_false he; omega
        clear he
        go_wp2_with fail
        go_loopw [10] (fun av wr => ∃ a : Nat, a ≤ s ∧ av = .int .i64 a ∧ Kp wm wr) (fun av _ => s + 1 - (intOf av).toNat)
        case atStart => exact ⟨0, by omega, rfl, Kp.refl _⟩
        case round =>
          obtain ⟨a, ha, rfl, hkA⟩ := hrel
          obtain ⟨wx, rfl⟩ : ∃ wx : World, wx = wr := ⟨_, rfl⟩
          have y0 := hkA.get z0
          have y1 := hkA.get z1
          have hFx := hFA.kp (hkr5.trans hkA)
          have hoi := (HS5.out.oo.intsOf (by omega)).kp hkA
          have h1i := (HS5.out.ox.intsOf (by omega)).kp hkA
          have h2i := (HS5.out.oy.intsOf (by omega)).kp hkA
          have hany : ((outL F (2 * n) i).any fun x => x == (a : Int)) = decide ((a : Int) ∈ outL F (2 * n) i) := by
            rw [Bool.eq_iff_iff, List.any_eq_true, decide_eq_true_eq]
            exact ⟨fun ⟨x, hx, e⟩ => (eq_of_beq e) ▸ hx, fun h => ⟨_, h, by simp⟩⟩
          by_cases hin : (a : Int) ∈ outL F (2 * n) i
          · have hlts : a < s := by
              rcases Nat.lt_or_eq_of_le ha with h | h
              · exact h
              · subst h; exact absurd hin Hs3.out
            have Cq := Lib.hid (fun m => Calls.same_quiet (l1Has_any Ao (outL F (2 * n) i) i co (a : Int) (wx.drewN m) (hoi.drewN m) hll))
            rw [hany, decide_eq_true hin] at Cq
            clear hany hin h1i h2i hoi
            go_wp2_with fail
            go_quiet (exact Cq.out _)
            go_wp2_with fail
            go_roundw
            case rel => exact ⟨a + 1, by omega, by go_num, hkA.drewN nq⟩
            case measure => simp [intOf]; omega
          · have Hin := Lib.hid hin
            have C0 := Lib.hid (fun (w' : World) (hx : Kp wx w') => l1Has_any Ao (outL F (2 * n) i) i co (a : Int) w' (hoi.kp hx) hll)
            rw [hany, decide_eq_false hin] at C0
            have C1 := Lib.hid (fun (w' : World) (hx : Kp wx w') => l1Put_any Ay Y Y.length cy (a : Int) w' (h2i.kp hx) rfl HD.out.sy hcy (by omega))
            have IH0 := l9Value_any F n Hd.out.1 hn1 hn2 (2 * n - i - 1)
            have C2 := Lib.hid (fun (w' : World) (hx : Kp wx w') (A' : Option Addr) (c' : Nat) (hi : IntsAt w' A' (putL Y (a : Int))) (hc : (putL Y (a : Int)).length ≤ c') => (show Calls Tryz.prog 27 #[.agg #[.slice A F.op.length c, .slice B F.di.length d], .int .i64 (n : Int), .slice Ax X.length cx, .slice A' (putL Y (a : Int)).length c'] w' (fun e w'' => e = .returned (.int .i64 (pval F (2 * n - i - 1) (outL F (2 * n) i) a)) ∧ Kp w' w'') from
              IH0 _ Ax A' (outL F (2 * n) i ++ [(a : Int)]) X (putL Y (a : Int)) X.length cx _ c' w' (hFx.kp hx) (h1i.kp hx) rfl hcx hi rfl hc (by rw [List.length_append, List.length_singleton]; omega) (HD.out.two (by omega) Hin.out hpar)))
            clear hany hin IH0
            obtain ⟨vz, Hvz⟩ : ∃ z, Hid (pval F (2 * n - i - 1) (outL F (2 * n) i) a = z) := ⟨_, Lib.hid rfl⟩
            rw [Hvz.out] at C2
            have hkz : Kp wx wx := Kp.refl _
            have q_d0 := hkb.get d0
            have q_d1 := hkb.get d1
            have q_y0 := hkz.get y0
            have q_y1 := hkz.get y1
            go_wp2_with fail
            clear q_d0 q_d1 q_y0 q_y1
            have q_y0 := hkz.get y0
            have q_y1 := hkz.get y1
            have tok1 : True := trivial
            go_wp2_with fail
            go_region_held3 (fun w' => w'.cell? ⟨w.heap.size, 0, none⟩ = some (.slice A F.op.length c) ∧ w'.cell? ⟨w.heap.size, 1, none⟩ = some (.slice B F.di.length d) ∧ Kp wx w')
              (first | (refine keepc2 y0 y1 ?_; exact (by repeat (first | with_reducible assumption | with_reducible exact Kp.refl _ | with_reducible refine Kp.drew ?_ | with_reducible refine Kp.alloc ?_ _ | with_reducible refine Kp.drewN ?_ _ | refine Kp.setCell ?_ (by dsimp only; omega) _))) | fail)
              (first
                | (have _t := tok1; go_at_call 28; with_reducible refine Calls.mono (C0.out _ (by repeat (first | with_reducible assumption | with_reducible exact Kp.refl _ | with_reducible refine Kp.drew ?_ | with_reducible refine Kp.alloc ?_ _ | with_reducible refine Kp.drewN ?_ _ | refine Kp.setCell ?_ (by dsimp only; omega) _))) ?_; rintro e wr1 ⟨rfl, hw⟩; obtain rfl := hw; have tok2 : True := trivial; clear tok1 _t)
                | (have _t := tok2; go_at_call 29; with_reducible refine Calls.mono (C1.out _ (by repeat (first | with_reducible assumption | with_reducible exact Kp.refl _ | with_reducible refine Kp.drew ?_ | with_reducible refine Kp.alloc ?_ _ | with_reducible refine Kp.drewN ?_ _ | refine Kp.setCell ?_ (by dsimp only; omega) _))) ?_; rintro e wr2 ⟨A', c', rfl, hc', hi', hka⟩; have hr2 : Kp wx wr2 := Kp.trans (by repeat (first | with_reducible assumption | with_reducible exact Kp.refl _ | with_reducible refine Kp.drew ?_ | with_reducible refine Kp.alloc ?_ _ | with_reducible refine Kp.drewN ?_ _ | refine Kp.setCell ?_ (by dsimp only; omega) _)) hka; have tok3 : True := trivial; clear tok2 _t)
                | (have _t := tok3; go_at_call 27; with_reducible refine Calls.mono (C2.out _ (by repeat (first | with_reducible assumption | with_reducible exact Kp.refl _ | with_reducible refine Kp.drew ?_ | with_reducible refine Kp.alloc ?_ _ | with_reducible refine Kp.drewN ?_ _ | refine Kp.setCell ?_ (by dsimp only; omega) _)) A' c' (hi'.kp (by first | with_reducible assumption | exact Kp.refl _ | exact (Kp.refl _).drew)) hc') ?_; rintro e wr3 ⟨rfl, hka⟩; have hr3 : Kp wx wr3 := Kp.trans (by repeat (first | with_reducible assumption | with_reducible exact Kp.refl _ | with_reducible refine Kp.drew ?_ | with_reducible refine Kp.alloc ?_ _ | with_reducible refine Kp.drewN ?_ _ | refine Kp.setCell ?_ (by dsimp only; omega) _)) hka; have tok4 : True := trivial; clear tok3 _t)
                | fail)
            have hkf := hkA.trans hr3
            clear C0 C1 C2 hi' hc'
            by_cases es : a = s
            · subst es
              have hne : (vz != bz) = false := by rw [← Hvz.out, ← Hs4.out]; simp
              have hni : (a : Int) ∉ Y := fun h => Hin.out (HD.out.mem.2 (.inr h))
              have CC := Lib.hid (l1Put_new Ay Y Y.length cy (a : Int) wr3 (h2i.kp hr3) rfl HD.out.sy hcy (by omega) hni)
              clear hni
              go_wp2_with fail
              with_reducible refine Calls.mono CC.out ?_
              rintro e w7 ⟨v7, rfl, ho7, hk7⟩
              clear CC
              obtain ⟨A7, c7, hv7⟩ := ho7.shape
              subst hv7
              have HS7 := Lib.hid ((HS5.out.kp hkf).second hk7 ho7 (hkr5.trans hkf).le)
              have hk8 := (hkr5.trans hkf).trans hk7
              have hlen2 : (outL F (2 * n) i).length < 1048576 := by omega
              have hoo := HS7.out.oo
              go_wp2_with (at_builtin; go_loud (refine wpl_app rfl (.tmp 72) (.tmp 74) rfl wb.heap.size _ (outL F (2 * n) i) (a : Int) rfl rfl hoo hk8.le hlen2 ?_; intro v' w' ho' ht' h4'))
              obtain ⟨A', c', hv'⟩ := ho'.shape
              rw [List.length_append, hll] at hv'
              subst hv'
              have HS9 := Lib.hid (HS7.out.app ho' ht' h4')
              rw [← Hout.out] at HS9
              have HD9 := Lib.hid (HD.out.two (show a < F.op.length by omega) Hin.out hpar)
              rw [← Hout.out] at HD9
              have hk9 := Own.kp_turn hoo hk8 (Nat.le_refl _) ht'
              clear hoo ho7 ho' ht' h4'
              go_wp2_with fail
              go_roundw
              case rel => exact ⟨i + 1, X, (putL Y (a : Int)), _, _, _, _, _, _, by omega, rfl, rfl, rfl, HS9, HD9, hk9⟩
              case measure => show 2 * n - (i + 1) < 2 * n - i; omega
            · have hne : (vz != bz) = true := by
                have := Hs5.out a (by omega) Hin.out
                rw [Hvz.out] at this
                simpa using this
              go_wp2_with fail
              go_roundw
              case rel => exact ⟨a + 1, by omega, by go_num, hkf⟩
              case measure => simp [intOf]; omega
      · rw [he] at hev
        have hpar : (outL F (2 * n) i).length % 2 = 0 := of_decide_eq_true he
        clear he
        go_wp2_with fail
        go_loopw [10] (fun av wr => ∃ a : Nat, a ≤ s ∧ av = .int .i64 a ∧ Kp wm wr) (fun av _ => s + 1 - (intOf av).toNat)
        case atStart => exact ⟨0, by omega, rfl, Kp.refl _⟩
        case round =>
          obtain ⟨a, ha, rfl, hkA⟩ := hrel
          obtain ⟨wx, rfl⟩ : ∃ wx : World, wx = wr := ⟨_, rfl⟩
          have y0 := hkA.get z0
          have y1 := hkA.get z1
          have hFx := hFA.kp (hkr5.trans hkA)
          have hoi := (HS5.out.oo.intsOf (by omega)).kp hkA
          have h1i := (HS5.out.ox.intsOf (by omega)).kp hkA
          have h2i := (HS5.out.oy.intsOf (by omega)).kp hkA
          have hany : ((outL F (2 * n) i).any fun x => x == (a : Int)) = decide ((a : Int) ∈ outL F (2 * n) i) := by
            rw [Bool.eq_iff_iff, List.any_eq_true, decide_eq_true_eq]
            exact ⟨fun ⟨x, hx, e⟩ => (eq_of_beq e) ▸ hx, fun h => ⟨_, h, by simp⟩⟩
          by_cases hin : (a : Int) ∈ outL F (2 * n) i
          · have hlts : a < s := by
              rcases Nat.lt_or_eq_of_le ha with h | h
              · exact h
              · subst h; exact absurd hin Hs3.out
            have Cq := Lib.hid (fun m => Calls.same_quiet (l1Has_any Ao (outL F (2 * n) i) i co (a : Int) (wx.drewN m) (hoi.drewN m) hll))
            rw [hany, decide_eq_true hin] at Cq
            clear hany hin h1i h2i hoi
            go_wp2_with fail
            go_quiet (exact Cq.out _)
            go_wp2_with fail
            go_roundw
            case rel => exact ⟨a + 1, by omega, by go_num, hkA.drewN nq⟩
            case measure => simp [intOf]; omega
          · have Hin := Lib.hid hin
            have C0 := Lib.hid (fun (w' : World) (hx : Kp wx w') => l1Has_any Ao (outL F (2 * n) i) i co (a : Int) w' (hoi.kp hx) hll)
            rw [hany, decide_eq_false hin] at C0
            have C1 := Lib.hid (fun (w' : World) (hx : Kp wx w') => l1Put_any Ax X X.length cx (a : Int) w' (h1i.kp hx) rfl HD.out.sx hcx (by omega))
            have IH0 := l9Value_any F n Hd.out.1 hn1 hn2 (2 * n - i - 1)
            have C2 := Lib.hid (fun (w' : World) (hx : Kp wx w') (A' : Option Addr) (c' : Nat) (hi : IntsAt w' A' (putL X (a : Int))) (hc : (putL X (a : Int)).length ≤ c') => (show Calls Tryz.prog 27 #[.agg #[.slice A F.op.length c, .slice B F.di.length d], .int .i64 (n : Int), .slice A' (putL X (a : Int)).length c', .slice Ay Y.length cy] w' (fun e w'' => e = .returned (.int .i64 (pval F (2 * n - i - 1) (outL F (2 * n) i) a)) ∧ Kp w' w'') from
              IH0 _ A' Ay (outL F (2 * n) i ++ [(a : Int)]) (putL X (a : Int)) Y _ c' Y.length cy w' (hFx.kp hx) hi rfl hc (h2i.kp hx) rfl hcy (by rw [List.length_append, List.length_singleton]; omega) (HD.out.one (by omega) Hin.out hpar)))
            clear hany hin IH0
            obtain ⟨vz, Hvz⟩ : ∃ z, Hid (pval F (2 * n - i - 1) (outL F (2 * n) i) a = z) := ⟨_, Lib.hid rfl⟩
            rw [Hvz.out] at C2
            have hkz : Kp wx wx := Kp.refl _
            have q_d0 := hkb.get d0
            have q_d1 := hkb.get d1
            have q_y0 := hkz.get y0
            have q_y1 := hkz.get y1
            go_wp2_with fail
            clear q_d0 q_d1 q_y0 q_y1
            have q_y0 := hkz.get y0
            have q_y1 := hkz.get y1
            have tok1 : True := trivial
            go_wp2_with fail
            go_region_held3 (fun w' => w'.cell? ⟨w.heap.size, 0, none⟩ = some (.slice A F.op.length c) ∧ w'.cell? ⟨w.heap.size, 1, none⟩ = some (.slice B F.di.length d) ∧ Kp wx w')
              (first | (refine keepc2 y0 y1 ?_; exact (by repeat (first | with_reducible assumption | with_reducible exact Kp.refl _ | with_reducible refine Kp.drew ?_ | with_reducible refine Kp.alloc ?_ _ | with_reducible refine Kp.drewN ?_ _ | refine Kp.setCell ?_ (by dsimp only; omega) _))) | fail)
              (first
                | (have _t := tok1; go_at_call 28; with_reducible refine Calls.mono (C0.out _ (by repeat (first | with_reducible assumption | with_reducible exact Kp.refl _ | with_reducible refine Kp.drew ?_ | with_reducible refine Kp.alloc ?_ _ | with_reducible refine Kp.drewN ?_ _ | refine Kp.setCell ?_ (by dsimp only; omega) _))) ?_; rintro e wr1 ⟨rfl, hw⟩; obtain rfl := hw; have tok2 : True := trivial; clear tok1 _t)
                | (have _t := tok2; go_at_call 29; with_reducible refine Calls.mono (C1.out _ (by repeat (first | with_reducible assumption | with_reducible exact Kp.refl _ | with_reducible refine Kp.drew ?_ | with_reducible refine Kp.alloc ?_ _ | with_reducible refine Kp.drewN ?_ _ | refine Kp.setCell ?_ (by dsimp only; omega) _))) ?_; rintro e wr2 ⟨A', c', rfl, hc', hi', hka⟩; have hr2 : Kp wx wr2 := Kp.trans (by repeat (first | with_reducible assumption | with_reducible exact Kp.refl _ | with_reducible refine Kp.drew ?_ | with_reducible refine Kp.alloc ?_ _ | with_reducible refine Kp.drewN ?_ _ | refine Kp.setCell ?_ (by dsimp only; omega) _)) hka; have tok3 : True := trivial; clear tok2 _t)
                | (have _t := tok3; go_at_call 27; with_reducible refine Calls.mono (C2.out _ (by repeat (first | with_reducible assumption | with_reducible exact Kp.refl _ | with_reducible refine Kp.drew ?_ | with_reducible refine Kp.alloc ?_ _ | with_reducible refine Kp.drewN ?_ _ | refine Kp.setCell ?_ (by dsimp only; omega) _)) A' c' (hi'.kp (by first | with_reducible assumption | exact Kp.refl _ | exact (Kp.refl _).drew)) hc') ?_; rintro e wr3 ⟨rfl, hka⟩; have hr3 : Kp wx wr3 := Kp.trans (by repeat (first | with_reducible assumption | with_reducible exact Kp.refl _ | with_reducible refine Kp.drew ?_ | with_reducible refine Kp.alloc ?_ _ | with_reducible refine Kp.drewN ?_ _ | refine Kp.setCell ?_ (by dsimp only; omega) _)) hka; have tok4 : True := trivial; clear tok3 _t)
                | fail)
            have hkf := hkA.trans hr3
            clear C0 C1 C2 hi' hc'
            by_cases es : a = s
            · subst es
              have hne : (vz != bz) = false := by rw [← Hvz.out, ← Hs4.out]; simp
              have hni : (a : Int) ∉ X := fun h => Hin.out (HD.out.mem.2 (.inl h))
              have CC := Lib.hid (l1Put_new Ax X X.length cx (a : Int) wr3 (h1i.kp hr3) rfl HD.out.sx hcx (by omega) hni)
              clear hni
              go_wp2_with fail
              with_reducible refine Calls.mono CC.out ?_
              rintro e w7 ⟨v7, rfl, ho7, hk7⟩
              clear CC
              obtain ⟨A7, c7, hv7⟩ := ho7.shape
              subst hv7
              have HS7 := Lib.hid ((HS5.out.kp hkf).first hk7 ho7 (hkr5.trans hkf).le)
              have hk8 := (hkr5.trans hkf).trans hk7
              have hlen2 : (outL F (2 * n) i).length < 1048576 := by omega
              have hoo := HS7.out.oo
              go_wp2_with (at_builtin; go_loud (refine wpl_app rfl (.tmp 72) (.tmp 74) rfl wb.heap.size _ (outL F (2 * n) i) (a : Int) rfl rfl hoo hk8.le hlen2 ?_; intro v' w' ho' ht' h4'))
              obtain ⟨A', c', hv'⟩ := ho'.shape
              rw [List.length_append, hll] at hv'
              subst hv'
              have HS9 := Lib.hid (HS7.out.app ho' ht' h4')
              rw [← Hout.out] at HS9
              have HD9 := Lib.hid (HD.out.one (show a < F.op.length by omega) Hin.out hpar)
              rw [← Hout.out] at HD9
              have hk9 := Own.kp_turn hoo hk8 (Nat.le_refl _) ht'
              clear hoo ho7 ho' ht' h4'
              go_wp2_with fail
              go_roundw
              case rel => exact ⟨i + 1, (putL X (a : Int)), Y, _, _, _, _, _, _, by omega, rfl, rfl, rfl, HS9, HD9, hk9⟩
              case measure => show 2 * n - (i + 1) < 2 * n - i; omega
            · have hne : (vz != bz) = true := by
                have := Hs5.out a (by omega) Hin.out
                rw [Hvz.out] at this
                simpa using this
              go_wp2_with fail
              go_roundw
              case rel => exact ⟨a + 1, by omega, by go_num, hkf⟩
              case measure => simp [intOf]; omega
    · obtain rfl : i = 2 * n := by omega
      go_wp2_with fail
      go_ret2
      exact ⟨_, by rw [HB.out]; rfl, by rw [Hfp.out]; exact HS.out.oo.mono hkw.le, hkw.trans hkr⟩
end Go.Proofs.YtblebedejddefaaGreat

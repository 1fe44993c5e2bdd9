/- HallClients: the reference. No condition. -/
import Derived.Test.YtpiijhfjliolfaaGreatQAf
import Derived.Test.YtpiijhfjliolfaaGreatQAd
import Derived.Test.YtpiijhfjliolfaaGreatQAa
import Derived.Deep.RegionHeld
import Derived.Deep.RegionHeldLaw
namespace Go.Proofs.YtpiijhfjliolfaaGreat
open Go.RowKit Go.Sort

set_option maxRecDepth 100000 in
set_option maxHeartbeats 3000000 in
theorem specHc_any (f : Value) (F : Fld) (A1 : Option Addr) (rooms : List Int) (n1 c1 : Nat) (A2 : Option Addr) (needs : List Int) (n2 c2 : Nat) (A3 : Option Addr) (S : List Int) (n3 c3 : Nat) (r : Int) (w : World) (hf : FldAt w f F) (h1 : IntsAt w A1 rooms) (hn1 : rooms.length = n1) (h2 : IntsAt w A2 needs) (hn2 : needs.length = n2) (h3 : IntsAt w A3 S) (hn3 : S.length = n3) :
    Calls Tryz.prog 9 #[f, .slice A1 n1 c1, .slice A2 n2 c2, .slice A3 n3 c3, .int .i64 r] w fun e w' => ∃ v, e = .returned (.tuple #[v, .bool (hcOk F rooms needs S r)]) ∧ Own w' w.heap.size v (hcL F rooms needs S r) ∧ Kp w w' := by
  obtain ⟨A, c, B, d, rfl, hA, hB⟩ := hf
  have hk0 : Kp w (w.alloc (.cells #[.slice A F.op.length c, .slice B F.di.length d] 27)) := (Kp.refl w).alloc _
  obtain ⟨d0, d1⟩ := box2 w (.slice A F.op.length c) (.slice B F.di.length d) 27
  have hFA := FldAt.kp (show FldAt w (.agg #[.slice A F.op.length c, .slice B F.di.length d]) F from ⟨A, c, B, d, rfl, hA, hB⟩) hk0
  replace h1 := h1.kp hk0
  replace h2 := h2.kp hk0
  replace h3 := h3.kp hk0
  have Hn1 := Lib.hid hn1; have Hn2 := Lib.hid hn2; have Hn3 := Lib.hid hn3
  clear hA hB hn1 hn2 hn3
  go_enter Tryz.func9, Tryz.ntmps9
  go_wp2_with fail
  have hsz : Hid ((w.alloc (.cells #[.slice A F.op.length c, .slice B F.di.length d] 27)).heap.size = w.heap.size + 1) := by show _ = _; simp
  generalize w.alloc (.cells #[.slice A F.op.length c, .slice B F.di.length d] 27) = wb at *
  have hkb : Kp wb wb := Kp.refl _
  have hkw := hk0
  have ho0 := own_new0 wb w.heap.size (by rw [hsz.out]; exact Nat.le_succ _)
  have hkn := (Kp.refl wb).alloc (.cells #[] 3)
  rw [hsz.out] at ho0
  have q_0 := hkn.get d0
  have q_1 := hkn.get d1
  have CC := Lib.hid (l7Given_any _ F A1 rooms n1 c1 A2 needs n2 c2 A3 S n3 c3 _ (hFA.kp hkn) (h1.kp hkn) Hn1.out (h2.kp hkn) Hn2.out (h3.kp hkn) Hn3.out)
  with_reducible refine Calls.mono CC.out ?_
  rintro e wl ⟨rfl, hk1⟩
  clear CC q_0 q_1
  have hkl0 := hkn.trans hk1
  have ho1 := ho0.kp hk1
  have g0 := hkl0.get d0
  have g1 := hkl0.get d1
  have hFl := hFA.kp hkl0
  have h1l := h1.kp hkl0
  have h2l := h2.kp hkl0
  have h3l := h3.kp hkl0
  have hkl := hkw.trans hkl0
  clear hkn hk1 hkl0 hFA h1 h2 h3 d0 d1 hkb ho0
  cases hg_ : haulB F rooms needs S
  · have Hno : Hid (hcOk F rooms needs S r = false) := by show _ = _; rw [hcOk, hcIn, hg_]; rfl
    have Hnl : Hid (hcL F rooms needs S r = []) := by show _ = _; rw [hcL, hcIn, hg_]; rfl
    clear hg_
    go_wp2_with fail
    go_ret2
    exact ⟨_, by rw [Hno.out]; rfl, by rw [Hnl.out]; exact ho1, hkl⟩
  by_cases hr0 : r < 0
  · have Hno : Hid (hcOk F rooms needs S r = false) := by show _ = _; rw [hcOk, hcIn, decide_eq_false (show ¬ 0 ≤ r by omega), Bool.and_false]; rfl
    have Hnl : Hid (hcL F rooms needs S r = []) := by show _ = _; rw [hcL, hcIn, decide_eq_false (show ¬ 0 ≤ r by omega), Bool.and_false]; rfl
    clear hg_
    go_wp2_with fail
    go_ret2
    exact ⟨_, by rw [Hno.out]; rfl, by rw [Hnl.out]; exact ho1, hkl⟩
  have Hin : Hid (hcIn F rooms needs S r = true) := by show _ = _; rw [hcIn, hg_, decide_eq_true (show 0 ≤ r by omega)]; rfl
  have HP := Lib.hid (haulB_iff.1 hg_)
  have HO := Lib.hid (openedB_parts HP.out.1)
  have HG := Lib.hid (goodF_iff.1 HO.out.1)
  have hd7 := HG.out.2.2.1
  have hs7 := HG.out.1.2
  have HS := Lib.hid (set_mem HO.out.2.1)
  have HSl := Lib.hid (risB_len HO.out.2.1)
  have Hov : Hid (hcL F rooms needs S r = hcV F rooms needs S r) := by show _ = _; rw [hcL, Hin.out, if_pos rfl]
  have Hok : Hid (hcOk F rooms needs S r = !(hcV F rooms needs S r).isEmpty) := by show _ = _; rw [hcOk, Hin.out]; rfl
  clear hg_
  obtain ⟨P, HPw, hpw, hP⟩ := pow_wrap (F.di.length : Int) (by omega) (by omega)
  rw [Int.toNat_natCast] at hpw
  have HP' : Hid (P = 2 ^ F.di.length) := by show P = _; simpa using HPw.out
  have hP1 : 1 ≤ P := by rw [HP'.out]; exact Nat.one_le_two_pow
  have ho2 := RowP.of_own ho1 (by simp)
  clear ho1
  go_wp2_with fail
  go_loopw [12, 13] (fun bv iv wr => ∃ (b : Nat) (best : List Int) (Ab : Option Addr) (cb : Nat), 1 ≤ b ∧ b ≤ P ∧ iv = .int .i64 b ∧ bv = .slice Ab best.length cb ∧ RowP wr (some w.heap.size) (.slice Ab best.length cb) best ∧ Hid (overI F.di.length (hallB F rooms needs S r) (b - 1) best) ∧ Kp wl wr) (fun _ iv _ => P - (intOf iv).toNat)
  case atStart => exact ⟨1, [], _, _, by omega, by omega, rfl, rfl, ho2, over_zero _ _, Kp.refl _⟩
  case round =>
    clear ho2
    obtain ⟨b, best, Ab, cb, hb1, hbP, rfl, rfl, hb, Hovr, hkr⟩ := hrel
    have z0 := hkr.get g0
    have z1 := hkr.get g1
    by_cases hlt : b < P
    · have Hlt2 : Hid (b < 2 ^ F.di.length) := by show _ < _; rw [← HP'.out]; exact hlt
      have hwr := (hkl.trans hkr).le
      go_wp2_with fail
      have CC := Lib.hid (l2Bits_any F.di.length b wr (by omega) (by omega))
      with_reducible refine Calls.mono CC.out ?_
      rintro e wq ⟨v, rfl, hov, hkq⟩
      clear CC
      have hbl := bitsL_len F.di.length b
      have hbl7 : (bitsL F.di.length b).length ≤ 7 := by omega
      obtain ⟨As, cs, hve, his⟩ := hov.ints (by omega)
      have hro := Lib.hid ((RowP.of_own hov (by omega)).mono (b' := w.heap.size) hwr)
      subst hve
      have Hcm := Lib.hid (bits_mem F.di.length b)
      have hkq2 := hkr.trans hkq
      have hbq := hb.kp hkq
      obtain ⟨Ab', cb', eb, hcb, hbi⟩ := hbq.read
      simp only [Value.slice.injEq] at eb
      obtain ⟨rfl, _, rfl⟩ := eb
      have y0 := hkq2.get g0
      have y1 := hkq2.get g1
      have hkz : Kp wq wq := Kp.refl _
      have C1 := Lib.hid (fun (wx : World) (hx : Kp wq wx) => l7Room_any A2 needs n2 c2 As (bitsL F.di.length b) _ cs 5 wx (h2l.kp (hkq2.trans hx)) Hn2.out (his.kp hx) rfl (fun x hx => by have := Hcm.out x hx; have := HP.out.2.2.2; have := Hn2.out; omega) hbl7 (by omega) (by omega) (fun x hx => by have := HP.out.2.2.1 x hx; omega))
      have C2 := Lib.hid (fun (wx : World) (hx : Kp wq wx) => l7Within_any _ F As (bitsL F.di.length b) _ cs A3 S n3 c3 r wx (hFl.kp (hkq2.trans hx)) (his.kp hx) rfl (h3l.kp (hkq2.trans hx)) Hn3.out HO.out.1 HO.out.2.1 Hcm.out)
      have C3 := Lib.hid (fun (wx : World) (hx : Kp wq wx) (Ax : Option Addr) (nx cx : Nat) (hi : IntsAt wx Ax (withinL F (bitsL F.di.length b) S r)) (hnx : (withinL F (bitsL F.di.length b) S r).length = nx) => l7Room_any A1 rooms n1 c1 Ax (withinL F (bitsL F.di.length b) S r) nx cx 20 wx (h1l.kp (hkq2.trans hx)) Hn1.out hi hnx (fun x hx => by have := HS.out x (within_mem x hx); have := HP.out.2.1.2; have := Hn1.out; omega) (by have := withinL_len F (bitsL F.di.length b) S r; have := HSl.out; omega) (by omega) (by omega) (fun x hx => by have := HP.out.2.1.1 x hx; omega))
      have C4 := Lib.hid (fun (wx : World) (hx : Kp wq wx) => (l2Before_any As Ab (bitsL F.di.length b) best _ _ cs cb wx (his.kp hx) rfl (hbi.kp hx) rfl).mono (fun e w' (h : e = .returned (.bool (befB (bitsL F.di.length b) best)) ∧ Dr wx w') => (⟨h.1, h.2.kp⟩ : e = .returned (.bool (befB (bitsL F.di.length b) best)) ∧ Kp wx w')))
      have Hwl : Hid ((withinL F (bitsL F.di.length b) S r).length ≤ 9223372036854775807) := by show _ ≤ _; have := withinL_len F (bitsL F.di.length b) S r; have := HSl.out; omega
      have Hhb : Hid (hallB F rooms needs S r (bitsL F.di.length b) = decide (roomS rooms (withinL F (bitsL F.di.length b) S r) < roomS needs (bitsL F.di.length b))) := rfl
      clear hov hbl z0 z1
      by_cases hgt : roomS rooms (withinL F (bitsL F.di.length b) S r) < roomS needs (bitsL F.di.length b)
      · have hdec : decide (roomS rooms (withinL F (bitsL F.di.length b) S r) < roomS needs (bitsL F.di.length b)) = true := decide_eq_true hgt
        have Hpos : Hid (hallB F rooms needs S r (bitsL F.di.length b) = true) := by show _ = _; rw [Hhb.out]; exact decide_eq_true hgt
        by_cases hbe : best = []
        · subst hbe
          have Hy := Lib.hid (over_first' hb1 Hlt2.out Hovr.out Hpos.out)
          have hl0 : ((([] : List Int).length : Int) == 0) = true := rfl
          have hl1 : ((0 : Int) == 0) = true := rfl
          first
            | skip
              have q_y0 := hkz.get y0
              have q_y1 := hkz.get y1
              have tok1 : True := trivial
              go_wp2_with fail
              go_region_held (fun w' => w'.cell? ⟨w.heap.size, 0, none⟩ = some (.slice A F.op.length c) ∧ w'.cell? ⟨w.heap.size, 1, none⟩ = some (.slice B F.di.length d) ∧ Kp wq w')
                (first | (refine keepc2 y0 y1 ?_; exact (by repeat (first | with_reducible assumption | with_reducible exact Kp.refl _ | with_reducible refine Kp.drew ?_ | with_reducible refine Kp.alloc ?_ _ | with_reducible refine Kp.drewN ?_ _ | refine Kp.setCell ?_ (by dsimp only; omega) _))) | fail)
                (first
                  | (have _t := tok1; go_at_call 33; with_reducible refine Calls.mono (C1.out _ (by repeat (first | with_reducible assumption | with_reducible exact Kp.refl _ | with_reducible refine Kp.drew ?_ | with_reducible refine Kp.alloc ?_ _ | with_reducible refine Kp.drewN ?_ _ | refine Kp.setCell ?_ (by dsimp only; omega) _))) ?_; rintro e wr1 ⟨rfl, hw⟩; obtain rfl := hw; have tok2 : True := trivial; clear tok1 _t)
                  | (have _t := tok2; go_at_call 34; with_reducible refine Calls.mono (C2.out _ (by repeat (first | with_reducible assumption | with_reducible exact Kp.refl _ | with_reducible refine Kp.drew ?_ | with_reducible refine Kp.alloc ?_ _ | with_reducible refine Kp.drewN ?_ _ | refine Kp.setCell ?_ (by dsimp only; omega) _))) ?_; rintro e wr2 ⟨v2, rfl, ho2, hka⟩; have hr2 : Kp wq wr2 := Kp.trans (by repeat (first | with_reducible assumption | with_reducible exact Kp.refl _ | with_reducible refine Kp.drew ?_ | with_reducible refine Kp.alloc ?_ _ | with_reducible refine Kp.drewN ?_ _ | refine Kp.setCell ?_ (by dsimp only; omega) _)) hka; obtain ⟨At, ct, hve2, hi2⟩ := ho2.ints Hwl.out; subst hve2; have tok3 : True := trivial; clear tok2 _t)
                  | (have _t := tok3; go_at_call 33; with_reducible refine Calls.mono (C3.out _ hr2 At _ ct hi2 rfl) ?_; rintro e wr3 ⟨rfl, hw⟩; obtain rfl := hw; have tok4 : True := trivial; clear tok3 _t)
                  | fail)
            | fail
          all_goals
            go_wp2_with fail
            go_roundw
            case rel => exact ⟨b + 1, _, As, cs, by omega, by omega, by go_num, rfl, hro.out.kp hr2, Hy, hkq2.trans hr2⟩
            case measure => simp [intOf]; omega
        · have hl0 : ((best.length : Int) == 0) = false := by
            simp only [beq_eq_false_iff_ne, ne_eq]
            intro e
            exact hbe (List.eq_nil_of_length_eq_zero (by omega))
          cases hbf : befB (bitsL F.di.length b) best
          · have Hy := Lib.hid (over_keep' hb1 Hovr.out hbe hbf)
            rw [hbf] at C4
            clear hbe
            have q_y0 := hkz.get y0
            have q_y1 := hkz.get y1
            have tok1 : True := trivial
            go_wp2_with fail
            go_region_held3 (fun w' => w'.cell? ⟨w.heap.size, 0, none⟩ = some (.slice A F.op.length c) ∧ w'.cell? ⟨w.heap.size, 1, none⟩ = some (.slice B F.di.length d) ∧ Kp wq w')
              (first | (refine keepc2 y0 y1 ?_; exact (by repeat (first | with_reducible assumption | with_reducible exact Kp.refl _ | with_reducible refine Kp.drew ?_ | with_reducible refine Kp.alloc ?_ _ | with_reducible refine Kp.drewN ?_ _ | refine Kp.setCell ?_ (by dsimp only; omega) _))) | fail)
              (first
                | (have _t := tok1; go_at_call 33; with_reducible refine Calls.mono (C1.out _ (by repeat (first | with_reducible assumption | with_reducible exact Kp.refl _ | with_reducible refine Kp.drew ?_ | with_reducible refine Kp.alloc ?_ _ | with_reducible refine Kp.drewN ?_ _ | refine Kp.setCell ?_ (by dsimp only; omega) _))) ?_; rintro e wr1 ⟨rfl, hw⟩; obtain rfl := hw; have tok2 : True := trivial; clear tok1 _t)
                | (have _t := tok2; go_at_call 34; with_reducible refine Calls.mono (C2.out _ (by repeat (first | with_reducible assumption | with_reducible exact Kp.refl _ | with_reducible refine Kp.drew ?_ | with_reducible refine Kp.alloc ?_ _ | with_reducible refine Kp.drewN ?_ _ | refine Kp.setCell ?_ (by dsimp only; omega) _))) ?_; rintro e wr2 ⟨v2, rfl, ho2, hka⟩; have hr2 : Kp wq wr2 := Kp.trans (by repeat (first | with_reducible assumption | with_reducible exact Kp.refl _ | with_reducible refine Kp.drew ?_ | with_reducible refine Kp.alloc ?_ _ | with_reducible refine Kp.drewN ?_ _ | refine Kp.setCell ?_ (by dsimp only; omega) _)) hka; obtain ⟨At, ct, hve2, hi2⟩ := ho2.ints Hwl.out; subst hve2; have tok3 : True := trivial; clear tok2 _t)
                | (have _t := tok3; go_at_call 33; with_reducible refine Calls.mono (C3.out _ hr2 At _ ct hi2 rfl) ?_; rintro e wr3 ⟨rfl, hw⟩; obtain rfl := hw; have tok4 : True := trivial; clear tok3 _t)
                | (have _t := tok4; go_at_call 35; with_reducible refine Calls.mono (C4.out _ hr2) ?_; rintro e wr4 ⟨rfl, hka⟩; have hr4 : Kp wq wr4 := Kp.trans (by repeat (first | with_reducible assumption | with_reducible exact Kp.refl _ | with_reducible refine Kp.drew ?_ | with_reducible refine Kp.alloc ?_ _ | with_reducible refine Kp.drewN ?_ _ | refine Kp.setCell ?_ (by dsimp only; omega) _)) hka; have tok5 : True := trivial; clear tok4 _t)
                | fail)
            all_goals
              go_wp2_with fail
              go_roundw
              case rel => exact ⟨b + 1, best, Ab, cb, by omega, by omega, by go_num, rfl, hbq.kp hr4, Hy, hkq2.trans hr4⟩
              case measure => simp [intOf]; omega
          · have Hy := Lib.hid (over_take' hb1 Hovr.out hbe Hpos.out hbf)
            rw [hbf] at C4
            clear hbe
            have q_y0 := hkz.get y0
            have q_y1 := hkz.get y1
            have tok1 : True := trivial
            go_wp2_with fail
            go_region_held3 (fun w' => w'.cell? ⟨w.heap.size, 0, none⟩ = some (.slice A F.op.length c) ∧ w'.cell? ⟨w.heap.size, 1, none⟩ = some (.slice B F.di.length d) ∧ Kp wq w')
              (first | (refine keepc2 y0 y1 ?_; exact (by repeat (first | with_reducible assumption | with_reducible exact Kp.refl _ | with_reducible refine Kp.drew ?_ | with_reducible refine Kp.alloc ?_ _ | with_reducible refine Kp.drewN ?_ _ | refine Kp.setCell ?_ (by dsimp only; omega) _))) | fail)
              (first
                | (have _t := tok1; go_at_call 33; with_reducible refine Calls.mono (C1.out _ (by repeat (first | with_reducible assumption | with_reducible exact Kp.refl _ | with_reducible refine Kp.drew ?_ | with_reducible refine Kp.alloc ?_ _ | with_reducible refine Kp.drewN ?_ _ | refine Kp.setCell ?_ (by dsimp only; omega) _))) ?_; rintro e wr1 ⟨rfl, hw⟩; obtain rfl := hw; have tok2 : True := trivial; clear tok1 _t)
                | (have _t := tok2; go_at_call 34; with_reducible refine Calls.mono (C2.out _ (by repeat (first | with_reducible assumption | with_reducible exact Kp.refl _ | with_reducible refine Kp.drew ?_ | with_reducible refine Kp.alloc ?_ _ | with_reducible refine Kp.drewN ?_ _ | refine Kp.setCell ?_ (by dsimp only; omega) _))) ?_; rintro e wr2 ⟨v2, rfl, ho2, hka⟩; have hr2 : Kp wq wr2 := Kp.trans (by repeat (first | with_reducible assumption | with_reducible exact Kp.refl _ | with_reducible refine Kp.drew ?_ | with_reducible refine Kp.alloc ?_ _ | with_reducible refine Kp.drewN ?_ _ | refine Kp.setCell ?_ (by dsimp only; omega) _)) hka; obtain ⟨At, ct, hve2, hi2⟩ := ho2.ints Hwl.out; subst hve2; have tok3 : True := trivial; clear tok2 _t)
                | (have _t := tok3; go_at_call 33; with_reducible refine Calls.mono (C3.out _ hr2 At _ ct hi2 rfl) ?_; rintro e wr3 ⟨rfl, hw⟩; obtain rfl := hw; have tok4 : True := trivial; clear tok3 _t)
                | (have _t := tok4; go_at_call 35; with_reducible refine Calls.mono (C4.out _ hr2) ?_; rintro e wr4 ⟨rfl, hka⟩; have hr4 : Kp wq wr4 := Kp.trans (by repeat (first | with_reducible assumption | with_reducible exact Kp.refl _ | with_reducible refine Kp.drew ?_ | with_reducible refine Kp.alloc ?_ _ | with_reducible refine Kp.drewN ?_ _ | refine Kp.setCell ?_ (by dsimp only; omega) _)) hka; have tok5 : True := trivial; clear tok4 _t)
                | fail)
            all_goals
              go_wp2_with fail
              go_roundw
              case rel => exact ⟨b + 1, _, As, cs, by omega, by omega, by go_num, rfl, hro.out.kp hr4, Hy, hkq2.trans hr4⟩
              case measure => simp [intOf]; omega
      · have hdec : decide (roomS rooms (withinL F (bitsL F.di.length b) S r) < roomS needs (bitsL F.di.length b)) = false := decide_eq_false hgt
        have hun : undef = Value.tuple #[] := rfl
        have Hy := Lib.hid (over_no' hb1 Hovr.out (show hallB F rooms needs S r (bitsL F.di.length b) = false from by rw [Hhb.out]; exact decide_eq_false hgt))
        first
          | skip
            have q_y0 := hkz.get y0
            have q_y1 := hkz.get y1
            have tok1 : True := trivial
            go_wp2_with fail
            go_region_held_law (fun w' => w'.cell? ⟨w.heap.size, 0, none⟩ = some (.slice A F.op.length c) ∧ w'.cell? ⟨w.heap.size, 1, none⟩ = some (.slice B F.di.length d) ∧ Kp wq w')
              (first | (refine keepc2 y0 y1 ?_; exact (by repeat (first | with_reducible assumption | with_reducible exact Kp.refl _ | with_reducible refine Kp.drew ?_ | with_reducible refine Kp.alloc ?_ _ | with_reducible refine Kp.drewN ?_ _ | refine Kp.setCell ?_ (by dsimp only; omega) _))) | fail)
              (first
                | (have _t := tok1; go_at_call 33; with_reducible refine Calls.mono (C1.out _ (by repeat (first | with_reducible assumption | with_reducible exact Kp.refl _ | with_reducible refine Kp.drew ?_ | with_reducible refine Kp.alloc ?_ _ | with_reducible refine Kp.drewN ?_ _ | refine Kp.setCell ?_ (by dsimp only; omega) _))) ?_; rintro e wr1 ⟨rfl, hw⟩; obtain rfl := hw; have tok2 : True := trivial; clear tok1 _t)
                | (have _t := tok2; go_at_call 34; with_reducible refine Calls.mono (C2.out _ (by repeat (first | with_reducible assumption | with_reducible exact Kp.refl _ | with_reducible refine Kp.drew ?_ | with_reducible refine Kp.alloc ?_ _ | with_reducible refine Kp.drewN ?_ _ | refine Kp.setCell ?_ (by dsimp only; omega) _))) ?_; rintro e wr2 ⟨v2, rfl, ho2, hka⟩; have hr2 : Kp wq wr2 := Kp.trans (by repeat (first | with_reducible assumption | with_reducible exact Kp.refl _ | with_reducible refine Kp.drew ?_ | with_reducible refine Kp.alloc ?_ _ | with_reducible refine Kp.drewN ?_ _ | refine Kp.setCell ?_ (by dsimp only; omega) _)) hka; obtain ⟨At, ct, hve2, hi2⟩ := ho2.ints Hwl.out; subst hve2; have tok3 : True := trivial; clear tok2 _t)
                | (have _t := tok3; go_at_call 33; with_reducible refine Calls.mono (C3.out _ hr2 At _ ct hi2 rfl) ?_; rintro e wr3 ⟨rfl, hw⟩; obtain rfl := hw; have tok4 : True := trivial; clear tok3 _t)
                | (have _t := tok4; refine Eq.mpr (if_neg ?_) ?_; exact Bool.false_ne_true; have tok5 : True := trivial; clear tok4 _t)
                | (have _t := tok5; refine Eq.mpr (if_neg ?_) ?_; exact Bool.false_ne_true; have tok6 : True := trivial; clear tok5 _t)
                | fail)
          | fail
        all_goals
          simp only [← hun]
          clear hun
          go_wp2_with fail
          go_roundw
          case rel => exact ⟨b + 1, best, Ab, cb, by omega, by omega, by go_num, rfl, hbq.kp hr2, Hy, hkq2.trans hr2⟩
          case measure => simp [intOf]; omega
    · have hov := Hovr.out
      rw [show b = P by omega, HP'.out] at hov
      have He : Hid (best = hcV F rooms needs S r) := over_end hov
      by_cases he : best.length = 0
      · have He2 : Hid (hcOk F rooms needs S r = false) := by show _ = _; rw [Hok.out, ← He.out, List.eq_nil_of_length_eq_zero he]; rfl
        have hz : ¬ (0 : Int) < (best.length : Int) := by omega
        clear he
        go_wp2_with fail
        go_ret2
        exact ⟨.slice Ab best.length cb, by rw [He2.out]; exact congrArg (fun t => Ending.returned (.tuple #[.slice Ab best.length cb, .bool t])) (decide_eq_false (by omega)), by rw [Hov.out, ← He.out]; exact hb.2 _ rfl, hkl.trans hkr⟩
      · have He2 : Hid (hcOk F rooms needs S r = true) := by
          show _ = _
          rw [Hok.out, ← He.out]
          cases h : best with
          | nil => rw [h] at he; exact absurd rfl he
          | cons a t => rfl
        have hz : (0 : Int) < (best.length : Int) := by omega
        clear he
        go_wp2_with fail
        go_ret2
        exact ⟨.slice Ab best.length cb, by rw [He2.out]; exact congrArg (fun t => Ending.returned (.tuple #[.slice Ab best.length cb, .bool t])) (decide_eq_true (by omega)), by rw [Hov.out, ← He.out]; exact hb.2 _ rfl, hkl.trans hkr⟩
end Go.Proofs.YtpiijhfjliolfaaGreat

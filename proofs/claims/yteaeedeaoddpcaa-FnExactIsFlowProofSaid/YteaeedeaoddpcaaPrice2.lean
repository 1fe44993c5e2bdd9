/- Flow prices: which lists are such, and their yield; reference and program. No condition. -/
import Derived.Test.YteaeedeaoddpcaaPrice
namespace Go.Proofs.Yteaeedeaoddpcaa
open Go.RowKit Go.Sort

theorem pr_no {F : Fld} {S us ws : List Int} (h : ¬ prB F S us ws = true) : prB F S us ws = false := by simpa using h
theorem pr_len {F : Fld} {S us ws : List Int} (h : us.length ≠ F.di.length) : prB F S us ws = false := pr_no fun hb => h (prB_iff.1 hb).1
theorem pr_nums {F : Fld} {S us ws : List Int} (h : numsB ws F.op.length 999 = false) : prB F S us ws = false := pr_no fun hb => by
  rw [numsB_iff.2 (prB_iff.1 hb).2.1] at h; cases h
theorem pr_w {F : Fld} {S us ws : List Int} {a : Nat} (ha : a < ws.length) (h1 : 0 < lget ws a) (h2 : flHas S a = false) : prB F S us ws = false := pr_no fun hb => by
  rw [(prB_iff.1 hb).2.2.1 a ha h1] at h2; cases h2
theorem pr_u {F : Fld} {S us ws : List Int} {j : Nat} (hj : j < us.length) (h : ¬ ((-999 ≤ lget us j ∧ lget us j ≤ 999) ∧ lget us j ≤ offF F S ws j)) : prB F S us ws = false := pr_no fun hb => h ((prB_iff.1 hb).2.2.2 j hj)
set_option maxRecDepth 100000 in
set_option maxHeartbeats 2000000 in
theorem l7Prices_any (f : Value) (F : Fld) (A3 : Option Addr) (S : List Int) (n3 c3 : Nat) (A4 : Option Addr) (us : List Int) (n4 c4 : Nat) (A5 : Option Addr) (ws : List Int) (n5 c5 : Nat) (w : World) (hf : FldAt w f F) (h3 : IntsAt w A3 S) (hn3 : S.length = n3) (h4 : IntsAt w A4 us) (hn4 : us.length = n4) (h5 : IntsAt w A5 ws) (hn5 : ws.length = n5) (ho : openedB F S = true) :
    Calls Try.prog 57 #[f, .slice A3 n3 c3, .slice A4 n4 c4, .slice A5 n5 c5] w fun e w' => e = .returned (.bool (prB F S us ws)) ∧ Kp w w' := by
  have hm4 : n4 ≤ 9223372036854775807 := hn4 ▸ h4.1
  have hm5 : n5 ≤ 9223372036854775807 := hn5 ▸ h5.1
  obtain ⟨A, c, B, d, rfl, hA, hB⟩ := hf
  have hk0 : Kp w (w.alloc (.cells #[.slice A F.op.length c, .slice B F.di.length d] 30)) := (Kp.refl w).alloc _
  obtain ⟨d0, d1⟩ := box2 w (.slice A F.op.length c) (.slice B F.di.length d) 30
  have hFA := FldAt.kp (show FldAt w (.agg #[.slice A F.op.length c, .slice B F.di.length d]) F from ⟨A, c, B, d, rfl, hA, hB⟩) hk0
  replace h3 := h3.kp hk0
  replace h4 := h4.kp hk0
  replace h5 := h5.kp hk0
  have Hn3 := Lib.hid hn3; have Hn4 := Lib.hid hn4; have Hn5 := Lib.hid hn5
  have HO := Lib.hid ho
  clear hA hB hn3 hn4 hn5 ho
  by_cases hmd : n4 = F.di.length
  case neg =>
    have hne : ((n4 : Int) != (F.di.length : Int)) = true := by simp; omega
    have Hno : Hid (prB F S us ws = false) := pr_len (by rw [Hn4.out]; exact hmd)
    go_enter Try.func57, Try.ntmps57
    go_wp2_with fail
    go_ret
    exact ⟨ret_bool Hno.out.symm, hk0⟩
  have hne : ((n4 : Int) != (F.di.length : Int)) = false := by simp; omega
  have Hmd := Lib.hid hmd
  clear hmd
  go_enter Try.func57, Try.ntmps57
  go_wp2_with fail
  have hsz : Hid ((w.alloc (.cells #[.slice A F.op.length c, .slice B F.di.length d] 30)).heap.size = w.heap.size + 1) := by show _ = _; simp
  generalize w.alloc (.cells #[.slice A F.op.length c, .slice B F.di.length d] 30) = wb at *
  have hkb : Kp wb wb := Kp.refl _
  have hkw := hk0
  have q_d0 := hkb.get d0
  have q_d1 := hkb.get d1
  go_wp2_with fail
  have CC := Lib.hid (l7Numbers_any A5 ws n5 c5 F.op.length 999 wb h5 Hn5.out)
  with_reducible refine Calls.mono CC.out ?_
  rintro e w1 ⟨rfl, hw⟩
  obtain rfl := hw
  clear CC q_d0 q_d1
  cases hg_ : numsB ws F.op.length 999
  · have Hno : Hid (prB F S us ws = false) := pr_nums hg_
    clear hg_
    have q_d0 := hkb.get d0
    have q_d1 := hkb.get d1
    go_wp2_with fail
    go_ret
    exact ⟨ret_bool Hno.out.symm, hkw⟩
  have HW := Lib.hid (numsB_iff.1 hg_)
  clear hg_
  have q_d0 := hkb.get d0
  have q_d1 := hkb.get d1
  go_wp2_with fail
  go_loop [9] (fun iv => ∃ a : Nat, a ≤ n5 ∧ iv = .int .i64 a ∧ Hid (prW S ws a = true)) (fun iv => n5 - (intOf iv).toNat)
  case atStart => exact ⟨0, by omega, rfl, rfl⟩
  case round =>
    obtain ⟨a, ha, rfl, Hw⟩ := hrel
    by_cases hla : a < n5
    · have l5 : a < ws.length := by rw [Hn5.out]; exact hla
      obtain ⟨wd, rfl, hwc⟩ := h5.at_ l5
      rw [← lget_at l5] at hwc
      by_cases hp : 0 < lget ws a
      · clear q_d0 q_d1
        have q_d0 := hkb.get d0
        have q_d1 := hkb.get d1
        go_wp2_with fail
        have CC := Lib.hid (l1Has_any A3 S n3 c3 (a : Int) _ h3 Hn3.out)
        with_reducible refine Calls.mono CC.out ?_
        rintro e w2 ⟨rfl, hw⟩
        obtain rfl := hw
        clear CC q_d0 q_d1
        cases hh : (S.any fun y => y == (a : Int))
        · have Hno : Hid (prB F S us ws = false) := pr_w l5 hp hh
          clear hh
          have q_d0 := hkb.get d0
          have q_d1 := hkb.get d1
          go_wp2_with fail
          go_ret
          exact ⟨ret_bool Hno.out.symm, hkw⟩
        · have Hy : Hid (prW S ws (a + 1) = true) := by show _ = _; rw [prW_succ, Hw.out, flHas, hh]; simp
          clear hh
          have q_d0 := hkb.get d0
          have q_d1 := hkb.get d1
          go_wp2_with fail
          go_round
          case rel => exact ⟨a + 1, by omega, by go_num, Hy⟩
          case measure => simp [intOf]; omega
      · have Hy : Hid (prW S ws (a + 1) = true) := by show _ = _; rw [prW_succ, Hw.out, decide_eq_false hp]; rfl
        clear q_d0 q_d1
        have q_d0 := hkb.get d0
        have q_d1 := hkb.get d1
        go_wp2_with fail
        go_round
        case rel => exact ⟨a + 1, by omega, by go_num, Hy⟩
        case measure => simp [intOf]; omega
    · obtain rfl : a = n5 := by omega
      clear q_d0 q_d1
      have q_d0 := hkb.get d0
      have q_d1 := hkb.get d1
      go_wp2_with fail
      go_loopw [10] (fun iv wr => ∃ j : Nat, j ≤ n4 ∧ iv = .int .i64 j ∧ Hid (prU F S ws us j = true) ∧ Kp wb wr) (fun iv _ => n4 - (intOf iv).toNat)
      case atStart => exact ⟨0, by omega, rfl, rfl, hkb⟩
      case round =>
        clear hkb
        obtain ⟨j, hj, rfl, Hu, hkb⟩ := hrel
        by_cases hlj : j < n4
        · have l4 : j < us.length := by rw [Hn4.out]; exact hlj
          have ld : j < F.di.length := by rw [← Hmd.out]; exact hlj
          obtain ⟨ud, rfl, huc⟩ := h4.at_ l4
          rw [← lget_at l4] at huc
          have Hbad := Lib.hid (fun h => pr_u (F := F) (S := S) (us := us) (ws := ws) l4 h)
          have Hsu := Lib.hid (prU_succ (F := F) (S := S) (ws := ws) (us := us) (k := j))
          have C1 := Lib.hid (fun (wx : World) => l1In_any (lget us j) (-999) 999 wx)
          have C2 := Lib.hid (fun (wx : World) (hx : Kp wb wx) => l7Offer_any _ F A3 S n3 c3 A5 ws a c5 j wx (hFA.kp hx) (h3.kp hx) Hn3.out (h5.kp hx) Hn5.out HO.out HW.out.1 HW.out.2 ld)
          cases hin : inB (lget us j) (-999) 999
          · have Hno : Hid (prB F S us ws = false) := Hbad.out (fun h => by rw [inB_iff.2 h.1] at hin; cases hin)
            rw [hin] at C1
            clear hin
            have q0 := hkb.get d0
            have q1 := hkb.get d1
            have q2 := hkb.get huc
            go_wp2_with fail
            go_quiet ((go_at_call 76; exact Calls.same_quiet (C1.out _)))
            go_wp2_with fail
            go_ret
            exact ⟨ret_bool Hno.out.symm, hkw.trans (hkb.drewN _)⟩
          · have Hin := Lib.hid hin
            rw [hin] at C1
            clear hin
            generalize hoo : offF F S ws j = q at *
            clear hoo
            by_cases hle : lget us j ≤ q
            · have Hy : Hid (prU F S ws us (j + 1) = true) := by show _ = _; rw [Hsu.out, Hu.out, Hin.out, decide_eq_true hle]; rfl
              have hgt : ¬ q < lget us j := by omega
              clear hle
              clear q_d0 q_d1
              have q_d0 := hkb.get d0
              have q_d1 := hkb.get d1
              have q_huc := hkb.get huc
              have tok1 : True := trivial
              go_wp2_with fail
              go_region_held3 (fun w' => w'.cell? ⟨w.heap.size, 0, none⟩ = some (.slice A F.op.length c) ∧ w'.cell? ⟨w.heap.size, 1, none⟩ = some (.slice B F.di.length d) ∧ w'.cell? (ud.add j) = some (.int .i64 (lget us j)) ∧ Kp wb w')
                (first | (refine keepc3 d0 d1 huc ?_; exact (by repeat (first | with_reducible assumption | with_reducible exact Kp.refl _ | with_reducible refine Kp.drew ?_ | with_reducible refine Kp.alloc ?_ _ | with_reducible refine Kp.drewN ?_ _))) | fail)
                (first
                  | (have _t := tok1; go_at_call 76; with_reducible refine Calls.mono (C1.out _) ?_; rintro e wr1 ⟨rfl, hw⟩; obtain rfl := hw; have tok2 : True := trivial; clear tok1 _t)
                  | (have _t := tok2; go_at_call 50; with_reducible refine Calls.mono (C2.out _ (by repeat (first | with_reducible assumption | with_reducible exact Kp.refl _ | with_reducible refine Kp.drew ?_ | with_reducible refine Kp.alloc ?_ _ | with_reducible refine Kp.drewN ?_ _))) ?_; rintro e wr2 ⟨rfl, hka⟩; have hr2 : Kp wb wr2 := Kp.trans (by repeat (first | with_reducible assumption | with_reducible exact Kp.refl _ | with_reducible refine Kp.drew ?_ | with_reducible refine Kp.alloc ?_ _ | with_reducible refine Kp.drewN ?_ _)) hka; have tok3 : True := trivial; clear tok2 _t)
                  | fail)
              go_wp2_with fail
              go_roundw
              case rel => exact ⟨j + 1, by omega, by go_num, Hy, hr2⟩
              case measure => simp [intOf]; omega
            · have Hno : Hid (prB F S us ws = false) := Hbad.out (fun h => hle h.2)
              have hgt : q < lget us j := by omega
              clear hle
              clear q_d0 q_d1
              have q_d0 := hkb.get d0
              have q_d1 := hkb.get d1
              have q_huc := hkb.get huc
              have tok1 : True := trivial
              go_wp2_with fail
              go_region_held3 (fun w' => w'.cell? ⟨w.heap.size, 0, none⟩ = some (.slice A F.op.length c) ∧ w'.cell? ⟨w.heap.size, 1, none⟩ = some (.slice B F.di.length d) ∧ w'.cell? (ud.add j) = some (.int .i64 (lget us j)) ∧ Kp wb w')
                (first | (refine keepc3 d0 d1 huc ?_; exact (by repeat (first | with_reducible assumption | with_reducible exact Kp.refl _ | with_reducible refine Kp.drew ?_ | with_reducible refine Kp.alloc ?_ _ | with_reducible refine Kp.drewN ?_ _))) | fail)
                (first
                  | (have _t := tok1; go_at_call 76; with_reducible refine Calls.mono (C1.out _) ?_; rintro e wr1 ⟨rfl, hw⟩; obtain rfl := hw; have tok2 : True := trivial; clear tok1 _t)
                  | (have _t := tok2; go_at_call 50; with_reducible refine Calls.mono (C2.out _ (by repeat (first | with_reducible assumption | with_reducible exact Kp.refl _ | with_reducible refine Kp.drew ?_ | with_reducible refine Kp.alloc ?_ _ | with_reducible refine Kp.drewN ?_ _))) ?_; rintro e wr2 ⟨rfl, hka⟩; have hr2 : Kp wb wr2 := Kp.trans (by repeat (first | with_reducible assumption | with_reducible exact Kp.refl _ | with_reducible refine Kp.drew ?_ | with_reducible refine Kp.alloc ?_ _ | with_reducible refine Kp.drewN ?_ _)) hka; have tok3 : True := trivial; clear tok2 _t)
                  | fail)
              go_wp2_with fail
              go_ret
              exact ⟨ret_bool Hno.out.symm, hkw.trans hr2⟩
        · have Hyes : Hid (prB F S us ws = true) := prB_iff.2 ⟨by rw [Hn4.out]; exact Hmd.out, HW.out, by rw [Hn5.out]; exact prW_iff.1 Hw.out, by rw [Hn4.out]; exact fun i hi => prU_iff.1 Hu.out i (by omega)⟩
          clear q_d0 q_d1
          have q_d0 := hkb.get d0
          have q_d1 := hkb.get d1
          go_wp2_with fail
          go_ret
          exact ⟨ret_bool Hyes.out.symm, hkw.trans hkb⟩
end Go.Proofs.Yteaeedeaoddpcaa

/- Openings as the clients come: the program's walk. No condition. -/
import Derived.Test.YtghpkjllcapbpaaOnl4
namespace Go.Proofs.Ytghpkjllcapbpaa
open Go.RowKit Go.Sort

theorem apart_appv {W : World} {b g' m c' : Nat} {ov lv : Value} {xs : List Int} (h : Apart ov lv) (hl : Own W b lv xs) (h4 : ov.ownBlock = some g' ∨ W.heap.size ≤ g') : Apart (.slice (some ⟨g', 0, none⟩) m c') lv := fun g hg e => by
  have e2 : g' = g := by simpa [Value.ownBlock] using hg
  subst e2
  rcases h4 with h5 | h5
  · exact h g' h5 e
  · have := (hl.lt g' e).2; omega
theorem apart_right {W : World} {b : Nat} {ov lv lv' : Value} {rows : List (List Int)} {l2 : Value} (h : Apart ov lv) (hg : GOn W b ov rows l2) (h4 : lv'.ownBlock = lv.ownBlock ∨ ∀ g, lv'.ownBlock = some g → W.heap.size ≤ g) : Apart ov lv' := fun g hgo e => by
  obtain ⟨hs, h1, _, _⟩ := hg
  rcases h4 with h5 | h5
  · exact h g hgo (h5 ▸ e)
  · have h6 := h5 g e
    have h7 := (h1.lt g hgo).2
    omega
set_option maxRecDepth 100000 in
set_option maxHeartbeats 8000000 in
theorem online_any (f : Value) (F : Fld) (w : World) (hf : FldAt w f F) (hg : goodF F = true) :
    Calls Try.prog 70 #[f] w fun e w' => ∃ v u, e = .returned (.tuple #[v, u]) ∧ GOn w' w.heap.size v (onS F F.di.length).1 u ∧ Own w' w.heap.size u (mapTo (onN F) F.di.length) ∧ Kp w w' := by
  have h1n := (goodF_iff.1 hg).1.1
  have h7n := (goodF_iff.1 hg).1.2
  have h7d := (goodF_iff.1 hg).2.2.1
  obtain ⟨A, c, B, d, rfl, hA, hB⟩ := hf
  have hk0 : Kp w (w.alloc (.cells #[.slice A F.op.length c, .slice B F.di.length d] 54)) := (Kp.refl w).alloc _
  obtain ⟨d0, d1⟩ := box2 w (.slice A F.op.length c) (.slice B F.di.length d) 54
  have hFA := FldAt.kp (show FldAt w (.agg #[.slice A F.op.length c, .slice B F.di.length d]) F from ⟨A, c, B, d, rfl, hA, hB⟩) hk0
  obtain ⟨od, hAe, hop⟩ : ∃ od, A = some od ∧ IntsAt w A F.op := by
    obtain ⟨od, e, _⟩ := hA.at_ (k := 0) (by omega)
    exact ⟨od, e, hA⟩
  replace hop := hop.kp hk0
  replace hB := hB.kp hk0
  have HAe := Lib.hid hAe
  have HG := Lib.hid hg
  clear hA hg hAe
  go_enter Try.func70, Try.ntmps70
  go_wp2_with fail
  have hsz : Hid ((w.alloc (.cells #[.slice A F.op.length c, .slice B F.di.length d] 54)).heap.size = w.heap.size + 1) := by show _ = _; simp
  generalize w.alloc (.cells #[.slice A F.op.length c, .slice B F.di.length d] 54) = wb at *
  have hkb : Kp wb wb := Kp.refl _
  have hkw := hk0
  have hAe := HAe.out
  subst hAe
  have hs1 : w.heap.size + 1 ≤ wb.heap.size := by rw [hsz.out]; exact Nat.le_refl _
  have hs2 : wb.heap.size ≤ w.heap.size + 1 := by rw [hsz.out]; exact Nat.le_refl _
  have o1 := (gown_new wb (some (w.heap.size + 1)) (w.heap.size + 1) hs1)
  have o2 := own_new0 (wb.alloc (.cells #[] 22)) (wb.alloc (.cells #[] 22)).heap.size (Nat.le_refl _)
  have hapo := gapart_own o1 o2 (Nat.le_refl _)
  have o3 := o2.mono (base' := w.heap.size + 1) (by simp; omega)
  have o4 := o1.kp ((Kp.refl _).alloc (.cells #[] 3))
  have hkn : Kp wb ((wb.alloc (.cells #[] 22)).alloc (.cells #[] 3)) := ((Kp.refl wb).alloc _).alloc _
  simp only [World.size_alloc] at hapo o3 o4 hkn
  rw [hsz.out] at hapo o3 o4
  clear o1 o2
  clear hkb
  go_loopw [4, 5, 6, 23] (fun ox lx bx iv wr => ∃ (i : Nat) (ov lv : Value) (b : Nat), ov = ox ∧ lv = lx ∧ i ≤ F.di.length ∧ iv = .int .i64 i ∧ GOn wr (w.heap.size + 1) ov (onS F i).1 lv ∧ Own wr (w.heap.size + 1) lv (mapTo (onN F) i) ∧ Apart ov lv ∧ bx = .int .u64 (b : Nat) ∧ Hid (b < 2 ^ F.op.length) ∧ Hid (bitsL F.op.length b = (onS F i).2) ∧ Kp wb wr) (fun _ _ _ iv _ => F.di.length - (intOf iv).toNat)
  case atStart => exact ⟨0, _, _, 0, rfl, rfl, by omega, rfl, GOn.nil o4, o3, hapo, rfl, Nat.two_pow_pos _, bits_zero _, hkn⟩
  case round =>
    clear o3 o4 hapo hkn
    obtain ⟨i, ov, lv, b, rfl, rfl, hi, rfl, hgo, hlv, hap, rfl, Hb, HS, hkb⟩ := hrel
    obtain ⟨wo, rfl⟩ : ∃ wo : World, wo = wr := ⟨_, rfl⟩
    have hb1 : w.heap.size + 1 ≤ wo.heap.size := by have := hkb.le; omega
    have hb7 : b < 128 := Nat.lt_of_lt_of_le Hb.out (Nat.pow_le_pow_right (n := 2) (by omega) h7n)
    by_cases hlt : i < F.di.length
    · obtain ⟨bd, A4, c4, hBe, hcr, hrr⟩ := hB.at_ hlt
      subst hBe
      have hrl : F.di[i].length = F.op.length := goodRow HG.out hlt
      obtain ⟨rd, hrd, zz⟩ := hrr.at_ (k := 0) (by omega)
      clear zz
      subst hrd
      obtain ⟨m1, hm1⟩ : ∃ m1, m1 = i + 1 := ⟨_, rfl⟩
      have hmi : (i : Int) + 1 = (m1 : Int) := by omega
      have hm1d : m1 ≤ F.di.length := by omega
      have Hm1 := Lib.hid hm1
      have z0 := hkb.get d0
      have z1 := hkb.get d1
      have z2 := hkb.get hcr
      have hki := (Kp.refl wo).alloc (.cells #[] 3)
      have hrow := own_new0 wo wo.heap.size (Nat.le_refl _)
      clear hm1
      by_cases hb0 : b = 0
      · have hbe : ((b : Int) == 0) = true := by subst hb0; rfl
        have Hnil : Hid ((onS F i).2 = []) := by show _ = _; rw [← HS.out]; exact (bits_nil Hb.out).2 hb0
        clear hb0
        go_wp2_with fail
        go_loopw [10, 33] (fun bv iv wr => ∃ a : Nat, a ≤ F.op.length ∧ iv = .int .i64 a ∧ bv = .int .i64 (firstT F i a : Int) ∧ Own wr wo.heap.size (.slice (some ⟨wo.heap.size, 0, none⟩) 0 0) [] ∧ Kp wo wr) (fun _ iv _ => F.op.length - (intOf iv).toNat)
        case atStart => exact ⟨0, by omega, rfl, rfl, hrow, hki⟩
        case round =>
          obtain ⟨a, ha, rfl, rfl, hrow4, hkf⟩ := hrel
          have hfl := first_lt0 (F := F) i h1n ha
          have x0 := hkf.get z0
          by_cases hla : a < F.op.length
          · have l3 : a < F.di[i].length := by rw [hrl]; exact hla
            have l4 : firstT F i a < F.di[i].length := by rw [hrl]; exact hfl
            have c1 := (hkb.trans hkf).get (hop.some_ hla)
            have c2 := (hkb.trans hkf).get (hop.some_ hfl)
            have c3 := (hkb.trans hkf).get (hrr.some_ l3)
            have c5 := (hkb.trans hkf).get (hrr.some_ l4)
            rw [op_at hla] at c1
            rw [op_at hfl] at c2
            rw [di_at hlt l3] at c3
            rw [di_at hlt l4] at c5
            obtain ⟨x1, x2⟩ := opAt_bd HG.out (a : Int)
            obtain ⟨x3, x4⟩ := opAt_bd HG.out (firstT F i a : Int)
            obtain ⟨x5, x6⟩ := dAt_bd HG.out hlt (a : Int)
            obtain ⟨x7, x8⟩ := dAt_bd HG.out hlt (firstT F i a : Int)
            by_cases hct : cstF F i a < cstF F i (firstT F i a)
            · have Hy := Lib.hid (first_yes hct)
              have hct2 : opAt F (a : Int) + dAt F i (a : Int) < opAt F (firstT F i a : Int) + dAt F i (firstT F i a : Int) := hct
              clear hct
              go_wp2_with fail
              go_quiet (fail)
              go_wp2_with fail
              go_roundw
              case rel => exact ⟨a + 1, by omega, by go_num, by rw [Hy.out], hrow4.kp ((Kp.refl _).drewN _), hkf.drewN _⟩
              case measure => simp [intOf]; omega
            · have Hy := Lib.hid (first_no hct)
              have hct2 : ¬ opAt F (a : Int) + dAt F i (a : Int) < opAt F (firstT F i a : Int) + dAt F i (firstT F i a : Int) := hct
              clear hct
              go_wp2_with fail
              go_quiet (fail)
              go_wp2_with fail
              go_roundw
              case rel => exact ⟨a + 1, by omega, by go_num, by rw [Hy.out], hrow4.kp ((Kp.refl _).drewN _), hkf.drewN _⟩
              case measure => simp [intOf]; omega
          · obtain rfl : a = F.op.length := by omega
            have Hff : Hid (firstT F i F.op.length = firstF F i) := rfl
            rw [Hff.out] at hfl ⊢
            obtain ⟨y, hy⟩ : ∃ y, y = firstF F i := ⟨_, rfl⟩
            rw [← hy] at hfl ⊢
            have HP := Lib.hid (bits_put (n := F.op.length) (b := 0) hfl)
            have ho2 : 2 ^ y < 2 ^ F.op.length := Nat.pow_lt_pow_right (by omega) hfl
            have ha7 : 2 ^ y < 2 ^ 7 := Nat.pow_lt_pow_right (by omega) (by omega)
            have hsh := u64_one_shl (y : Int) (by omega) (by omega)
            rw [Int.toNat_natCast] at hsh
            have HB1 : Hid (bitsL F.op.length (2 ^ y) = [(y : Int)]) := by
              show _ = _
              have := HP.out
              rw [Nat.zero_or, bits_zero, putL_nil] at this
              exact this
            have Hw : Hid (wRun F m1 F.op.length [(y : Int)] (bitsL F.op.length (2 ^ y)) = onC F i (onS F i).2) := by show _ = _; rw [HB1.out, Hnil.out, hy]; exact onC_nil Hm1.out
            have Hne1 : Hid (bitsL F.op.length (2 ^ y) ≠ []) := by show _ ≠ _; rw [HB1.out]; simp
            have Hl1 : Hid (F.op.length ≤ F.op.length + (bitsL F.op.length (2 ^ y)).length ∧ ([(y : Int)] : List Int).length ≤ (bitsL F.op.length (2 ^ y)).length) := by rw [HB1.out]; exact ⟨by omega, by simp⟩
            have Hb1 := Lib.hid ho2
            have hrowK := Lib.hid (show Own wr wo.heap.size (.slice (some ⟨wo.heap.size, 0, none⟩) 0 0) [] from hrow4)
            clear ho2 hy HP
            generalize 2 ^ y = pa at *
            have tok1 : True := trivial
            go_wp2_with fail
            go_region_held3 (fun w' => Kp wo w')
              (first | exact (by repeat (first | with_reducible assumption | with_reducible exact Kp.refl _ | with_reducible refine Kp.drew ?_ | with_reducible refine Kp.alloc ?_ _ | with_reducible refine Kp.drewN ?_ _)) | fail)
              (first
                | (have _t := tok1; refine step_app_all (by rfl) (.tmp 58) (.tmp 60) (by rfl) wo.heap.size _ [] [(y : Int)] (some ⟨wr.heap.size, 0, none⟩) 1 1 (by rfl) (by rfl) ((hrowK.out.kp ((Kp.refl _).alloc _)).drew) ((one_new _ _).kp (Kp.refl _).drew) rfl (Nat.le_trans hkf.le (by simp)) (by simp) ?_; intro v' w' ho' ht' _; have hk4 : Kp wo w' := ((hrowK.out.kp ((Kp.refl _).alloc _)).drew).kp_turn (by repeat (first | with_reducible assumption | with_reducible exact Kp.refl _ | with_reducible refine Kp.drew ?_ | with_reducible refine Kp.alloc ?_ _ | with_reducible refine Kp.drewN ?_ _)) (Nat.le_refl _) ht'; have tok2 : True := trivial; clear tok1 _t)
                | fail)
            have hR := ho'
            rw [List.nil_append] at hR
            clear hki
            have hki := hk4
            clear ho' hkf
            go_wp2_with fail
            go_loopw [6, 9] (fun bx rv wr => ∃ (k b : Nat) (row : List Int), Own wr wo.heap.size rv row ∧ bx = .int .u64 (b : Nat) ∧ Hid (b < 2 ^ F.op.length) ∧ Hid (bitsL F.op.length b ≠ []) ∧ Hid (wRun F m1 k row (bitsL F.op.length b) = onC F i (onS F i).2) ∧ Hid (F.op.length ≤ k + (bitsL F.op.length b).length ∧ row.length ≤ (bitsL F.op.length b).length) ∧ Kp wo wr) (fun _ rv _ => F.op.length - sLen rv)
            case atStart => exact ⟨F.op.length, _, [(y : Int)], hR, rfl, Hb1, Hne1, Hw, Hl1, hki⟩
            case round =>
              clear hR hki Hb1 Hne1 Hw Hl1
              obtain ⟨k, b, row, hrow, rfl, Hb, Hne, HR, Hkl, hki⟩ := hrel
              obtain ⟨wl, rfl⟩ : ∃ wl : World, wl = wr := ⟨_, rfl⟩
              have Hs : Hid (setB F (bitsL F.op.length b) = true) := bitsL_set b
              have hsl : (bitsL F.op.length b).length ≤ 7 := Nat.le_trans (set_len Hs.out) h7n
              have hb7 : b < 128 := Nat.lt_of_lt_of_le Hb.out (Nat.pow_le_pow_right (n := 2) (by omega) h7n)
              have hkl := hkb.trans hki
              have hFl := hFA.kp hkl
              have y0 := hkl.get d0
              have y1 := hkl.get d1
              have HWb := Lib.hid (fun a j (hj : j ≤ F.di.length) => wishT_bd HG.out (bitsL F.op.length b) a j hj)
              obtain ⟨Ar, cr, rfl⟩ := hrow.shape
              go_wp2_with fail
              go_loopw [13, 14, 67] (fun bv mv iv wr => ∃ a : Nat, a ≤ F.op.length ∧ iv = .int .i64 a ∧ bv = .int .i64 (wantT F m1 (bitsL F.op.length b) a).1 ∧ mv = .int .i64 (wantT F m1 (bitsL F.op.length b) a).2 ∧ Kp wl wr) (fun _ _ iv _ => F.op.length - (intOf iv).toNat)
              case atStart => exact ⟨0, by omega, rfl, rfl, rfl, Kp.refl _⟩
              case round =>
                obtain ⟨a, ha, rfl, rfl, rfl, hkj⟩ := hrel
                by_cases hla : a < F.op.length
                · have x0 := hkj.get y0
                  have x1 := hkj.get y1
                  have hoc := hop.some_ hla
                  rw [op_at hla] at hoc
                  replace hoc := (hkl.trans hkj).get hoc
                  obtain ⟨o1, o2⟩ := opAt_bd HG.out (a : Int)
                  go_wp2_with fail
                  have CC := Lib.hid (has_any b a wr (by omega) (by omega))
                  with_reducible refine Calls.mono CC.out ?_
                  rintro e wz ⟨rfl, hwz⟩
                  obtain rfl := hwz
                  clear CC
                  have Hba := Lib.hid (bits_any (b := b) hla)
                  cases hbt : b.testBit a
                  · have Hnot : Hid (((bitsL F.op.length b).any fun x => x == (a : Int)) = false) := by show _ = _; rw [Hba.out, hbt]
                    clear hbt
                    obtain ⟨wk, rfl⟩ : ∃ wk : World, wk = wr := ⟨_, rfl⟩
                    go_wp2_with fail
                    go_loopw [16, 81] (fun wv jv wr => ∃ j : Nat, j ≤ m1 ∧ jv = .int .i64 j ∧ wv = .int .i64 (wishT F (bitsL F.op.length b) a j - opAt F (a : Int)) ∧ Kp wl wr) (fun _ jv _ => m1 - (intOf jv).toNat)
                    case atStart => exact ⟨0, by omega, rfl, by rw [show wishT F (bitsL F.op.length b) a 0 = 0 from rfl]; go_num, hkj⟩
                    case round =>
                      clear hkj x0 x1 hoc
                      obtain ⟨j, hj, rfl, rfl, hkj⟩ := hrel
                      obtain ⟨t1, t2⟩ := HWb.out a j (by omega)
                      by_cases hlj : j < m1
                      · have ld : j < F.di.length := by omega
                        obtain ⟨A5, c5, hcj, hrj⟩ := hB.some_ ld
                        have hrlj : F.di[j].length = F.op.length := goodRow HG.out ld
                        obtain ⟨s0, s1⟩ := siteF_bd Hs.out Hne.out j
                        have lra : a < F.di[j].length := by rw [hrlj]; exact hla
                        obtain ⟨rj, rfl, hc4⟩ := hrj.at_ lra
                        rw [di_at ld lra] at hc4
                        have hc3 := dCell ld hrj s0 (by rw [hrlj]; exact s1)
                        rw [show dAt F j (siteF F j (bitsL F.op.length b)) = nearF F j (bitsL F.op.length b) from rfl] at hc3
                        have hst : (siteF F j (bitsL F.op.length b)).toNat < F.di[j].length := by rw [hrlj]; omega
                        have hst2 : siteF F j (bitsL F.op.length b) < (F.di[j].length : Int) := by rw [hrlj]; exact s1
                        have y2 := hkl.get hcj
                        have y3 := hkl.get hc3
                        have y4 := hkl.get hc4
                        obtain ⟨n1, n2⟩ := nearF_bd HG.out (bitsL F.op.length b) j
                        obtain ⟨n3, n4⟩ := dAt_bd HG.out ld (a : Int)
                        have Hsu := Lib.hid (wishT_succ F (bitsL F.op.length b) a j)
                        have hwt : Hid (wT F (bitsL F.op.length b) a j = max 0 (nearF F j (bitsL F.op.length b) - dAt F j (a : Int))) := rfl
                        have C1 := Lib.hid (fun (wx : World) => list_any b F.op.length wx Hb.out (by omega))
                        have C2 := Lib.hid (fun (wx : World) (hx : Kp wl wx) (Al : Option Addr) (cl : Nat) (hi : IntsAt wx Al (bitsL F.op.length b)) => server_any _ F j Al (bitsL F.op.length b) _ cl wx (hFl.kp hx) hi rfl HG.out Hs.out Hne.out ld)
                        generalize nearF F j (bitsL F.op.length b) = p at *
                        generalize dAt F j (a : Int) = q at *
                        generalize hsv : siteF F j (bitsL F.op.length b) = sv at *
                        have hwr : IntKind.i64.wrap (p - q) = p - q := IntWalk.i64_in _ (by omega)
                        clear hrlj hsv
                        have hwr2 : IntKind.i64.wrap (wishT F (bitsL F.op.length b) a j - opAt F (a : Int) + max 0 (p - q)) = wishT F (bitsL F.op.length b) a j - opAt F (a : Int) + max 0 (p - q) := IntWalk.i64_in _ (by omega)
                        have q_y0 := hkj.get y0
                        have q_y1 := hkj.get y1
                        have q_y2 := hkj.get y2
                        have q_y3 := hkj.get y3
                        have q_y4 := hkj.get y4
                        have tok1 : True := trivial
                        go_wp2_with fail
                        go_region_held3 (fun w' => w'.cell? ⟨w.heap.size, 0, none⟩ = some (.slice (some od) F.op.length c) ∧ w'.cell? ⟨w.heap.size, 1, none⟩ = some (.slice (some bd) F.di.length d) ∧ w'.cell? (bd.add j) = some (.slice (some rj) F.di[j].length c5) ∧ w'.cell? (rj.add sv.toNat) = some (.int .i64 p) ∧ w'.cell? (rj.add a) = some (.int .i64 q) ∧ Kp wl w')
                          (first | (refine keepc5 y0 y1 y2 y3 y4 ?_; exact (by repeat (first | with_reducible assumption | with_reducible exact Kp.refl _ | with_reducible refine Kp.drew ?_ | with_reducible refine Kp.alloc ?_ _ | with_reducible refine Kp.drewN ?_ _))) | fail)
                          (first
                            | (have _t := tok1; go_at_call 90; with_reducible refine Calls.mono (C1.out _) ?_; rintro e wr1 ⟨vl, rfl, hol, hka⟩; have hr1 : Kp wl wr1 := Kp.trans (by repeat (first | with_reducible assumption | with_reducible exact Kp.refl _ | with_reducible refine Kp.drew ?_ | with_reducible refine Kp.alloc ?_ _ | with_reducible refine Kp.drewN ?_ _)) hka; obtain ⟨Al, cl, hle, hli⟩ := hol.ints (by omega); subst hle; have tok2 : True := trivial; clear tok1 _t)
                            | (have _t := tok2; go_at_call 89; with_reducible refine Calls.mono (C2.out _ hr1 Al cl hli) ?_; rintro e wr2 ⟨rfl, hka⟩; have hr2 : Kp wl wr2 := Kp.trans (by repeat (first | with_reducible assumption | with_reducible exact Kp.refl _ | with_reducible refine Kp.drew ?_ | with_reducible refine Kp.alloc ?_ _ | with_reducible refine Kp.drewN ?_ _)) hka; have tok3 : True := trivial; clear tok2 _t)
                            | fail)
                        all_goals
                          go_wp2_with fail
                          go_roundw
                          case rel => exact ⟨j + 1, by omega, by go_num, by rw [Hsu.out, hwt.out] <;> go_num, hr2⟩
                          case measure => simp [intOf]; omega
                      · obtain rfl : j = m1 := by omega
                        have Hwf : Hid (wishF F j (bitsL F.op.length b) a = wishT F (bitsL F.op.length b) a j - opAt F (a : Int)) := rfl
                        by_cases hgt : (wantT F j (bitsL F.op.length b) a).2 < wishF F j (bitsL F.op.length b) a
                        · have Hy := Lib.hid (want_yes Hnot.out hgt)
                          have hgt2 : (wantT F j (bitsL F.op.length b) a).2 < wishT F (bitsL F.op.length b) a j - opAt F (a : Int) := hgt
                          clear hgt
                          go_wp2_with fail
                          go_roundw
                          case rel => exact ⟨a + 1, by omega, by go_num, by rw [Hy.out], by rw [Hy.out, Hwf.out], hkj⟩
                          case measure => simp [intOf]; omega
                        · have Hy := Lib.hid (want_less hgt)
                          have hgt2 : ¬ (wantT F j (bitsL F.op.length b) a).2 < wishT F (bitsL F.op.length b) a j - opAt F (a : Int) := hgt
                          clear hgt
                          go_wp2_with fail
                          go_roundw
                          case rel => exact ⟨a + 1, by omega, by go_num, by rw [Hy.out], by rw [Hy.out], hkj⟩
                          case measure => simp [intOf]; omega
                  · have Hy := Lib.hid (want_in (m := m1) (F := F) (Hba.out.trans hbt))
                    clear hbt
                    go_wp2_with fail
                    go_roundw
                    case rel => exact ⟨a + 1, by omega, by go_num, by rw [Hy.out], by rw [Hy.out], hkj⟩
                    case measure => simp [intOf]; omega
                · obtain rfl : a = F.op.length := by omega
                  have Hwn : Hid ((wantT F m1 (bitsL F.op.length b) F.op.length).1 = wantF F m1 (bitsL F.op.length b)) := rfl
                  rw [Hwn.out]
                  have hrow2 := hrow.kp hkj
                  replace hki := hki.trans hkj
                  replace hkl := hkl.trans hkj
                  obtain ⟨z, hz⟩ : ∃ z, z = wantF F m1 (bitsL F.op.length b) := ⟨_, rfl⟩
                  by_cases hneg : wantF F m1 (bitsL F.op.length b) < 0
                  · have Hst := Lib.hid (HR.out.symm.trans (wRun_stop hneg))
                    have hneg2 : z < 0 := by omega
                    rw [← hz]
                    clear hz hneg
                    obtain ⟨hs, hgs, hgr, hgp⟩ := hgo
                    have hlh := GOn.lenH hgs
                    have hs1i := siteF_bd Hs.out Hne.out i
                    have hrl2 := Hkl.out.2
                    have hu : RowP wr (some (w.heap.size + 1)) (.slice Ar row.length cr) row := RowP.of_own (hrow2.mono hb1) (by omega)
                    have hud : ∀ g, (Value.slice Ar row.length cr).ownBlock = some g → ov.ownBlock ≠ some g ∧ lv.ownBlock ≠ some g := fun g hg => by
                      have h1 := (hrow2.lt g hg).1
                      exact ⟨fun e => by have := (hgs.lt g e).2; omega, fun e => by have := (hlv.lt g e).2; omega⟩
                    have HGP : Hid (GPair (hs ++ [.slice Ar row.length cr])) := hgp.snoc (fun j x g hj hx hg => by have h1 := hgr.below hlh hj hx; have h2 := (hrow2.lt g hg).1; omega)
                    have hk1 : Kp wr (wr.alloc (.cells #[.slice Ar row.length cr] 22)).drew := ((Kp.refl wr).alloc _).drew
                    have HOV := Lib.hid ((hki.trans hk1).own hgs)
                    have HGR : Hid (GRow (wr.alloc (.cells #[.slice Ar row.length cr] 22)).drew (w.heap.size + 1) hs (onS F i).1 ov lv) := fun j hj => by obtain ⟨u, e1, e2, e3⟩ := hgr j hj; exact ⟨u, e1, e2.kp (hki.trans hk1), e3⟩
                    have HU := Lib.hid (hu.kp hk1)
                    have HUD := Lib.hid hud
                    have HLV := Lib.hid (hlv.kp (hki.trans hk1))
                    have HKW := Lib.hid (hkl.trans hk1)
                    have hbs1 : w.heap.size + 1 ≤ (wr.alloc (.cells #[.slice Ar row.length cr] 22)).drew.heap.size := Nat.le_trans hs1 HKW.out.le
                    have hll : (onS F i).1.length < 1048576 := by rw [onS_len]; omega
                    have hml := Lib.hid (mapTo_len (onN F) i)
                    have hlen2 : (mapTo (onN F) i).length < 1048576 := by rw [hml.out]; omega
                    have hci := dCell hlt hrr hs1i.1 (by rw [hrl]; exact hs1i.2)
                    rw [show dAt F i (siteF F i (bitsL F.op.length b)) = nearF F i (bitsL F.op.length b) from rfl] at hci
                    obtain ⟨sx, sy⟩ := hs1i
                    have hst : (siteF F i (bitsL F.op.length b)).toNat < F.di[i].length := by rw [hrl]; omega
                    have hst2 : siteF F i (bitsL F.op.length b) < (F.di[i].length : Int) := by rw [hrl]; exact sy
                    have hst3 : (siteF F i (bitsL F.op.length b)).toNat < F.op.length := by omega
                    have hst4 : siteF F i (bitsL F.op.length b) < (F.op.length : Int) := sy
                    have HO1 : Hid ((onS F m1).1 = (onS F i).1 ++ [row]) := by show _ = _; rw [Hm1.out, onS_succ, Hst.out]
                    have HO2 : Hid (bitsL F.op.length b = (onS F m1).2) := by show _ = _; rw [Hm1.out, onS_succ, Hst.out]
                    have HO3 : Hid (mapTo (onN F) m1 = mapTo (onN F) i ++ [nearF F i (bitsL F.op.length b)]) := by show _ = _; rw [Hm1.out, mapTo_succ, onN, onS_succ, Hst.out]
                    have C1 := Lib.hid (fun (wx : World) => list_any b F.op.length wx Hb.out (by omega))
                    have C2 := Lib.hid (fun (wx : World) (hx : Kp wb wx) (Al : Option Addr) (cl : Nat) (hi : IntsAt wx Al (bitsL F.op.length b)) => server_any _ F i Al (bitsL F.op.length b) _ cl wx (hFA.kp hx) hi rfl HG.out Hs.out Hne.out hlt)
                    clear hgs hgr hgp hu hud hk1 sy hsl
                    generalize nearF F i (bitsL F.op.length b) = p at *
                    generalize hsv : siteF F i (bitsL F.op.length b) = sv at *
                    clear hsv
                    have hll8 : (bitsL F.op.length b).length ≤ 9223372036854775807 := Nat.le_trans (bitsL_len _ _) (by omega)
                    have q_d0 := hkl.get d0
                    have q_d1 := hkl.get d1
                    have q_hci := hkl.get hci
                    have tok1 : True := trivial
                    go_wp2_with fail
                    go_region_held3 (fun w' => w'.cell? ⟨w.heap.size, 0, none⟩ = some (.slice (some od) F.op.length c) ∧ w'.cell? ⟨w.heap.size, 1, none⟩ = some (.slice (some bd) F.di.length d) ∧ w'.cell? (rd.add sv.toNat) = some (.int .i64 p) ∧ Kp wb w')
                      (first | (refine keepc3 d0 d1 hci ?_; exact (by repeat (first | with_reducible assumption | with_reducible exact Kp.refl _ | with_reducible refine Kp.drew ?_ | with_reducible refine Kp.alloc ?_ _ | with_reducible refine Kp.drewN ?_ _))) | fail)
                      (first
                        | (have _t := tok1; refine step_appv (by rfl) (.tmp 125) (.tmp 127) (by rfl) (w.heap.size + 1) ov (onS F i).1.length hs (.slice Ar row.length cr) ⟨wr.heap.size, 0, none⟩ (by rfl) (by rfl) HOV.out rfl ((Kp.refl _).drew.get (by rw [World.cell?_alloc_at _ _ _ _ rfl]; rfl)) hbs1 hll ?_; intro g' c' w' ho' ht' h4'; have hk4 : Kp wb w' := HKW.out.turn ht' (fun x hx => Nat.le_trans hs2 (HOV.out.lt x hx).1); have hlv2 := HLV.out.apart_turn hap ht'; have hap2 := apart_appv (m := (onS F i).1.length + 1) (c' := c') hap HLV.out h4'; have hG2 : GOn w' (w.heap.size + 1) (.slice (some ⟨g', 0, none⟩) ((onS F i).1.length + 1) c') ((onS F i).1 ++ [row]) lv := ⟨_, by rw [List.length_append]; exact ho', HGR.out.snoc hlh ht' h4' HU.out HUD.out, HGP.out⟩; have tok2 : True := trivial; clear tok1 _t)
                        | (have _t := tok2; go_at_call 90; with_reducible refine Calls.mono (C1.out _) ?_; rintro e wr2 ⟨vl, rfl, hol, hka⟩; have hr2 : Kp wb wr2 := Kp.trans (by repeat (first | with_reducible assumption | with_reducible exact Kp.refl _ | with_reducible refine Kp.drew ?_ | with_reducible refine Kp.alloc ?_ _ | with_reducible refine Kp.drewN ?_ _)) hka; obtain ⟨Al, cl, hle, hli⟩ := hol.ints hll8; subst hle; have hlv3 := hlv2.kp hka; have hG3 := hG2.kp hka; have tok3 : True := trivial; clear tok2 _t)
                        | (have _t := tok3; go_at_call 89; with_reducible refine Calls.mono (C2.out _ hr2 Al cl hli) ?_; rintro e wr3 ⟨rfl, hka⟩; have hr3 : Kp wb wr3 := Kp.trans (by repeat (first | with_reducible assumption | with_reducible exact Kp.refl _ | with_reducible refine Kp.drew ?_ | with_reducible refine Kp.alloc ?_ _ | with_reducible refine Kp.drewN ?_ _)) hka; have hlv4 := hlv3.kp hka; have hG4 := hG3.kp hka; have tok4 : True := trivial; clear tok3 _t)
                        | (have _t := tok4; refine step_app (by rfl) (.tmp 129) (.tmp 138) (by rfl) (w.heap.size + 1) lv (mapTo (onN F) i) p _ (by rfl) (by rfl) (by rfl) hlv4 (Nat.le_trans hs1 hr3.le) hlen2 ?_; intro v2 w2 ho2 ht2 h42; have hk5 : Kp wb w2 := hlv4.kp_turn hr3 hs2 ht2; have hG5 := hG4.turnL hap2 ht2 h42; have hap5 := apart_right hap2 hG4 h42; have tok5 : True := trivial; clear tok4 _t)
                        | fail)
                    go_wp2_with fail
                    go_roundw
                    case rel => exact ⟨m1, _, v2, b, rfl, rfl, by omega, by go_num, by rw [HO1.out]; exact hG5, by rw [HO3.out]; exact ho2, hap5, rfl, Hb, HO2, hk5⟩
                    case measure => simp [intOf]; omega
                  · have HN := Lib.hid (want_new hneg)
                    have hz0 : 0 ≤ z := by omega
                    have hzn : z < F.op.length := by rw [hz]; exact HN.out.2
                    obtain ⟨y, rfl⟩ := Int.eq_ofNat_of_zero_le hz0
                    have hyn : y < F.op.length := by omega
                    have hnew : (y : Int) ∉ bitsL F.op.length b := by rw [hz]; exact HN.out.1
                    have hpl := putL_new hnew
                    have HP := Lib.hid (bits_put (b := b) hyn)
                    have hpl2 := set_len (setB_put Hs.out hz0 hzn)
                    have hkk := Hkl.out.1
                    have hkk2 := Hkl.out.2
                    obtain ⟨k', rfl⟩ : ∃ k', k = k' + 1 := ⟨k - 1, by omega⟩
                    have ho2 := Nat.or_lt_two_pow Hb.out (Nat.pow_lt_pow_right (by omega) hyn : 2 ^ y < 2 ^ F.op.length)
                    have ha7 : 2 ^ y < 2 ^ 7 := Nat.pow_lt_pow_right (by omega) (by omega)
                    have hsh := u64_one_shl (y : Int) (by omega) (by omega)
                    rw [Int.toNat_natCast] at hsh
                    have hor := u64_or_nat b (2 ^ y) (by omega) (by omega)
                    have HR2 : Hid (wRun F m1 k' (row ++ [(y : Int)]) (bitsL F.op.length (b ||| 2 ^ y)) = onC F i (onS F i).2) := by show _ = _; rw [← HR.out, wRun_go hneg, HP.out, hz]
                    rw [← hz]
                    have hro : row.length + 1 ≤ 4194304 := by omega
                    have hrm : row.length < F.op.length := by omega
                    clear hz hneg HR HN hnew hpl2
                    have Hkk : Hid (F.op.length ≤ k' + (bitsL F.op.length (b ||| 2 ^ y)).length ∧ (row ++ [(y : Int)]).length ≤ (bitsL F.op.length (b ||| 2 ^ y)).length) := by rw [HP.out]; exact ⟨by omega, by rw [List.length_append]; simp; omega⟩
                    have Hne2 : Hid (bitsL F.op.length (b ||| 2 ^ y) ≠ []) := by show _ ≠ _; rw [HP.out]; exact putL_ne _ _
                    have HO2 := Lib.hid ho2
                    clear ho2 hpl hkk hkk2 hz0 hzn
                    generalize 2 ^ y = pa at *
                    obtain ⟨wr0, hwr0⟩ : ∃ wr0 : World, wr0 = wr := ⟨_, rfl⟩
                    clear hwr0
                    have tok1 : True := trivial
                    go_wp2_with fail
                    go_region_held3 (fun w' => Kp wo w')
                      (first | exact (by repeat (first | with_reducible assumption | with_reducible exact Kp.refl _ | with_reducible refine Kp.drew ?_ | with_reducible refine Kp.alloc ?_ _ | with_reducible refine Kp.drewN ?_ _)) | fail)
                      (first
                        | (have _t := tok1; refine step_app_all (by rfl) (.tmp 117) (.tmp 119) (by rfl) wo.heap.size _ row [(y : Int)] (some ⟨wr.heap.size, 0, none⟩) 1 1 (by rfl) (by rfl) ((hrow2.kp ((Kp.refl _).alloc _)).drew) ((one_new _ _).kp (Kp.refl _).drew) rfl (Nat.le_trans hki.le (by simp)) (by simp; omega) ?_; intro v' w' ho' ht' _; have hk4 : Kp wo w' := ((hrow2.kp ((Kp.refl _).alloc _)).drew).kp_turn (by repeat (first | with_reducible assumption | with_reducible exact Kp.refl _ | with_reducible refine Kp.drew ?_ | with_reducible refine Kp.alloc ?_ _ | with_reducible refine Kp.drewN ?_ _)) (Nat.le_refl _) ht'; have tok2 : True := trivial; clear tok1 _t)
                        | fail)
                    go_wp2_with fail
                    go_roundw
                    case rel => exact ⟨k', b ||| pa, row ++ [(y : Int)], ho', by go_num, HO2.out, Hne2, HR2, Hkk, hk4⟩
                    case measure =>
                      obtain ⟨A7, c7, e7⟩ := ho'.shape
                      rw [e7, List.length_append]
                      simp [sLen]; omega
      · have hbe : ((b : Int) == 0) = false := by simp; omega
        have Hne1 : Hid (bitsL F.op.length b ≠ []) := fun e => hb0 ((bits_nil Hb.out).1 e)
        have Hb1 := Hb
        have Hw : Hid (wRun F m1 F.op.length [] (bitsL F.op.length b) = onC F i (onS F i).2) := by show _ = _; rw [HS.out]; exact onC_cons Hm1.out (by rw [← HS.out]; exact Hne1.out)
        have Hl1 : Hid (F.op.length ≤ F.op.length + (bitsL F.op.length b).length ∧ ([] : List Int).length ≤ (bitsL F.op.length b).length) := ⟨by omega, by simp⟩
        have hR := hrow
        clear hb0 hrow
        go_wp2_with fail
        go_loopw [6, 9] (fun bx rv wr => ∃ (k b : Nat) (row : List Int), Own wr wo.heap.size rv row ∧ bx = .int .u64 (b : Nat) ∧ Hid (b < 2 ^ F.op.length) ∧ Hid (bitsL F.op.length b ≠ []) ∧ Hid (wRun F m1 k row (bitsL F.op.length b) = onC F i (onS F i).2) ∧ Hid (F.op.length ≤ k + (bitsL F.op.length b).length ∧ row.length ≤ (bitsL F.op.length b).length) ∧ Kp wo wr) (fun _ rv _ => F.op.length - sLen rv)
        case atStart => exact ⟨F.op.length, _, [], hR, rfl, Hb1, Hne1, Hw, Hl1, hki⟩
        case round =>
          clear hR hki Hb1 Hne1 Hw Hl1
          obtain ⟨k, b, row, hrow, rfl, Hb, Hne, HR, Hkl, hki⟩ := hrel
          obtain ⟨wl, rfl⟩ : ∃ wl : World, wl = wr := ⟨_, rfl⟩
          have Hs : Hid (setB F (bitsL F.op.length b) = true) := bitsL_set b
          have hsl : (bitsL F.op.length b).length ≤ 7 := Nat.le_trans (set_len Hs.out) h7n
          have hb7 : b < 128 := Nat.lt_of_lt_of_le Hb.out (Nat.pow_le_pow_right (n := 2) (by omega) h7n)
          have hkl := hkb.trans hki
          have hFl := hFA.kp hkl
          have y0 := hkl.get d0
          have y1 := hkl.get d1
          have HWb := Lib.hid (fun a j (hj : j ≤ F.di.length) => wishT_bd HG.out (bitsL F.op.length b) a j hj)
          obtain ⟨Ar, cr, rfl⟩ := hrow.shape
          go_wp2_with fail
          go_loopw [13, 14, 67] (fun bv mv iv wr => ∃ a : Nat, a ≤ F.op.length ∧ iv = .int .i64 a ∧ bv = .int .i64 (wantT F m1 (bitsL F.op.length b) a).1 ∧ mv = .int .i64 (wantT F m1 (bitsL F.op.length b) a).2 ∧ Kp wl wr) (fun _ _ iv _ => F.op.length - (intOf iv).toNat)
          case atStart => exact ⟨0, by omega, rfl, rfl, rfl, Kp.refl _⟩
          case round =>
            obtain ⟨a, ha, rfl, rfl, rfl, hkj⟩ := hrel
            by_cases hla : a < F.op.length
            · have x0 := hkj.get y0
              have x1 := hkj.get y1
              have hoc := hop.some_ hla
              rw [op_at hla] at hoc
              replace hoc := (hkl.trans hkj).get hoc
              obtain ⟨o1, o2⟩ := opAt_bd HG.out (a : Int)
              go_wp2_with fail
              have CC := Lib.hid (has_any b a wr (by omega) (by omega))
              with_reducible refine Calls.mono CC.out ?_
              rintro e wz ⟨rfl, hwz⟩
              obtain rfl := hwz
              clear CC
              have Hba := Lib.hid (bits_any (b := b) hla)
              cases hbt : b.testBit a
              · have Hnot : Hid (((bitsL F.op.length b).any fun x => x == (a : Int)) = false) := by show _ = _; rw [Hba.out, hbt]
                clear hbt
                obtain ⟨wk, rfl⟩ : ∃ wk : World, wk = wr := ⟨_, rfl⟩
                go_wp2_with fail
                go_loopw [16, 81] (fun wv jv wr => ∃ j : Nat, j ≤ m1 ∧ jv = .int .i64 j ∧ wv = .int .i64 (wishT F (bitsL F.op.length b) a j - opAt F (a : Int)) ∧ Kp wl wr) (fun _ jv _ => m1 - (intOf jv).toNat)
                case atStart => exact ⟨0, by omega, rfl, by rw [show wishT F (bitsL F.op.length b) a 0 = 0 from rfl]; go_num, hkj⟩
                case round =>
                  clear hkj x0 x1 hoc
                  obtain ⟨j, hj, rfl, rfl, hkj⟩ := hrel
                  obtain ⟨t1, t2⟩ := HWb.out a j (by omega)
                  by_cases hlj : j < m1
                  · have ld : j < F.di.length := by omega
                    obtain ⟨A5, c5, hcj, hrj⟩ := hB.some_ ld
                    have hrlj : F.di[j].length = F.op.length := goodRow HG.out ld
                    obtain ⟨s0, s1⟩ := siteF_bd Hs.out Hne.out j
                    have lra : a < F.di[j].length := by rw [hrlj]; exact hla
                    obtain ⟨rj, rfl, hc4⟩ := hrj.at_ lra
                    rw [di_at ld lra] at hc4
                    have hc3 := dCell ld hrj s0 (by rw [hrlj]; exact s1)
                    rw [show dAt F j (siteF F j (bitsL F.op.length b)) = nearF F j (bitsL F.op.length b) from rfl] at hc3
                    have hst : (siteF F j (bitsL F.op.length b)).toNat < F.di[j].length := by rw [hrlj]; omega
                    have hst2 : siteF F j (bitsL F.op.length b) < (F.di[j].length : Int) := by rw [hrlj]; exact s1
                    have y2 := hkl.get hcj
                    have y3 := hkl.get hc3
                    have y4 := hkl.get hc4
                    obtain ⟨n1, n2⟩ := nearF_bd HG.out (bitsL F.op.length b) j
                    obtain ⟨n3, n4⟩ := dAt_bd HG.out ld (a : Int)
                    have Hsu := Lib.hid (wishT_succ F (bitsL F.op.length b) a j)
                    have hwt : Hid (wT F (bitsL F.op.length b) a j = max 0 (nearF F j (bitsL F.op.length b) - dAt F j (a : Int))) := rfl
                    have C1 := Lib.hid (fun (wx : World) => list_any b F.op.length wx Hb.out (by omega))
                    have C2 := Lib.hid (fun (wx : World) (hx : Kp wl wx) (Al : Option Addr) (cl : Nat) (hi : IntsAt wx Al (bitsL F.op.length b)) => server_any _ F j Al (bitsL F.op.length b) _ cl wx (hFl.kp hx) hi rfl HG.out Hs.out Hne.out ld)
                    generalize nearF F j (bitsL F.op.length b) = p at *
                    generalize dAt F j (a : Int) = q at *
                    generalize hsv : siteF F j (bitsL F.op.length b) = sv at *
                    have hwr : IntKind.i64.wrap (p - q) = p - q := IntWalk.i64_in _ (by omega)
                    clear hrlj hsv
                    have hwr2 : IntKind.i64.wrap (wishT F (bitsL F.op.length b) a j - opAt F (a : Int) + max 0 (p - q)) = wishT F (bitsL F.op.length b) a j - opAt F (a : Int) + max 0 (p - q) := IntWalk.i64_in _ (by omega)
                    have q_y0 := hkj.get y0
                    have q_y1 := hkj.get y1
                    have q_y2 := hkj.get y2
                    have q_y3 := hkj.get y3
                    have q_y4 := hkj.get y4
                    have tok1 : True := trivial
                    go_wp2_with fail
                    go_region_held3 (fun w' => w'.cell? ⟨w.heap.size, 0, none⟩ = some (.slice (some od) F.op.length c) ∧ w'.cell? ⟨w.heap.size, 1, none⟩ = some (.slice (some bd) F.di.length d) ∧ w'.cell? (bd.add j) = some (.slice (some rj) F.di[j].length c5) ∧ w'.cell? (rj.add sv.toNat) = some (.int .i64 p) ∧ w'.cell? (rj.add a) = some (.int .i64 q) ∧ Kp wl w')
                      (first | (refine keepc5 y0 y1 y2 y3 y4 ?_; exact (by repeat (first | with_reducible assumption | with_reducible exact Kp.refl _ | with_reducible refine Kp.drew ?_ | with_reducible refine Kp.alloc ?_ _ | with_reducible refine Kp.drewN ?_ _))) | fail)
                      (first
                        | (have _t := tok1; go_at_call 90; with_reducible refine Calls.mono (C1.out _) ?_; rintro e wr1 ⟨vl, rfl, hol, hka⟩; have hr1 : Kp wl wr1 := Kp.trans (by repeat (first | with_reducible assumption | with_reducible exact Kp.refl _ | with_reducible refine Kp.drew ?_ | with_reducible refine Kp.alloc ?_ _ | with_reducible refine Kp.drewN ?_ _)) hka; obtain ⟨Al, cl, hle, hli⟩ := hol.ints (by omega); subst hle; have tok2 : True := trivial; clear tok1 _t)
                        | (have _t := tok2; go_at_call 89; with_reducible refine Calls.mono (C2.out _ hr1 Al cl hli) ?_; rintro e wr2 ⟨rfl, hka⟩; have hr2 : Kp wl wr2 := Kp.trans (by repeat (first | with_reducible assumption | with_reducible exact Kp.refl _ | with_reducible refine Kp.drew ?_ | with_reducible refine Kp.alloc ?_ _ | with_reducible refine Kp.drewN ?_ _)) hka; have tok3 : True := trivial; clear tok2 _t)
                        | fail)
                    all_goals
                      go_wp2_with fail
                      go_roundw
                      case rel => exact ⟨j + 1, by omega, by go_num, by rw [Hsu.out, hwt.out] <;> go_num, hr2⟩
                      case measure => simp [intOf]; omega
                  · obtain rfl : j = m1 := by omega
                    have Hwf : Hid (wishF F j (bitsL F.op.length b) a = wishT F (bitsL F.op.length b) a j - opAt F (a : Int)) := rfl
                    by_cases hgt : (wantT F j (bitsL F.op.length b) a).2 < wishF F j (bitsL F.op.length b) a
                    · have Hy := Lib.hid (want_yes Hnot.out hgt)
                      have hgt2 : (wantT F j (bitsL F.op.length b) a).2 < wishT F (bitsL F.op.length b) a j - opAt F (a : Int) := hgt
                      clear hgt
                      go_wp2_with fail
                      go_roundw
                      case rel => exact ⟨a + 1, by omega, by go_num, by rw [Hy.out], by rw [Hy.out, Hwf.out], hkj⟩
                      case measure => simp [intOf]; omega
                    · have Hy := Lib.hid (want_less hgt)
                      have hgt2 : ¬ (wantT F j (bitsL F.op.length b) a).2 < wishT F (bitsL F.op.length b) a j - opAt F (a : Int) := hgt
                      clear hgt
                      go_wp2_with fail
                      go_roundw
                      case rel => exact ⟨a + 1, by omega, by go_num, by rw [Hy.out], by rw [Hy.out], hkj⟩
                      case measure => simp [intOf]; omega
              · have Hy := Lib.hid (want_in (m := m1) (F := F) (Hba.out.trans hbt))
                clear hbt
                go_wp2_with fail
                go_roundw
                case rel => exact ⟨a + 1, by omega, by go_num, by rw [Hy.out], by rw [Hy.out], hkj⟩
                case measure => simp [intOf]; omega
            · obtain rfl : a = F.op.length := by omega
              have Hwn : Hid ((wantT F m1 (bitsL F.op.length b) F.op.length).1 = wantF F m1 (bitsL F.op.length b)) := rfl
              rw [Hwn.out]
              have hrow2 := hrow.kp hkj
              replace hki := hki.trans hkj
              replace hkl := hkl.trans hkj
              obtain ⟨z, hz⟩ : ∃ z, z = wantF F m1 (bitsL F.op.length b) := ⟨_, rfl⟩
              by_cases hneg : wantF F m1 (bitsL F.op.length b) < 0
              · have Hst := Lib.hid (HR.out.symm.trans (wRun_stop hneg))
                have hneg2 : z < 0 := by omega
                rw [← hz]
                clear hz hneg
                obtain ⟨hs, hgs, hgr, hgp⟩ := hgo
                have hlh := GOn.lenH hgs
                have hs1i := siteF_bd Hs.out Hne.out i
                have hrl2 := Hkl.out.2
                have hu : RowP wr (some (w.heap.size + 1)) (.slice Ar row.length cr) row := RowP.of_own (hrow2.mono hb1) (by omega)
                have hud : ∀ g, (Value.slice Ar row.length cr).ownBlock = some g → ov.ownBlock ≠ some g ∧ lv.ownBlock ≠ some g := fun g hg => by
                  have h1 := (hrow2.lt g hg).1
                  exact ⟨fun e => by have := (hgs.lt g e).2; omega, fun e => by have := (hlv.lt g e).2; omega⟩
                have HGP : Hid (GPair (hs ++ [.slice Ar row.length cr])) := hgp.snoc (fun j x g hj hx hg => by have h1 := hgr.below hlh hj hx; have h2 := (hrow2.lt g hg).1; omega)
                have hk1 : Kp wr (wr.alloc (.cells #[.slice Ar row.length cr] 22)).drew := ((Kp.refl wr).alloc _).drew
                have HOV := Lib.hid ((hki.trans hk1).own hgs)
                have HGR : Hid (GRow (wr.alloc (.cells #[.slice Ar row.length cr] 22)).drew (w.heap.size + 1) hs (onS F i).1 ov lv) := fun j hj => by obtain ⟨u, e1, e2, e3⟩ := hgr j hj; exact ⟨u, e1, e2.kp (hki.trans hk1), e3⟩
                have HU := Lib.hid (hu.kp hk1)
                have HUD := Lib.hid hud
                have HLV := Lib.hid (hlv.kp (hki.trans hk1))
                have HKW := Lib.hid (hkl.trans hk1)
                have hbs1 : w.heap.size + 1 ≤ (wr.alloc (.cells #[.slice Ar row.length cr] 22)).drew.heap.size := Nat.le_trans hs1 HKW.out.le
                have hll : (onS F i).1.length < 1048576 := by rw [onS_len]; omega
                have hml := Lib.hid (mapTo_len (onN F) i)
                have hlen2 : (mapTo (onN F) i).length < 1048576 := by rw [hml.out]; omega
                have hci := dCell hlt hrr hs1i.1 (by rw [hrl]; exact hs1i.2)
                rw [show dAt F i (siteF F i (bitsL F.op.length b)) = nearF F i (bitsL F.op.length b) from rfl] at hci
                obtain ⟨sx, sy⟩ := hs1i
                have hst : (siteF F i (bitsL F.op.length b)).toNat < F.di[i].length := by rw [hrl]; omega
                have hst2 : siteF F i (bitsL F.op.length b) < (F.di[i].length : Int) := by rw [hrl]; exact sy
                have hst3 : (siteF F i (bitsL F.op.length b)).toNat < F.op.length := by omega
                have hst4 : siteF F i (bitsL F.op.length b) < (F.op.length : Int) := sy
                have HO1 : Hid ((onS F m1).1 = (onS F i).1 ++ [row]) := by show _ = _; rw [Hm1.out, onS_succ, Hst.out]
                have HO2 : Hid (bitsL F.op.length b = (onS F m1).2) := by show _ = _; rw [Hm1.out, onS_succ, Hst.out]
                have HO3 : Hid (mapTo (onN F) m1 = mapTo (onN F) i ++ [nearF F i (bitsL F.op.length b)]) := by show _ = _; rw [Hm1.out, mapTo_succ, onN, onS_succ, Hst.out]
                have C1 := Lib.hid (fun (wx : World) => list_any b F.op.length wx Hb.out (by omega))
                have C2 := Lib.hid (fun (wx : World) (hx : Kp wb wx) (Al : Option Addr) (cl : Nat) (hi : IntsAt wx Al (bitsL F.op.length b)) => server_any _ F i Al (bitsL F.op.length b) _ cl wx (hFA.kp hx) hi rfl HG.out Hs.out Hne.out hlt)
                clear hgs hgr hgp hu hud hk1 sy hsl
                generalize nearF F i (bitsL F.op.length b) = p at *
                generalize hsv : siteF F i (bitsL F.op.length b) = sv at *
                clear hsv
                have hll8 : (bitsL F.op.length b).length ≤ 9223372036854775807 := Nat.le_trans (bitsL_len _ _) (by omega)
                have q_d0 := hkl.get d0
                have q_d1 := hkl.get d1
                have q_hci := hkl.get hci
                have tok1 : True := trivial
                go_wp2_with fail
                go_region_held3 (fun w' => w'.cell? ⟨w.heap.size, 0, none⟩ = some (.slice (some od) F.op.length c) ∧ w'.cell? ⟨w.heap.size, 1, none⟩ = some (.slice (some bd) F.di.length d) ∧ w'.cell? (rd.add sv.toNat) = some (.int .i64 p) ∧ Kp wb w')
                  (first | (refine keepc3 d0 d1 hci ?_; exact (by repeat (first | with_reducible assumption | with_reducible exact Kp.refl _ | with_reducible refine Kp.drew ?_ | with_reducible refine Kp.alloc ?_ _ | with_reducible refine Kp.drewN ?_ _))) | fail)
                  (first
                    | (have _t := tok1; refine step_appv (by rfl) (.tmp 125) (.tmp 127) (by rfl) (w.heap.size + 1) ov (onS F i).1.length hs (.slice Ar row.length cr) ⟨wr.heap.size, 0, none⟩ (by rfl) (by rfl) HOV.out rfl ((Kp.refl _).drew.get (by rw [World.cell?_alloc_at _ _ _ _ rfl]; rfl)) hbs1 hll ?_; intro g' c' w' ho' ht' h4'; have hk4 : Kp wb w' := HKW.out.turn ht' (fun x hx => Nat.le_trans hs2 (HOV.out.lt x hx).1); have hlv2 := HLV.out.apart_turn hap ht'; have hap2 := apart_appv (m := (onS F i).1.length + 1) (c' := c') hap HLV.out h4'; have hG2 : GOn w' (w.heap.size + 1) (.slice (some ⟨g', 0, none⟩) ((onS F i).1.length + 1) c') ((onS F i).1 ++ [row]) lv := ⟨_, by rw [List.length_append]; exact ho', HGR.out.snoc hlh ht' h4' HU.out HUD.out, HGP.out⟩; have tok2 : True := trivial; clear tok1 _t)
                    | (have _t := tok2; go_at_call 90; with_reducible refine Calls.mono (C1.out _) ?_; rintro e wr2 ⟨vl, rfl, hol, hka⟩; have hr2 : Kp wb wr2 := Kp.trans (by repeat (first | with_reducible assumption | with_reducible exact Kp.refl _ | with_reducible refine Kp.drew ?_ | with_reducible refine Kp.alloc ?_ _ | with_reducible refine Kp.drewN ?_ _)) hka; obtain ⟨Al, cl, hle, hli⟩ := hol.ints hll8; subst hle; have hlv3 := hlv2.kp hka; have hG3 := hG2.kp hka; have tok3 : True := trivial; clear tok2 _t)
                    | (have _t := tok3; go_at_call 89; with_reducible refine Calls.mono (C2.out _ hr2 Al cl hli) ?_; rintro e wr3 ⟨rfl, hka⟩; have hr3 : Kp wb wr3 := Kp.trans (by repeat (first | with_reducible assumption | with_reducible exact Kp.refl _ | with_reducible refine Kp.drew ?_ | with_reducible refine Kp.alloc ?_ _ | with_reducible refine Kp.drewN ?_ _)) hka; have hlv4 := hlv3.kp hka; have hG4 := hG3.kp hka; have tok4 : True := trivial; clear tok3 _t)
                    | (have _t := tok4; refine step_app (by rfl) (.tmp 129) (.tmp 138) (by rfl) (w.heap.size + 1) lv (mapTo (onN F) i) p _ (by rfl) (by rfl) (by rfl) hlv4 (Nat.le_trans hs1 hr3.le) hlen2 ?_; intro v2 w2 ho2 ht2 h42; have hk5 : Kp wb w2 := hlv4.kp_turn hr3 hs2 ht2; have hG5 := hG4.turnL hap2 ht2 h42; have hap5 := apart_right hap2 hG4 h42; have tok5 : True := trivial; clear tok4 _t)
                    | fail)
                go_wp2_with fail
                go_roundw
                case rel => exact ⟨m1, _, v2, b, rfl, rfl, by omega, by go_num, by rw [HO1.out]; exact hG5, by rw [HO3.out]; exact ho2, hap5, rfl, Hb, HO2, hk5⟩
                case measure => simp [intOf]; omega
              · have HN := Lib.hid (want_new hneg)
                have hz0 : 0 ≤ z := by omega
                have hzn : z < F.op.length := by rw [hz]; exact HN.out.2
                obtain ⟨y, rfl⟩ := Int.eq_ofNat_of_zero_le hz0
                have hyn : y < F.op.length := by omega
                have hnew : (y : Int) ∉ bitsL F.op.length b := by rw [hz]; exact HN.out.1
                have hpl := putL_new hnew
                have HP := Lib.hid (bits_put (b := b) hyn)
                have hpl2 := set_len (setB_put Hs.out hz0 hzn)
                have hkk := Hkl.out.1
                have hkk2 := Hkl.out.2
                obtain ⟨k', rfl⟩ : ∃ k', k = k' + 1 := ⟨k - 1, by omega⟩
                have ho2 := Nat.or_lt_two_pow Hb.out (Nat.pow_lt_pow_right (by omega) hyn : 2 ^ y < 2 ^ F.op.length)
                have ha7 : 2 ^ y < 2 ^ 7 := Nat.pow_lt_pow_right (by omega) (by omega)
                have hsh := u64_one_shl (y : Int) (by omega) (by omega)
                rw [Int.toNat_natCast] at hsh
                have hor := u64_or_nat b (2 ^ y) (by omega) (by omega)
                have HR2 : Hid (wRun F m1 k' (row ++ [(y : Int)]) (bitsL F.op.length (b ||| 2 ^ y)) = onC F i (onS F i).2) := by show _ = _; rw [← HR.out, wRun_go hneg, HP.out, hz]
                rw [← hz]
                have hro : row.length + 1 ≤ 4194304 := by omega
                have hrm : row.length < F.op.length := by omega
                clear hz hneg HR HN hnew hpl2
                have Hkk : Hid (F.op.length ≤ k' + (bitsL F.op.length (b ||| 2 ^ y)).length ∧ (row ++ [(y : Int)]).length ≤ (bitsL F.op.length (b ||| 2 ^ y)).length) := by rw [HP.out]; exact ⟨by omega, by rw [List.length_append]; simp; omega⟩
                have Hne2 : Hid (bitsL F.op.length (b ||| 2 ^ y) ≠ []) := by show _ ≠ _; rw [HP.out]; exact putL_ne _ _
                have HO2 := Lib.hid ho2
                clear ho2 hpl hkk hkk2 hz0 hzn
                generalize 2 ^ y = pa at *
                obtain ⟨wr0, hwr0⟩ : ∃ wr0 : World, wr0 = wr := ⟨_, rfl⟩
                clear hwr0
                have tok1 : True := trivial
                go_wp2_with fail
                go_region_held3 (fun w' => Kp wo w')
                  (first | exact (by repeat (first | with_reducible assumption | with_reducible exact Kp.refl _ | with_reducible refine Kp.drew ?_ | with_reducible refine Kp.alloc ?_ _ | with_reducible refine Kp.drewN ?_ _)) | fail)
                  (first
                    | (have _t := tok1; refine step_app_all (by rfl) (.tmp 117) (.tmp 119) (by rfl) wo.heap.size _ row [(y : Int)] (some ⟨wr.heap.size, 0, none⟩) 1 1 (by rfl) (by rfl) ((hrow2.kp ((Kp.refl _).alloc _)).drew) ((one_new _ _).kp (Kp.refl _).drew) rfl (Nat.le_trans hki.le (by simp)) (by simp; omega) ?_; intro v' w' ho' ht' _; have hk4 : Kp wo w' := ((hrow2.kp ((Kp.refl _).alloc _)).drew).kp_turn (by repeat (first | with_reducible assumption | with_reducible exact Kp.refl _ | with_reducible refine Kp.drew ?_ | with_reducible refine Kp.alloc ?_ _ | with_reducible refine Kp.drewN ?_ _)) (Nat.le_refl _) ht'; have tok2 : True := trivial; clear tok1 _t)
                    | fail)
                go_wp2_with fail
                go_roundw
                case rel => exact ⟨k', b ||| pa, row ++ [(y : Int)], ho', by go_num, HO2.out, Hne2, HR2, Hkk, hk4⟩
                case measure =>
                  obtain ⟨A7, c7, e7⟩ := ho'.shape
                  rw [e7, List.length_append]
                  simp [sLen]; omega
    · obtain rfl : i = F.di.length := by omega
      go_wp2_with fail
      go_ret2
      exact ⟨_, _, rfl, hgo.mono (Nat.le_succ _), hlv.mono (Nat.le_succ _), hkw.trans hkb⟩
end Go.Proofs.Ytghpkjllcapbpaa

/- The clients of the first firm: the reference. No condition. -/
import Derived.Test.YtblebedejddefaaGreatQAe
import Derived.Test.YtblebedejddefaaGreatQAb
namespace Go.Proofs.YtblebedejddefaaGreat
open Go.RowKit Go.Sort

theorem allO_len (F : Fld) (O : List Int) : (allO F O).length ≤ F.op.length := bitsL_len F.op.length (bagN O)
set_option maxRecDepth 100000 in
set_option maxHeartbeats 1000000 in
theorem l9Count_any (f : Value) (F : Fld) (A1 : Option Addr) (A2 : Option Addr) (O X Y : List Int) (n1 c1 n2 c2 : Nat) (w : World) (hf : FldAt w f F) (h1 : IntsAt w A1 X) (hn1 : X.length = n1) (h2 : IntsAt w A2 Y) (hn2 : Y.length = n2) (hg : goodF F = true) (hd : Duel F.op.length O X Y) (hne : X ≠ []) :
    Calls Tryz.prog 60 #[f, .slice A1 n1 c1, .slice A2 n2 c2] w fun e w' => e = .returned (.int .i64 (wonV F O)) ∧ Kp w w' := by
  obtain ⟨A, c, B, d, rfl, hA, hB⟩ := hf
  have hk0 : Kp w (w.alloc (.cells #[.slice A F.op.length c, .slice B F.di.length d] 27)) := (Kp.refl w).alloc _
  obtain ⟨d0, d1⟩ := box2 w (.slice A F.op.length c) (.slice B F.di.length d) 27
  have hFA := FldAt.kp (show FldAt w (.agg #[.slice A F.op.length c, .slice B F.di.length d]) F from ⟨A, c, B, d, rfl, hA, hB⟩) hk0
  have h10 := h1.kp hk0
  have h20 := h2.kp hk0
  have Hn1 := Lib.hid hn1; have Hn2 := Lib.hid hn2
  have hOne : O ≠ [] := fun e => by
    obtain ⟨x, hx⟩ := List.exists_mem_of_ne_nil _ hne
    have := hd.mem.2 (.inl hx)
    rw [e] at this; cases this
  have HD := Lib.hid hd
  have HS := Lib.hid (allO_set hd)
  have HE := Lib.hid (allO_ne hd hOne)
  have HG := Lib.hid hg
  have h7 := (goodF_iff.1 hg).1.2
  have h8 := (goodF_iff.1 hg).2.2.1
  have hO7 := hd.len
  have hl1 : n1 ≤ 7 := by have := hd.lx; omega
  have hl2 : n2 ≤ 7 := by have := hd.ly; omega
  have HX := Lib.hid hd.sx
  obtain ⟨ad1, rfl, hjunk⟩ := h10.at_ (k := 0) (List.length_pos_iff.2 hne)
  clear hjunk hA hB h1 h2 hn1 hn2 hd hne hg hOne hO7
  go_enter Tryz.func60, Tryz.ntmps60
  go_wp2_with fail
  have hsz : Hid ((w.alloc (.cells #[.slice A F.op.length c, .slice B F.di.length d] 27)).heap.size = w.heap.size + 1) := by show _ = _; simp
  generalize w.alloc (.cells #[.slice A F.op.length c, .slice B F.di.length d] 27) = wb at *
  have hkb : Kp wb wb := Kp.refl _
  have hkw := hk0
  have CC := Lib.hid (l1Own_any ad1 X n1 c1 _ h10 Hn1.out (by omega))
  with_reducible refine Calls.mono CC.out ?_
  rintro e w1 ⟨v, rfl, hov, hk1⟩
  clear CC
  replace hkb := hkb.trans hk1
  obtain ⟨Az, cz, hve, hcz, hiz⟩ := (RowP.of_own hov (by rw [Hn1.out]; omega)).read
  subst hve
  clear hov
  have h11 := h10.kp hkb
  have h21 := h20.kp hkb
  have hFl := hFA.kp hkb
  have g0 := hkb.get d0
  have g1 := hkb.get d1
  have hkl := hkw.trans hkb
  obtain ⟨wl, rfl⟩ : ∃ wl : World, wl = w1 := ⟨_, rfl⟩
  clear hkb d0 d1 hk0 h10 h20 hFA
  go_wp2_with fail
  go_loopw [7, 8] (fun zv iv wr => ∃ (j : Nat) (Z : List Int) (Az : Option Addr) (cz : Nat), j ≤ n2 ∧ iv = .int .i64 j ∧ zv = .slice Az Z.length cz ∧ Z.length ≤ cz ∧ Z.length ≤ 7 + j ∧ IntsAt wr Az Z ∧ Hid (Z.Pairwise (· < ·) ∧ ∀ x, x ∈ Z ↔ x ∈ X ∨ x ∈ Y.take j) ∧ Kp wl wr) (fun _ iv _ => n2 - (intOf iv).toNat)
  case atStart => exact ⟨0, X, Az, cz, by omega, rfl, rfl, hcz, by rw [Hn1.out]; omega, hiz, ⟨HX.out, fun x => by simp⟩, Kp.refl _⟩
  case round =>
    clear hiz hcz
    obtain ⟨j, Z, Az, cz, hj, rfl, rfl, hcz, hzl, hiz, HZ, hkr⟩ := hrel
    by_cases hlt : j < n2
    · have lx : j < Y.length := by rw [Hn2.out]; exact hlt
      obtain ⟨ad2, rfl, hcj⟩ := (h21.kp hkr).at_ lx
      have HZ2 : Hid ((putL Z Y[j]).Pairwise (· < ·) ∧ ∀ x, x ∈ putL Z Y[j] ↔ x ∈ X ∨ x ∈ Y.take (j + 1)) := by
        refine ⟨putL_sorted HZ.out.1 _, fun x => ?_⟩
        rw [putL_mem, HZ.out.2, List.take_succ_eq_append_getElem lx, List.mem_append, List.mem_singleton, or_assoc]
      have CC := Lib.hid (l1Put_any Az Z Z.length cz Y[j] wr hiz rfl HZ.out.1 hcz (by omega))
      have hpl := putL_len' Z Y[j]
      clear hiz
      go_wp2_with fail
      with_reducible refine Calls.mono CC.out ?_
      rintro e w5 ⟨A5, c5, rfl, hc5, hi5, hk5⟩
      clear CC
      go_wp2_with fail
      go_roundw
      case rel => exact ⟨j + 1, putL Z Y[j], A5, c5, by omega, by go_num, rfl, hc5, by omega, hi5, HZ2, hkr.trans hk5⟩
      case measure => simp [intOf]; omega
    · obtain rfl : j = n2 := by omega
      obtain rfl : Z = allO F O := putAll_ext HD.out HZ.out.1 (fun x => by rw [HZ.out.2, List.take_of_length_le (by rw [Hn2.out]; exact Nat.le_refl _)]) (allO_sorted F O) (allO_mem HD.out)
      have h12 := h11.kp hkr
      have hFl2 := hFl.kp hkr
      have e0 := hkr.get g0
      have e1 := hkr.get g1
      have hkl2 := hkl.trans hkr
      obtain ⟨wm, rfl⟩ : ∃ wm : World, wm = wr := ⟨_, rfl⟩
      clear hkr HZ hzl hcz g0 g1 h11 hFl hkl h21
      go_wp2_with fail
      go_loopw [9, 10] (fun mv iv wr => ∃ j : Nat, j ≤ F.di.length ∧ iv = .int .i64 j ∧ mv = .int .i64 (wonTo F O (allO F O) j : Int) ∧ Kp wm wr) (fun _ iv _ => F.di.length - (intOf iv).toNat)
      case atStart => exact ⟨0, by omega, rfl, rfl, Kp.refl _⟩
      case round =>
        obtain ⟨j, hj, rfl, rfl, hkr⟩ := hrel
        have q0 := hkr.get e0
        have q1 := hkr.get e1
        by_cases hlt : j < F.di.length
        · have hwl := wonTo_le F O (allO F O) j
          have Hws : Hid (wonTo F O (allO F O) (j + 1) = wonTo F O (allO F O) j + (if evB O (siteF F j (allO F O)) = true then 1 else 0)) := Lib.hid rfl
          have CC := Lib.hid (l2Site_any _ F j Az (allO F O) _ cz wr (hFl2.kp hkr) (hiz.kp hkr) rfl HG.out HS.out HE.out hlt)
          obtain ⟨sv, Hsv⟩ : ∃ z, Hid (siteF F j (allO F O) = z) := ⟨_, Lib.hid rfl⟩
          rw [Hsv.out] at Hws CC
          go_wp2_with fail
          with_reducible refine Calls.mono CC.out ?_
          rintro e w5 ⟨rfl, hk5⟩
          clear CC q0 q1
          have CC := Lib.hid (l1Has_any (some ad1) X n1 c1 sv w5 (h12.kp (hkr.trans hk5)) Hn1.out)
          go_wp2_with fail
          with_reducible refine Calls.mono CC.out ?_
          rintro e w6 ⟨rfl, hw6⟩
          obtain rfl := hw6
          clear CC
          rw [HD.out.first sv]
          cases hev : evB O sv
          · rw [hev, if_neg (by decide)] at Hws
            clear hev
            go_wp2_with fail
            go_roundw
            case rel => exact ⟨j + 1, by omega, by go_num, by rw [Hws.out, Nat.add_zero], hkr.trans hk5⟩
            case measure => simp [intOf]; omega
          · rw [hev, if_pos rfl] at Hws
            clear hev
            have hwr : IntKind.i64.wrap ((wonTo F O (allO F O) j : Int) + 1) = ((wonTo F O (allO F O) j + 1 : Nat) : Int) := by rw [IntWalk.i64_in _ (by omega)]; omega
            go_wp2_with fail
            go_roundw
            case rel => exact ⟨j + 1, by omega, by go_num, by rw [Hws.out, Int.natCast_add]; rfl, hkr.trans hk5⟩
            case measure => simp [intOf]; omega
        · obtain rfl : j = F.di.length := by omega
          go_wp2_with fail
          go_ret
          exact ⟨rfl, hkl2.trans hkr⟩
end Go.Proofs.YtblebedejddefaaGreat

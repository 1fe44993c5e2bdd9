/- GreatestExcess: the reference; IsCoreShare. No condition. -/
import Derived.Test.YtcifdadieaccdaaCore3
namespace Go.Proofs.Ytcifdadieaccdaa
open Go.RowKit Go.Sort

def geI (F : Fld) (xs : List Int) (k : Nat) (q : Int) : Prop := (∃ S ∈ rowsTo F.di.length k, q = excS F xs S) ∧ ∀ S ∈ rowsTo F.di.length k, excS F xs S ≤ q
theorem geI_succ {F : Fld} {xs : List Int} {b : Nat} {q : Int} (h1 : 1 ≤ b) (h : geI F xs (b - 1) q) : geI F xs (b + 1 - 1) (max q (excS F xs (bitsL F.di.length b))) := by
  have e : rowsTo F.di.length (b + 1 - 1) = rowsTo F.di.length (b - 1) ++ [bitsL F.di.length b] := by
    have := rowsTo_succ F.di.length (b - 1)
    rw [Nat.sub_add_cancel h1] at this
    exact this
  obtain ⟨⟨S, hS, rfl⟩, h3⟩ := h
  refine ⟨?_, fun T hT => ?_⟩
  · by_cases hle : excS F xs S ≤ excS F xs (bitsL F.di.length b)
    · exact ⟨bitsL F.di.length b, by rw [e]; simp, by omega⟩
    · exact ⟨S, by rw [e]; simp [hS], by omega⟩
  · rw [e, List.mem_append] at hT
    rcases hT with hT | hT
    · have := h3 T hT; omega
    · have e2 : T = bitsL F.di.length b := by simpa using hT
      rw [e2]; omega
theorem bits_one {n : Nat} (h : 0 < n) : bitsL n 1 = [0] := by
  have h1 : bitsL 1 1 = [0] := by decide
  have := bitsL_more (n := 1) (m := n) (b := 1) (by omega) h
  rw [this, h1]
theorem room_one (xs : List Int) : roomS xs [0] = xs.getD 0 0 := by simp [roomS, numAt]
theorem geI_one {F : Fld} {xs : List Int} (h : 0 < F.di.length) : geI F xs (2 - 1) (xs.getD 0 0 - ctF F 1) := by
  have e : rowsTo F.di.length (2 - 1) = [[0]] := by
    show rowsTo F.di.length 1 = _
    rw [show (1 : Nat) = 0 + 1 from rfl, rowsTo_succ, show (0 : Nat) + 1 = 1 from rfl, bits_one h]; rfl
  have e2 : excS F xs [0] = xs.getD 0 0 - ctF F 1 := by unfold excS ctF; rw [room_one, bits_one h]
  refine ⟨⟨[0], by rw [e]; simp, e2.symm⟩, fun S hS => ?_⟩
  rw [e] at hS
  have e3 : S = [0] := by simpa using hS
  rw [e3, e2]; omega
set_option maxRecDepth 100000 in
set_option maxHeartbeats 2000000 in
theorem specGe_any (f : Value) (F : Fld) (A1 : Option Addr) (xs : List Int) (n1 c1 : Nat) (w : World) (hf : FldAt w f F) (h1 : IntsAt w A1 xs) (hn1 : xs.length = n1) :
    Calls Try.prog 23 #[f, .slice A1 n1 c1] w fun e w' => e = .returned (.tuple #[.int .i64 (geR F xs), .bool (geOk F xs)]) ∧ Kp w w' := by
  obtain ⟨A, c, B, d, rfl, hA, hB⟩ := hf
  have hk0 : Kp w (w.alloc (.cells #[.slice A F.op.length c, .slice B F.di.length d] 29)) := (Kp.refl w).alloc _
  obtain ⟨d0, d1⟩ := box2 w (.slice A F.op.length c) (.slice B F.di.length d) 29
  have hFA := FldAt.kp (show FldAt w (.agg #[.slice A F.op.length c, .slice B F.di.length d]) F from ⟨A, c, B, d, rfl, hA, hB⟩) hk0
  replace h1 := h1.kp hk0
  have Hn1 := Lib.hid hn1
  clear hA hB hn1
  go_enter Try.func23, Try.ntmps23
  go_wp2_with fail
  have hsz : Hid ((w.alloc (.cells #[.slice A F.op.length c, .slice B F.di.length d] 29)).heap.size = w.heap.size + 1) := by show _ = _; simp
  generalize w.alloc (.cells #[.slice A F.op.length c, .slice B F.di.length d] 29) = wb at *
  have hkb : Kp wb wb := Kp.refl _
  have hkw := hk0
  have CC := Lib.hid (l9Shares_any _ F A1 xs n1 c1 _ (hFA.kp hkb) (h1.kp hkb) Hn1.out)
  with_reducible refine Calls.mono CC.out ?_
  rintro e w1 ⟨rfl, hk1⟩
  clear CC
  replace hkb := hkb.trans hk1
  cases hg_ : sharesB F xs
  · have Hno : Hid (geOk F xs = false) := by show _ = _; simp [geOk, hg_]
    clear hg_
    have q_d0 := hkb.get d0
    have q_d1 := hkb.get d1
    go_wp2_with fail
    go_ret2
    exact ⟨ge_no Hno.out, hkw.trans hkb⟩
  have Hs := Lib.hid hg_; clear hg_
  have HP := Lib.hid (sharesB_iff.1 Hs.out)
  have hd7 := (goodF_iff.1 HP.out.1).2.2.1
  by_cases h0 : n1 = 0
  · have Hno : Hid (geOk F xs = false) := by show _ = _; simp [geOk, List.eq_nil_of_length_eq_zero (Hn1.out.trans h0)]
    have h02 : ((n1 : Int) == 0) = true := by simp [h0]
    have q_d0 := hkb.get d0
    have q_d1 := hkb.get d1
    go_wp2_with fail
    go_ret2
    exact ⟨ge_no Hno.out, hkw.trans hkb⟩
  have hne : xs ≠ [] := fun e => by have := Hn1.out; rw [e] at this; simp at this; omega
  have Hok : Hid (geOk F xs = true) := by
    show _ = _
    simp only [geOk, Hs.out, Bool.true_and]
    cases h : xs with
    | nil => exact absurd h hne
    | cons a t => rfl
  have h02 : ((n1 : Int) == 0) = false := by simp; omega
  have hpd : 0 < F.di.length := by have := HP.out.2.1; have := Hn1.out; omega
  have hP128 : 2 ^ F.di.length ≤ 128 := Nat.pow_le_pow_right (by omega) hd7
  have hP2 : 2 ^ 1 ≤ 2 ^ F.di.length := Nat.pow_le_pow_right (by omega) hpd
  obtain ⟨P, hPe⟩ : ∃ P, P = 2 ^ F.di.length := ⟨_, rfl⟩
  rw [← hPe] at hP128 hP2
  replace hPe := Lib.hid hPe
  replace hP2 : 2 ≤ P := by omega
  have hx0 : 0 < xs.length := List.length_pos_iff.2 hne
  have hp1 : (0 : Int) < (n1 : Int) := by have := Hn1.out; omega
  have hp2 : (1 : Int) < (P : Int) := by omega
  have hp3 : 0 < n1 := by omega
  have hp4 : 1 < P := by omega
  clear hne h0
  have q_d0 := hkb.get d0
  have q_d1 := hkb.get d1
  go_wp2_with fail
  have CC := Lib.hid (l9Table_any _ F _ (hFA.kp hkb) HP.out.1)
  with_reducible refine Calls.mono CC.out ?_
  rintro e w2 ⟨v, rfl, hot, hk2⟩
  clear CC q_d0 q_d1
  replace hkb := hkb.trans hk2
  rw [← hPe.out] at hot
  obtain ⟨At, ct, hve, hit⟩ := hot.ints (by rw [mapTo_len]; omega)
  subst hve
  have htl := Lib.hid (mapTo_len (ctF F) P)
  obtain ⟨td, rfl, _⟩ := hit.at_ (k := 0) (by rw [htl.out]; omega)
  have x1 := hit.some_ (k := 1) (by rw [htl.out]; omega)
  have e1 : (mapTo (ctF F) P)[1]'(by rw [htl.out]; omega) = ctF F 1 := by simp [mapTo]
  rw [e1] at x1
  have x1' := x1
  unfold Addr.add at x1'
  simp only [Nat.one_ne_zero, if_false] at x1'
  obtain ⟨xd, rfl, x0⟩ := (h1.kp hkb).at_ (k := 0) hx0
  have e0 : xs[0]'hx0 = xs.getD 0 0 := by simp [List.getD, hx0]
  rw [e0, show xd.add 0 = xd from by unfold Addr.add; simp] at x0
  rw [htl.out]
  have HI1 := Lib.hid (geI_one (F := F) (xs := xs) hpd)
  obtain ⟨y1, y2, _⟩ := exc_bd Hs.out (bitsL_crowd F 1)
  have y3 : Hid (excS F xs (bitsL F.di.length 1) = xs.getD 0 0 - ctF F 1) := by show _ = _; rw [bits_one hpd]; unfold excS ctF; rw [room_one, bits_one hpd]
  rw [y3.out] at y1 y2
  have FLl := hFA.kp hkb
  have h1l := h1.kp hkb
  have g0 := hkb.get d0
  have g1 := hkb.get d1
  have hkl := hkw.trans hkb
  obtain ⟨wl, rfl⟩ : ∃ wl : World, wl = w2 := ⟨_, rfl⟩
  have hw : IntKind.i64.wrap (xs.getD 0 0 - ctF F 1) = xs.getD 0 0 - ctF F 1 := IntWalk.i64_in _ (by omega)
  generalize hz : xs.getD 0 0 = a0 at *
  generalize ctF F 1 = a1 at *
  clear hkb e0 e1 hot
  go_wp2_with fail
  go_quiet (fail)
  have hkq : Kp wl (wl.drewN nq) := (Kp.refl _).drewN nq
  generalize wl.drewN nq = wm at *
  replace hit := hit.kp hkq
  replace h1l := h1l.kp hkq
  replace FLl := FLl.kp hkq
  replace g0 := hkq.get g0
  replace g1 := hkq.get g1
  have hklm := hkl.trans hkq
  have Hbd := Lib.hid (fun b => exc_bd Hs.out (bitsL_crowd F b))
  clear x0 x1 x1' hkq
  go_wp2_with fail
  go_loopw [7, 8] (fun qv iv wr => ∃ (b : Nat) (q : Int), 2 ≤ b ∧ b ≤ P ∧ iv = .int .i64 b ∧ qv = .int .i64 q ∧ (-800000 ≤ q ∧ q ≤ 800000) ∧ Hid (geI F xs (b - 1) q) ∧ Kp wm wr) (fun _ iv _ => P - (intOf iv).toNat)
  case atStart => exact ⟨2, _, by omega, by omega, rfl, rfl, by omega, HI1.out, Kp.refl _⟩
  case round =>
    obtain ⟨b, q, hb2, hbP, rfl, rfl, ⟨q1, q2⟩, HI, hkr⟩ := hrel
    by_cases hlt : b < P
    · have Hlt2 : Hid (b < 2 ^ F.di.length) := by show _ < _; rw [← hPe.out]; exact hlt
      have hbl := bitsL_len F.di.length b
      have hbl7 : (bitsL F.di.length b).length ≤ 7 := by omega
      have Hcr := Lib.hid (bitsL_crowd F b)
      have hct := (hit.kp hkr).some_ (k := b) (by rw [htl.out]; exact hlt)
      have e7 : (mapTo (ctF F) P)[b]'(by rw [htl.out]; exact hlt) = costF F (bitsL F.di.length b) := by simp [mapTo, ctF]
      rw [e7] at hct
      obtain ⟨s1, s2, s3, s4, s5, s6⟩ := Hbd.out b
      have hex : Hid (excS F xs (bitsL F.di.length b) = roomS xs (bitsL F.di.length b) - costF F (bitsL F.di.length b)) := rfl
      have hwr : IntKind.i64.wrap (roomS xs (bitsL F.di.length b) - costF F (bitsL F.di.length b)) = roomS xs (bitsL F.di.length b) - costF F (bitsL F.di.length b) := IntWalk.i64_in _ (by omega)
      have HI2 := Lib.hid (geI_succ (by omega) HI.out)
      rw [hex.out] at HI2
      have hkz : Kp wr wr := Kp.refl _
      have z0 := hkr.get g0
      have z1 := hkr.get g1
      have C0 := Lib.hid (l2Bits_any F.di.length b wr.drew (by omega) (by omega))
      have C1 := Lib.hid (fun (wx : World) (hx : Kp wr wx) (Av : Option Addr) (cv : Nat) (hv : IntsAt wx Av (bitsL F.di.length b)) => l7Room_any (some xd) xs n1 c1 Av (bitsL F.di.length b) _ cv 1400 wx (h1l.kp (hkr.trans hx)) Hn1.out hv rfl (fun x hx2 => by have := crowd_mem Hcr.out x hx2; have := HP.out.2.1; have := Hn1.out; omega) hbl7 (by omega) (by omega) HP.out.2.2)
      clear e7 hbl
      generalize roomS xs (bitsL F.di.length b) = rm at *
      generalize costF F (bitsL F.di.length b) = cs at *
      have C2 := Lib.hid (fun (wx : World) => l1Most_any q (rm - cs) wx)
      have q_z0 := hkz.get z0
      have q_z1 := hkz.get z1
      have q_hct := hkz.get hct
      have tok1 : True := trivial
      go_wp2_with fail
      go_region_held3 (fun w' => w'.cell? ⟨w.heap.size, 0, none⟩ = some (.slice A F.op.length c) ∧ w'.cell? ⟨w.heap.size, 1, none⟩ = some (.slice B F.di.length d) ∧ w'.cell? (td.add b) = some (.int .i64 cs) ∧ Kp wr w')
        (first | (refine keepc3 z0 z1 hct ?_; exact (by repeat (first | with_reducible assumption | with_reducible exact Kp.refl _ | with_reducible refine Kp.drew ?_ | with_reducible refine Kp.alloc ?_ _ | with_reducible refine Kp.drewN ?_ _))) | fail)
        (first
          | (have _t := tok1; go_at_call 49; with_reducible refine Calls.mono (C0.out) ?_; rintro e wr1 ⟨v, rfl, hov, hka⟩; have hr1 : Kp wr wr1 := Kp.trans (by repeat (first | with_reducible assumption | with_reducible exact Kp.refl _ | with_reducible refine Kp.drew ?_ | with_reducible refine Kp.alloc ?_ _ | with_reducible refine Kp.drewN ?_ _)) hka; obtain ⟨Av, cv, hve, hiv⟩ := hov.ints (by have := bitsL_len F.di.length b; omega); subst hve; have tok2 : True := trivial; clear tok1 _t)
          | (have _t := tok2; go_at_call 48; with_reducible refine Calls.mono (C1.out _ hr1 _ _ hiv) ?_; rintro e wr2 ⟨rfl, hw⟩; obtain rfl := hw; have tok3 : True := trivial; clear tok2 _t)
          | (have _t := tok3; go_at_call 47; (try rw [hwr]); with_reducible refine Calls.mono (C2.out _) ?_; rintro e wr3 ⟨rfl, hw⟩; obtain rfl := hw; have tok4 : True := trivial; clear tok3 _t)
          | fail)
      go_wp2_with fail
      go_roundw
      case rel => exact ⟨b + 1, _, by omega, by omega, by go_num, rfl, by omega, HI2, hkr.trans hr1⟩
      case measure => simp [intOf]; omega
    · have hov := HI.out
      rw [show b = P by omega, hPe.out, geI, ← codesL_to] at hov
      have He := Lib.hid (ge_is (F := F) (xs := xs) hpd hov.1 hov.2)
      go_wp2_with fail
      go_ret2
      exact ⟨ge_yes Hok.out He.out, hklm.trans hkr⟩
end Go.Proofs.Ytcifdadieaccdaa

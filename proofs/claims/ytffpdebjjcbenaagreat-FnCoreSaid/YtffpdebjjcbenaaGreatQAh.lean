/- GreatestExcess: the reference; IsCoreShare; IsCoreShare: reference and program; How near the nearest site is; What sets of clients cost, in plain words: never less with more clients, and two sets together at most the sum; Sums over the first numbers; Core shares of at least 0 are the fair prices that together pay for all clients; A slice of the call's own: one slot read and written; one that was made; slices.Clone, slices.Min over lists of integers. No condition. -/
import Derived.Test.YtffpdebjjcbenaaGreatQAg
import Derived.Test.YtffpdebjjcbenaaGreatQAc
import Derived.Test.YtffpdebjjcbenaaGreatQAe
import Derived.Test.YtffpdebjjcbenaaGreatQAa
import Derived.Test.YtffpdebjjcbenaaGreatQAb
import Derived.WalkSpells
namespace Go.Proofs.YtffpdebjjcbenaaGreat
open Go.RowKit Go.Sort

def geI (F : Fld) (xs : List Int) (k : Nat) (q : Int) : Prop := (∃ S ∈ rowsTo F.di.length k, q = excS F xs S) ∧ ∀ S ∈ rowsTo F.di.length k, excS F xs S ≤ q
theorem geI_succ {F : Fld} {xs : List Int} {b : Nat} {q : Int} (h1 : 1 ≤ b) (h : geI F xs (b - 1) q) : geI F xs (b + 1 - 1) (max q (excS F xs (bitsL F.di.length b))) := by
  have e : rowsTo F.di.length (b + 1 - 1) = rowsTo F.di.length (b - 1) ++ [bitsL F.di.length b] := by
    have := rowsTo_succ F.di.length (b - 1)
    rw [Nat.sub_add_cancel h1] at this
    exact this
  obtain ⟨⟨S, hS, rfl⟩, h3⟩ := h
  refine ⟨?_, fun T hT => ?_⟩
  · by_cases hle : excS F xs S ≤ excS F xs (bitsL F.di.length b)
    · exact ⟨bitsL F.di.length b, by rw [e]; simp, by omega⟩
    · exact ⟨S, by rw [e]; simp [hS], by omega⟩
  · rw [e, List.mem_append] at hT
    rcases hT with hT | hT
    · have := h3 T hT; omega
    · have e2 : T = bitsL F.di.length b := by simpa using hT
      rw [e2]; omega
theorem bits_one {n : Nat} (h : 0 < n) : bitsL n 1 = [0] := by
  have h1 : bitsL 1 1 = [0] := by decide
  have := bitsL_more (n := 1) (m := n) (b := 1) (by omega) h
  rw [this, h1]
theorem room_one (xs : List Int) : roomS xs [0] = xs.getD 0 0 := by simp [roomS, numAt]
theorem geI_one {F : Fld} {xs : List Int} (h : 0 < F.di.length) : geI F xs (2 - 1) (xs.getD 0 0 - ctF F 1) := by
  have e : rowsTo F.di.length (2 - 1) = [[0]] := by
    show rowsTo F.di.length 1 = _
    rw [show (1 : Nat) = 0 + 1 from rfl, rowsTo_succ, show (0 : Nat) + 1 = 1 from rfl, bits_one h]; rfl
  have e2 : excS F xs [0] = xs.getD 0 0 - ctF F 1 := by unfold excS ctF; rw [room_one, bits_one h]
  refine ⟨⟨[0], by rw [e]; simp, e2.symm⟩, fun S hS => ?_⟩
  rw [e] at hS
  have e3 : S = [0] := by simpa using hS
  rw [e3, e2]; omega
set_option maxRecDepth 100000 in
set_option maxHeartbeats 2000000 in
theorem specGe_any (f : Value) (F : Fld) (A1 : Option Addr) (xs : List Int) (n1 c1 : Nat) (w : World) (hf : FldAt w f F) (h1 : IntsAt w A1 xs) (hn1 : xs.length = n1) :
    Calls Tryz.prog 11 #[f, .slice A1 n1 c1] w fun e w' => e = .returned (.tuple #[.int .i64 (geR F xs), .bool (geOk F xs)]) ∧ Kp w w' := by
  obtain ⟨A, c, B, d, rfl, hA, hB⟩ := hf
  have hk0 : Kp w (w.alloc (.cells #[.slice A F.op.length c, .slice B F.di.length d] 27)) := (Kp.refl w).alloc _
  obtain ⟨d0, d1⟩ := box2 w (.slice A F.op.length c) (.slice B F.di.length d) 27
  have hFA := FldAt.kp (show FldAt w (.agg #[.slice A F.op.length c, .slice B F.di.length d]) F from ⟨A, c, B, d, rfl, hA, hB⟩) hk0
  replace h1 := h1.kp hk0
  have Hn1 := Lib.hid hn1
  clear hA hB hn1
  go_enter Tryz.func11, Tryz.ntmps11
  go_wp2_with fail
  have hsz : Hid ((w.alloc (.cells #[.slice A F.op.length c, .slice B F.di.length d] 27)).heap.size = w.heap.size + 1) := by show _ = _; simp
  generalize w.alloc (.cells #[.slice A F.op.length c, .slice B F.di.length d] 27) = wb at *
  have hkb : Kp wb wb := Kp.refl _
  have hkw := hk0
  have CC := Lib.hid (l9Shares_any _ F A1 xs n1 c1 _ (hFA.kp hkb) (h1.kp hkb) Hn1.out)
  with_reducible refine Calls.mono CC.out ?_
  rintro e w1 ⟨rfl, hk1⟩
  clear CC
  replace hkb := hkb.trans hk1
  cases hg_ : sharesB F xs
  · have Hno : Hid (geOk F xs = false) := by show _ = _; simp [geOk, hg_]
    clear hg_
    have q_d0 := hkb.get d0
    have q_d1 := hkb.get d1
    go_wp2_with fail
    go_ret2
    exact ⟨ge_no Hno.out, hkw.trans hkb⟩
  have Hs := Lib.hid hg_; clear hg_
  have HP := Lib.hid (sharesB_iff.1 Hs.out)
  have hd7 := (goodF_iff.1 HP.out.1).2.2.1
  by_cases h0 : n1 = 0
  · have Hno : Hid (geOk F xs = false) := by show _ = _; simp [geOk, List.eq_nil_of_length_eq_zero (Hn1.out.trans h0)]
    have h02 : ((n1 : Int) == 0) = true := by simp [h0]
    have q_d0 := hkb.get d0
    have q_d1 := hkb.get d1
    go_wp2_with fail
    go_ret2
    exact ⟨ge_no Hno.out, hkw.trans hkb⟩
  have hne : xs ≠ [] := fun e => by have := Hn1.out; rw [e] at this; simp at this; omega
  have Hok : Hid (geOk F xs = true) := by
    show _ = _
    simp only [geOk, Hs.out, Bool.true_and]
    cases h : xs with
    | nil => exact absurd h hne
    | cons a t => rfl
  have h02 : ((n1 : Int) == 0) = false := by simp; omega
  have hpd : 0 < F.di.length := by have := HP.out.2.1; have := Hn1.out; omega
  have hP128 : 2 ^ F.di.length ≤ 128 := Nat.pow_le_pow_right (by omega) hd7
  have hP2 : 2 ^ 1 ≤ 2 ^ F.di.length := Nat.pow_le_pow_right (by omega) hpd
  obtain ⟨P, hPe⟩ : ∃ P, P = 2 ^ F.di.length := ⟨_, rfl⟩
  rw [← hPe] at hP128 hP2
  replace hPe := Lib.hid hPe
  replace hP2 : 2 ≤ P := by omega
  have hx0 : 0 < xs.length := List.length_pos_iff.2 hne
  have hp1 : (0 : Int) < (n1 : Int) := by have := Hn1.out; omega
  have hp2 : (1 : Int) < (P : Int) := by omega
  have hp3 : 0 < n1 := by omega
  have hp4 : 1 < P := by omega
  clear hne h0
  have q_d0 := hkb.get d0
  have q_d1 := hkb.get d1
  go_wp2_with fail
  have CC := Lib.hid (l9Table_any _ F _ (hFA.kp hkb) HP.out.1)
  with_reducible refine Calls.mono CC.out ?_
  rintro e w2 ⟨v, rfl, hot, hk2⟩
  clear CC q_d0 q_d1
  replace hkb := hkb.trans hk2
  rw [← hPe.out] at hot
  obtain ⟨At, ct, hve, hit⟩ := hot.ints (by rw [mapTo_len]; omega)
  subst hve
  have htl := Lib.hid (mapTo_len (ctF F) P)
  obtain ⟨td, rfl, _⟩ := hit.at_ (k := 0) (by rw [htl.out]; omega)
  have x1 := hit.some_ (k := 1) (by rw [htl.out]; omega)
  have e1 : (mapTo (ctF F) P)[1]'(by rw [htl.out]; omega) = ctF F 1 := by simp [mapTo]
  rw [e1] at x1
  have x1' := x1
  unfold Addr.add at x1'
  simp only [Nat.one_ne_zero, if_false] at x1'
  obtain ⟨xd, rfl, x0⟩ := (h1.kp hkb).at_ (k := 0) hx0
  have e0 : xs[0]'hx0 = xs.getD 0 0 := by simp [List.getD, hx0]
  rw [e0, show xd.add 0 = xd from by unfold Addr.add; simp] at x0
  rw [htl.out]
  have HI1 := Lib.hid (geI_one (F := F) (xs := xs) hpd)
  obtain ⟨y1, y2, _⟩ := exc_bd Hs.out (bitsL_crowd F 1)
  have y3 : Hid (excS F xs (bitsL F.di.length 1) = xs.getD 0 0 - ctF F 1) := by show _ = _; rw [bits_one hpd]; unfold excS ctF; rw [room_one, bits_one hpd]
  rw [y3.out] at y1 y2
  have FLl := hFA.kp hkb
  have h1l := h1.kp hkb
  have g0 := hkb.get d0
  have g1 := hkb.get d1
  have hkl := hkw.trans hkb
  obtain ⟨wl, rfl⟩ : ∃ wl : World, wl = w2 := ⟨_, rfl⟩
  have hw : IntKind.i64.wrap (xs.getD 0 0 - ctF F 1) = xs.getD 0 0 - ctF F 1 := IntWalk.i64_in _ (by omega)
  generalize hz : xs.getD 0 0 = a0 at *
  generalize ctF F 1 = a1 at *
  clear hkb e0 e1 hot
  go_wp2_with fail
  go_quiet (fail)
  have hkq : Kp wl (wl.drewN nq) := (Kp.refl _).drewN nq
  generalize wl.drewN nq = wm at *
  replace hit := hit.kp hkq
  replace h1l := h1l.kp hkq
  replace FLl := FLl.kp hkq
  replace g0 := hkq.get g0
  replace g1 := hkq.get g1
  have hklm := hkl.trans hkq
  have Hbd := Lib.hid (fun b => exc_bd Hs.out (bitsL_crowd F b))
  clear x0 x1 x1' hkq
  go_wp2_with fail
  go_loopw [7, 8] (fun qv iv wr => ∃ (b : Nat) (q : Int), 2 ≤ b ∧ b ≤ P ∧ iv = .int .i64 b ∧ qv = .int .i64 q ∧ (-800000 ≤ q ∧ q ≤ 800000) ∧ Hid (geI F xs (b - 1) q) ∧ Kp wm wr) (fun _ iv _ => P - (intOf iv).toNat)
  case atStart => exact ⟨2, _, by omega, by omega, rfl, rfl, by omega, HI1.out, Kp.refl _⟩
  case round =>
    obtain ⟨b, q, hb2, hbP, rfl, rfl, ⟨q1, q2⟩, HI, hkr⟩ := hrel
    by_cases hlt : b < P
    · have Hlt2 : Hid (b < 2 ^ F.di.length) := by show _ < _; rw [← hPe.out]; exact hlt
      have hbl := bitsL_len F.di.length b
      have hbl7 : (bitsL F.di.length b).length ≤ 7 := by omega
      have Hcr := Lib.hid (bitsL_crowd F b)
      have hct := (hit.kp hkr).some_ (k := b) (by rw [htl.out]; exact hlt)
      have e7 : (mapTo (ctF F) P)[b]'(by rw [htl.out]; exact hlt) = costF F (bitsL F.di.length b) := by simp [mapTo, ctF]
      rw [e7] at hct
      obtain ⟨s1, s2, s3, s4, s5, s6⟩ := Hbd.out b
      have hex : Hid (excS F xs (bitsL F.di.length b) = roomS xs (bitsL F.di.length b) - costF F (bitsL F.di.length b)) := rfl
      have hwr : IntKind.i64.wrap (roomS xs (bitsL F.di.length b) - costF F (bitsL F.di.length b)) = roomS xs (bitsL F.di.length b) - costF F (bitsL F.di.length b) := IntWalk.i64_in _ (by omega)
      have HI2 := Lib.hid (geI_succ (by omega) HI.out)
      rw [hex.out] at HI2
      have hkz : Kp wr wr := Kp.refl _
      have z0 := hkr.get g0
      have z1 := hkr.get g1
      have C0 := Lib.hid (l2Bits_any F.di.length b wr.drew (by omega) (by omega))
      have C1 := Lib.hid (fun (wx : World) (hx : Kp wr wx) (Av : Option Addr) (cv : Nat) (hv : IntsAt wx Av (bitsL F.di.length b)) => l7Room_any (some xd) xs n1 c1 Av (bitsL F.di.length b) _ cv 1400 wx (h1l.kp (hkr.trans hx)) Hn1.out hv rfl (fun x hx2 => by have := crowd_mem Hcr.out x hx2; have := HP.out.2.1; have := Hn1.out; omega) hbl7 (by omega) (by omega) HP.out.2.2)
      clear e7 hbl
      generalize roomS xs (bitsL F.di.length b) = rm at *
      generalize costF F (bitsL F.di.length b) = cs at *
      have C2 := Lib.hid (fun (wx : World) => l1Most_any q (rm - cs) wx)
      have q_z0 := hkz.get z0
      have q_z1 := hkz.get z1
      have q_hct := hkz.get hct
      have tok1 : True := trivial
      go_wp2_with fail
      go_region_held3 (fun w' => w'.cell? ⟨w.heap.size, 0, none⟩ = some (.slice A F.op.length c) ∧ w'.cell? ⟨w.heap.size, 1, none⟩ = some (.slice B F.di.length d) ∧ w'.cell? (td.add b) = some (.int .i64 cs) ∧ Kp wr w')
        (first | (refine keepc3 z0 z1 hct ?_; exact (by repeat (first | with_reducible assumption | with_reducible exact Kp.refl _ | with_reducible refine Kp.drew ?_ | with_reducible refine Kp.alloc ?_ _ | with_reducible refine Kp.drewN ?_ _ | refine Kp.setCell ?_ (by dsimp only; omega) _))) | fail)
        (first
          | (have _t := tok1; go_at_call 32; with_reducible refine Calls.mono (C0.out) ?_; rintro e wr1 ⟨v, rfl, hov, hka⟩; have hr1 : Kp wr wr1 := Kp.trans (by repeat (first | with_reducible assumption | with_reducible exact Kp.refl _ | with_reducible refine Kp.drew ?_ | with_reducible refine Kp.alloc ?_ _ | with_reducible refine Kp.drewN ?_ _ | refine Kp.setCell ?_ (by dsimp only; omega) _)) hka; obtain ⟨Av, cv, hve, hiv⟩ := hov.ints (by have := bitsL_len F.di.length b; omega); subst hve; have tok2 : True := trivial; clear tok1 _t)
          | (have _t := tok2; go_at_call 31; with_reducible refine Calls.mono (C1.out _ hr1 _ _ hiv) ?_; rintro e wr2 ⟨rfl, hw⟩; obtain rfl := hw; have tok3 : True := trivial; clear tok2 _t)
          | (have _t := tok3; go_at_call 30; (try rw [hwr]); with_reducible refine Calls.mono (C2.out _) ?_; rintro e wr3 ⟨rfl, hw⟩; obtain rfl := hw; have tok4 : True := trivial; clear tok3 _t)
          | fail)
      go_wp2_with fail
      go_roundw
      case rel => exact ⟨b + 1, _, by omega, by omega, by go_num, rfl, by omega, HI2, hkr.trans hr1⟩
      case measure => simp [intOf]; omega
    · have hov := HI.out
      rw [show b = P by omega, hPe.out, geI, ← codesL_to] at hov
      have He := Lib.hid (ge_is (F := F) (xs := xs) hpd hov.1 hov.2)
      go_wp2_with fail
      go_ret2
      exact ⟨ge_yes Hok.out He.out, hklm.trans hkr⟩
end Go.Proofs.YtffpdebjjcbenaaGreat

namespace Go.Proofs.YtffpdebjjcbenaaGreat
open Go.RowKit Go.Sort

def fullC (n : Nat) : List Int := bitsL n (2 ^ n - 1)
theorem full_is (n : Nat) : fullC n = (List.range n).map fun (x : Nat) => (x : Int) := by
  unfold fullC bitsL bitsN
  congr 1
  rw [List.filter_eq_self]
  intro x hx
  rw [Nat.testBit_two_pow_sub_one]
  simpa using hx
theorem room_full {xs : List Int} {n : Nat} (h : xs.length = n) : roomS xs (fullC n) = xs.sum := by
  unfold roomS
  rw [full_is, List.map_map]
  congr 1
  subst h
  apply List.ext_getElem
  · simp
  · intro i hi hi2
    simp [numAt, List.getD, hi2]
theorem full_crowd (F : Fld) : crowdB F (fullC F.di.length) = true := bitsL_crowd F _
def csR (F : Fld) (xs : List Int) : Bool := sharesB F xs && (ovL F xs).isEmpty && decide (excS F xs (fullC F.di.length) = 0)
theorem sum_bd {xs : List Int} (h : ∀ x ∈ xs, -1400 ≤ x ∧ x ≤ 1400) : ∀ k, k ≤ xs.length → -(k * 1400) ≤ (xs.take k).sum ∧ (xs.take k).sum ≤ k * 1400
  | 0, _ => by simp
  | k + 1, hk => by
    have h1 := sum_bd h k (by omega)
    have h2 := h _ (List.getElem_mem (show k < xs.length by omega))
    rw [List.take_succ_eq_append_getElem (show k < xs.length by omega), List.sum_append]
    simp only [List.sum_cons, List.sum_nil]
    omega
theorem cs_no {F : Fld} {xs : List Int} (h : sharesB F xs = false) : Ending.returned (.tuple #[.bool false, .bool false]) = .returned (.tuple #[.bool (csR F xs), .bool (sharesB F xs)]) := by rw [csR, h]; rfl
theorem cs_yes {F : Fld} {xs : List Int} {q : Bool} (h : sharesB F xs = true) (e : q = csR F xs) : Ending.returned (.tuple #[.bool q, .bool true]) = .returned (.tuple #[.bool (csR F xs), .bool (sharesB F xs)]) := by rw [h, e]
set_option maxRecDepth 100000 in
set_option maxHeartbeats 1000000 in
theorem implCore_any (f : Value) (F : Fld) (A1 : Option Addr) (xs : List Int) (n1 c1 : Nat) (w : World) (hf : FldAt w f F) (h1 : IntsAt w A1 xs) (hn1 : xs.length = n1) :
    Calls Tryz.prog 6 #[f, .slice A1 n1 c1] w fun e w' => e = .returned (.tuple #[.bool (csR F xs), .bool (sharesB F xs)]) ∧ Kp w w' := by
  obtain ⟨A, c, B, d, rfl, hA, hB⟩ := hf
  have hk0 : Kp w (w.alloc (.cells #[.slice A F.op.length c, .slice B F.di.length d] 27)) := (Kp.refl w).alloc _
  obtain ⟨d0, d1⟩ := box2 w (.slice A F.op.length c) (.slice B F.di.length d) 27
  have hFA := FldAt.kp (show FldAt w (.agg #[.slice A F.op.length c, .slice B F.di.length d]) F from ⟨A, c, B, d, rfl, hA, hB⟩) hk0
  replace h1 := h1.kp hk0
  have Hn1 := Lib.hid hn1
  clear hA hB hn1
  go_enter Tryz.func6, Tryz.ntmps6
  go_wp2_with fail
  have hsz : Hid ((w.alloc (.cells #[.slice A F.op.length c, .slice B F.di.length d] 27)).heap.size = w.heap.size + 1) := by show _ = _; simp
  generalize w.alloc (.cells #[.slice A F.op.length c, .slice B F.di.length d] 27) = wb at *
  have hkb : Kp wb wb := Kp.refl _
  have hkw := hk0
  have CC := Lib.hid (isShared_any _ F A1 xs n1 c1 _ (hFA.kp hkb) (h1.kp hkb) Hn1.out)
  with_reducible refine Calls.mono CC.out ?_
  rintro e w1 ⟨rfl, hk1⟩
  clear CC
  replace hkb := hkb.trans hk1
  cases hg_ : (sharesB F xs)
  · have Hs := Lib.hid hg_; clear hg_
    have q_d0 := hkb.get d0
    have q_d1 := hkb.get d1
    go_wp2_with fail
    go_ret2
    exact ⟨cs_no Hs.out, hkw.trans hkb⟩
  have Hs := Lib.hid hg_; clear hg_
  have HP := Lib.hid (sharesB_iff.1 Hs.out)
  have hd7 := (goodF_iff.1 HP.out.1).2.2.1
  obtain ⟨P, HPw, hpw, hP⟩ := pow_wrap (F.di.length : Int) (by omega) (by omega)
  rw [Int.toNat_natCast] at hpw
  have HP' : Hid (P = 2 ^ F.di.length) := by show P = _; simpa using HPw.out
  have hpu := u64_one_shl (F.di.length : Int) (by omega) (by omega)
  rw [Int.toNat_natCast, ← HP'.out] at hpu
  have hP1 : 1 ≤ P := by rw [HP'.out]; exact Nat.one_le_two_pow
  have hwp : IntKind.u64.wrap ((P : Int) - 1) = ((P - 1 : Nat) : Int) := by rw [IntKind.wrap_u64]; omega
  have Hb : Hid (P - 1 < 2 ^ F.di.length) := by show _ < _; rw [← HP'.out]; omega
  have Hfu : Hid (bitsL F.di.length (P - 1) = fullC F.di.length) := by show _ = _; rw [HP'.out]; rfl
  obtain ⟨Q, hQ⟩ : ∃ Q, Q = P - 1 := ⟨_, rfl⟩
  rw [← hQ] at hwp Hb Hfu
  clear hQ
  have q_d0 := hkb.get d0
  have q_d1 := hkb.get d1
  go_wp2_with fail
  with_reducible refine Calls.mono (list_any Q F.di.length _ Hb.out (by omega)) ?_
  rintro e w2 ⟨v, rfl, hov, hk2⟩
  clear q_d0 q_d1
  replace hkb := hkb.trans hk2
  rw [Hfu.out] at hov
  obtain ⟨Av, cv, hve, hiv⟩ := hov.ints (by have := crowd_len (full_crowd F); omega)
  subst hve
  have q_d0 := hkb.get d0
  have q_d1 := hkb.get d1
  go_wp2_with fail
  have CC := Lib.hid (implCb_any _ F A1 xs n1 c1 _ (hFA.kp hkb) (h1.kp hkb) Hn1.out)
  with_reducible refine Calls.mono CC.out ?_
  rintro e w3 ⟨u, rfl, hou, hk3⟩
  clear CC q_d0 q_d1
  replace hkb := hkb.trans hk3
  replace hiv := hiv.kp hk3
  cases hko : coOk F xs
  · have He : Hid ((ovL F xs).isEmpty = true) := by
      show _ = _
      have h : coOk F xs = !(ovL F xs).isEmpty := by simp [coOk, Hs.out]
      rw [hko] at h
      cases hh : (ovL F xs).isEmpty with
      | true => rfl
      | false => rw [hh] at h; cases h
    clear hko
    have q_d0 := hkb.get d0
    have q_d1 := hkb.get d1
    go_wp2_with fail
    have CC := Lib.hid (excess_any _ F A1 xs n1 c1 Av (fullC F.di.length) _ cv _ (hFA.kp hkb) (h1.kp hkb) Hn1.out hiv rfl Hs.out (full_crowd F))
    with_reducible refine Calls.mono CC.out ?_
    rintro e w4 ⟨rfl, hk4⟩
    clear CC q_d0 q_d1
    replace hkb := hkb.trans hk4
    replace hiv := hiv.kp hk4
    have q_d0 := hkb.get d0
    have q_d1 := hkb.get d1
    go_wp2_with fail
    go_ret2
    exact ⟨cs_yes Hs.out (by simp only [csR, Hs.out, He.out, Bool.true_and]; first | rfl | (rw [Bool.eq_iff_iff]; simp)), hkw.trans hkb⟩
  · have He : Hid (csR F xs = false) := by
      show _ = _
      have h : coOk F xs = !(ovL F xs).isEmpty := by simp [coOk, Hs.out]
      rw [hko] at h
      have h2 : (ovL F xs).isEmpty = false := by
        cases hh : (ovL F xs).isEmpty with
        | true => rw [hh] at h; cases h
        | false => rfl
      simp only [csR, h2, Bool.and_false, Bool.false_and]
    clear hko
    have q_d0 := hkb.get d0
    have q_d1 := hkb.get d1
    go_wp2_with fail
    go_ret2
    exact ⟨cs_yes Hs.out He.out.symm, hkw.trans hkb⟩
set_option maxRecDepth 100000 in
set_option maxHeartbeats 1000000 in
theorem specCore_any (f : Value) (F : Fld) (A1 : Option Addr) (xs : List Int) (n1 c1 : Nat) (w : World) (hf : FldAt w f F) (h1 : IntsAt w A1 xs) (hn1 : xs.length = n1) :
    Calls Tryz.prog 7 #[f, .slice A1 n1 c1] w fun e w' => e = .returned (.tuple #[.bool (csR F xs), .bool (sharesB F xs)]) ∧ Kp w w' := by
  obtain ⟨A, c, B, d, rfl, hA, hB⟩ := hf
  have hk0 : Kp w (w.alloc (.cells #[.slice A F.op.length c, .slice B F.di.length d] 27)) := (Kp.refl w).alloc _
  obtain ⟨d0, d1⟩ := box2 w (.slice A F.op.length c) (.slice B F.di.length d) 27
  have hFA := FldAt.kp (show FldAt w (.agg #[.slice A F.op.length c, .slice B F.di.length d]) F from ⟨A, c, B, d, rfl, hA, hB⟩) hk0
  replace h1 := h1.kp hk0
  have Hn1 := Lib.hid hn1
  clear hA hB hn1
  go_enter Tryz.func7, Tryz.ntmps7
  go_wp2_with fail
  have hsz : Hid ((w.alloc (.cells #[.slice A F.op.length c, .slice B F.di.length d] 27)).heap.size = w.heap.size + 1) := by show _ = _; simp
  generalize w.alloc (.cells #[.slice A F.op.length c, .slice B F.di.length d] 27) = wb at *
  have hkb : Kp wb wb := Kp.refl _
  have hkw := hk0
  have CC := Lib.hid (l9Shares_any _ F A1 xs n1 c1 _ (hFA.kp hkb) (h1.kp hkb) Hn1.out)
  with_reducible refine Calls.mono CC.out ?_
  rintro e w1 ⟨rfl, hk1⟩
  clear CC
  replace hkb := hkb.trans hk1
  cases hg_ : (sharesB F xs)
  · have Hs := Lib.hid hg_; clear hg_
    have q_d0 := hkb.get d0
    have q_d1 := hkb.get d1
    go_wp2_with fail
    go_ret2
    exact ⟨cs_no Hs.out, hkw.trans hkb⟩
  have Hs := Lib.hid hg_; clear hg_
  have HP := Lib.hid (sharesB_iff.1 Hs.out)
  have hd7 := (goodF_iff.1 HP.out.1).2.2.1
  have hP128 : 2 ^ F.di.length ≤ 128 := Nat.pow_le_pow_right (by omega) hd7
  obtain ⟨P, hPe⟩ : ∃ P, P = 2 ^ F.di.length := ⟨_, rfl⟩
  rw [← hPe] at hP128
  replace hPe := Lib.hid hPe
  have hP1 : 1 ≤ P := by rw [hPe.out]; exact Nat.one_le_two_pow
  have q_d0 := hkb.get d0
  have q_d1 := hkb.get d1
  go_wp2_with fail
  have CC := Lib.hid (l9Table_any _ F _ (hFA.kp hkb) HP.out.1)
  with_reducible refine Calls.mono CC.out ?_
  rintro e w2 ⟨v, rfl, hot, hk2⟩
  clear CC q_d0 q_d1
  replace hkb := hkb.trans hk2
  rw [← hPe.out] at hot
  obtain ⟨At, ct, hve, hit⟩ := hot.ints (by rw [mapTo_len]; omega)
  subst hve
  have htl := Lib.hid (mapTo_len (ctF F) P)
  obtain ⟨td, rfl, htd⟩ := hit.at_ (k := 0) (by rw [htl.out]; omega)
  have x1 := hit.some_ (k := P - 1) (by rw [htl.out]; omega)
  have e1 : (mapTo (ctF F) P)[P - 1]'(by rw [htl.out]; omega) = costF F (fullC F.di.length) := by simp [mapTo, ctF, fullC, hPe.out]
  rw [e1] at x1
  rw [htl.out]
  obtain ⟨Q, hQ⟩ : ∃ Q, Q = P - 1 := ⟨_, rfl⟩
  rw [← hQ] at x1
  have hq1 : (P : Int) - 1 = (Q : Int) := by omega
  have hq2 : Q < P := by omega
  have hq3 : (Q : Int) < (P : Int) := by omega
  have hq4 : Q ≤ 127 := by omega
  have hq5 : (0 : Int) ≤ (Q : Int) := by omega
  have hq6 : IntKind.i64.wrap (Q : Int) = (Q : Int) := by rw [IntKind.wrap_i64] <;> omega
  have hex : Hid (excS F xs (fullC F.di.length) = xs.sum - costF F (fullC F.di.length)) := by show _ = _; unfold excS; rw [room_full HP.out.2.1]
  have FLl := hFA.kp hkb
  have h1l := h1.kp hkb
  have g0 := hkb.get d0
  have g1 := hkb.get d1
  have hkl := hkw.trans hkb
  have hsb := Lib.hid (sum_bd HP.out.2.2)
  have hn7 : n1 ≤ 7 := by have := HP.out.2.1; have := Hn1.out; omega
  obtain ⟨wl, rfl⟩ : ∃ wl : World, wl = w2 := ⟨_, rfl⟩
  have C1 := Lib.hid (fun (wx : World) (hx : Kp wl wx) => l3Sum_any A1 xs n1 c1 wx (h1l.kp hx) Hn1.out (fun k hk' => by have := hsb.out k (by rw [Hn1.out]; exact hk'); omega) (fun x hx2 => by have := HP.out.2.2 x hx2; omega))
  have C2 := Lib.hid (fun (wx : World) (hx : Kp wl wx) => l9Over_any _ F A1 xs n1 c1 wx (FLl.kp hx) (h1l.kp hx) Hn1.out Hs.out)
  clear hkb e1 hot htd hit hQ htl hPe hP1 d0 d1
  generalize costF F (fullC F.di.length) = cs at *
  generalize xs.sum = sm at *
  have hkz : Kp wl wl := Kp.refl _
  by_cases heq : sm = cs
  · have hdec : (sm == cs) = true := by simp [heq]
    have Hr : Hid (csR F xs = (ovL F xs).isEmpty) := by show _ = _; simp [csR, Hs.out, hex.out, heq]
    clear heq
    have q_g0 := hkz.get g0
    have q_g1 := hkz.get g1
    have q_x1 := hkz.get x1
    have tok1 : True := trivial
    go_wp2_with fail
    go_region_held3 (fun w' => w'.cell? ⟨w.heap.size, 0, none⟩ = some (.slice A F.op.length c) ∧ w'.cell? ⟨w.heap.size, 1, none⟩ = some (.slice B F.di.length d) ∧ w'.cell? (td.add Q) = some (.int .i64 cs) ∧ Kp wl w')
      (first | (refine keepc3 g0 g1 x1 ?_; exact (by repeat (first | with_reducible assumption | with_reducible exact Kp.refl _ | with_reducible refine Kp.drew ?_ | with_reducible refine Kp.alloc ?_ _ | with_reducible refine Kp.drewN ?_ _ | refine Kp.setCell ?_ (by dsimp only; omega) _))) | fail)
      (first
        | (have _t := tok1; go_at_call 25; with_reducible refine Calls.mono (C1.out _ (by repeat (first | with_reducible assumption | with_reducible exact Kp.refl _ | with_reducible refine Kp.drew ?_ | with_reducible refine Kp.alloc ?_ _ | with_reducible refine Kp.drewN ?_ _ | refine Kp.setCell ?_ (by dsimp only; omega) _))) ?_; rintro e wr1 ⟨rfl, hw⟩; obtain rfl := hw; have tok2 : True := trivial; clear tok1 _t)
        | (have _t := tok2; go_at_call 26; with_reducible refine Calls.mono (C2.out _ (by repeat (first | with_reducible assumption | with_reducible exact Kp.refl _ | with_reducible refine Kp.drew ?_ | with_reducible refine Kp.alloc ?_ _ | with_reducible refine Kp.drewN ?_ _ | refine Kp.setCell ?_ (by dsimp only; omega) _))) ?_; rintro e wr2 ⟨As, cs2, rfl, ho, hka⟩; have hr2 : Kp wl wr2 := Kp.trans (by repeat (first | with_reducible assumption | with_reducible exact Kp.refl _ | with_reducible refine Kp.drew ?_ | with_reducible refine Kp.alloc ?_ _ | with_reducible refine Kp.drewN ?_ _ | refine Kp.setCell ?_ (by dsimp only; omega) _)) hka; have tok3 : True := trivial; clear tok2 _t)
        | fail)
    all_goals
      go_wp2_with fail
      go_ret2
      refine ⟨cs_yes Hs.out ?_, hkl.trans hr2⟩
      rw [Hr.out]
      cases hh : ovL F xs with
      | nil => rfl
      | cons a t => simp <;> omega
  · have hdec : (sm == cs) = false := by simp [heq]
    have Hr : Hid (csR F xs = false) := by
      show _ = _
      have : ¬ excS F xs (fullC F.di.length) = 0 := by rw [hex.out]; omega
      simp [csR, this]
    have Cq := Lib.hid (fun n => Calls.same_quiet (C1.out (wl.drewN n) ((Kp.refl wl).drewN n)))
    clear C1 C2 hkz heq
    go_wp2_with fail
    go_quiet (exact Cq.out _)
    go_wp2_with fail
    go_ret2
    exact ⟨cs_yes Hs.out (by rw [Hr.out]), hkl.trans ((Kp.refl _).drewN nq)⟩
end Go.Proofs.YtffpdebjjcbenaaGreat

namespace Go.Proofs.YtffpdebjjcbenaaGreat
open Go.RowKit Go.Sort

theorem fold_min {F : Fld} {i : Nat} : ∀ (L : List Int) (b : Int), dAt F i (L.foldl (stepS F i) b) ≤ dAt F i b ∧ ∀ a ∈ L, dAt F i (L.foldl (stepS F i) b) ≤ dAt F i a
  | [], b => ⟨Int.le_refl _, by simp⟩
  | x :: L, b => by
    have h := fold_min (F := F) (i := i) L (stepS F i b x)
    have hb : dAt F i (stepS F i b x) ≤ dAt F i b ∧ dAt F i (stepS F i b x) ≤ dAt F i x := by
      unfold stepS; split <;> constructor <;> omega
    refine ⟨Int.le_trans h.1 hb.1, fun a ha => ?_⟩
    rcases List.mem_cons.1 ha with rfl | ha
    · exact Int.le_trans h.1 hb.2
    · exact h.2 a ha
theorem near_le {F : Fld} {i : Nat} {S : List Int} {x : Int} (hx : x ∈ S) : nearF F i S ≤ dAt F i x := by
  cases S with
  | nil => cases hx
  | cons y t =>
    have h := fold_min (F := F) (i := i) (y :: t) y
    exact h.2 x hx
theorem near_is {F : Fld} {i : Nat} {S : List Int} (hne : S ≠ []) : ∃ x ∈ S, nearF F i S = dAt F i x := ⟨siteF F i S, siteF_mem hne, rfl⟩
end Go.Proofs.YtffpdebjjcbenaaGreat

namespace Go.Proofs.YtffpdebjjcbenaaGreat
open Go.RowKit Go.Sort

/-- What the clients of C cost if the sites of S are open. -/
def onF (F : Fld) (C S : List Int) : Int := (C.map fun x => nearF F x.toNat S).sum + payF F S
theorem near_part {F : Fld} {C S : List Int} {i : Nat} (hi : i < C.length) : nearF (partF F C) i S = nearF F (C[i]).toNat S := by
  have hd : ∀ a, dAt (partF F C) i a = dAt F (C[i]).toNat a := fun a => by
    unfold dAt partF
    have e : (C.map fun i => F.di.getD i.toNat []).getD i [] = F.di.getD (C[i]).toNat [] := by simp [List.getD, hi]
    simp only [e]
  have hs : ∀ (L : List Int) (b : Int), L.foldl (stepS (partF F C) i) b = L.foldl (stepS F (C[i]).toNat) b := fun L => by
    induction L with
    | nil => intro b; rfl
    | cons y t ih =>
      intro b
      rw [List.foldl_cons, List.foldl_cons, ih]
      congr 1
      unfold stepS
      rw [hd, hd]
  unfold nearF siteF
  rw [hs, hd]
theorem tot_part (F : Fld) (C S : List Int) : totF (partF F C) S = onF F C S := by
  have h1 : serveF (partF F C) S = (C.map fun x => nearF F x.toNat S).sum := by
    unfold serveF sumTo mapTo
    have hl : (partF F C).di.length = C.length := by simp [partF]
    rw [hl]
    congr 1
    apply List.ext_getElem
    · simp
    · intro i h1 h2
      have hi : i < C.length := by simpa using h1
      rw [List.getElem_map, List.getElem_map, List.getElem_range, near_part hi]
  have h2 : payF (partF F C) S = payF F S := rfl
  unfold totF onF
  rw [h1, h2]
theorem cost_is {F : Fld} (hg : goodF F = true) {C : List Int} (hne : C ≠ []) : ∃ S, S ≠ [] ∧ setB F S = true ∧ costF F C = onF F C S := by
  have h0 : 0 < (setsL F.op.length).length := sets_pos hg
  have hm := bestL_mem (v := totF (partF F C)) h0
  obtain ⟨h1, h2⟩ := mem_setsL.1 hm
  refine ⟨_, h1, h2, ?_⟩
  rw [← tot_part]
  unfold costF
  rw [if_neg hne]; rfl
theorem cost_le {F : Fld} {C S : List Int} (hs : S ≠ []) (hb : setB F S = true) (hne : C ≠ []) : costF F C ≤ onF F C S := by
  rw [← tot_part]
  unfold costF
  rw [if_neg hne]
  exact bestL_le S (mem_setsL.2 ⟨hs, hb⟩)
theorem opAt_nn {F : Fld} (hg : goodF F = true) (a : Int) : 0 ≤ opAt F a := by
  have h := (goodF_iff.1 hg).2.1
  unfold opAt
  by_cases hi : a.toNat < F.op.length
  · have e : F.op.getD a.toNat 0 = F.op[a.toNat] := by simp [List.getD, hi]
    rw [e]; exact (h _ (List.getElem_mem hi)).1
  · rw [List.getD_eq_getElem?_getD, List.getElem?_eq_none (by omega)]; simp
theorem near_nn {F : Fld} (hg : goodF F = true) (i : Nat) (S : List Int) : 0 ≤ nearF F i S := (nearF_bd hg S i).1
theorem sum_nn {l : List Int} (h : ∀ x ∈ l, 0 ≤ x) : 0 ≤ l.sum := by
  induction l with
  | nil => simp
  | cons a t ih =>
    rw [List.sum_cons]
    have := h a List.mem_cons_self
    have := ih (fun x hx => h x (List.mem_cons_of_mem _ hx))
    omega
/-- A sum over a list without repeats is at most that over one that holds it. -/
theorem sum_sub {g : Int → Int} (hg : ∀ x, 0 ≤ g x) : ∀ (L T : List Int), L.Nodup → (∀ x ∈ L, x ∈ T) → (L.map g).sum ≤ (T.map g).sum
  | [], T, _, _ => by
    rw [List.map_nil, List.sum_nil]
    exact sum_nn (fun x hx => by obtain ⟨y, _, rfl⟩ := List.mem_map.1 hx; exact hg y)
  | a :: t, T, hn, hs => by
    have ha := hs a List.mem_cons_self
    obtain ⟨T1, T2, rfl⟩ := List.append_of_mem ha
    rw [List.nodup_cons] at hn
    have ih := sum_sub hg t (T1 ++ T2) hn.2 (fun x hx => by
      have := hs x (List.mem_cons_of_mem _ hx)
      rw [List.mem_append, List.mem_cons] at this
      rw [List.mem_append]
      rcases this with h | h | h
      · exact .inl h
      · exact absurd (h ▸ hx) hn.1
      · exact .inr h)
    rw [List.map_append, List.sum_append] at ih
    rw [List.map_cons, List.sum_cons, List.map_append, List.sum_append, List.map_cons, List.sum_cons]
    omega
theorem sum_cup {g : Int → Int} (hg : ∀ x, 0 ≤ g x) {L S T : List Int} (hn : L.Nodup) (h : ∀ x ∈ L, x ∈ S ∨ x ∈ T) : (L.map g).sum ≤ (S.map g).sum + (T.map g).sum := by
  have := sum_sub hg L (S ++ T) hn (fun x hx => List.mem_append.2 (h x hx))
  rwa [List.map_append, List.sum_append] at this
theorem near_sub {F : Fld} {i : Nat} {S T : List Int} (hs : S ≠ []) (h : ∀ x ∈ S, x ∈ T) : nearF F i T ≤ nearF F i S := by
  obtain ⟨x, hx, e⟩ := near_is (F := F) (i := i) hs
  rw [e]
  exact near_le (h x hx)
theorem map_le {g h : Int → Int} {C : List Int} (hl : ∀ x ∈ C, g x ≤ h x) : (C.map g).sum ≤ (C.map h).sum := by
  induction C with
  | nil => simp
  | cons a t ih =>
    rw [List.map_cons, List.map_cons, List.sum_cons, List.sum_cons]
    have := hl a List.mem_cons_self
    have := ih (fun x hx => hl x (List.mem_cons_of_mem _ hx))
    omega
theorem ris_nodup {xs : List Int} (h : xs.Pairwise (· < ·)) : xs.Nodup := h.imp (fun h => by omega)
/-- More clients cost no less. -/
theorem cost_mono {F : Fld} (hg : goodF F = true) {C D : List Int} (hc : crowdB F C = true) (h : ∀ x ∈ C, x ∈ D) : costF F C ≤ costF F D := by
  by_cases e : C = []
  · subst e
    have h0 : costF F [] = 0 := if_pos rfl
    rw [h0]
    by_cases e2 : D = []
    · subst e2; rw [h0]; exact Int.le_refl _
    · obtain ⟨S, _, _, h3⟩ := cost_is hg e2
      rw [h3]
      have h1 := sum_nn (l := D.map fun x => nearF F x.toNat S) (fun x hx => by obtain ⟨y, _, rfl⟩ := List.mem_map.1 hx; exact near_nn hg _ _)
      have h2 := sum_nn (l := S.map (opAt F)) (fun x hx => by obtain ⟨y, _, rfl⟩ := List.mem_map.1 hx; exact opAt_nn hg _)
      unfold onF payF; omega
  · have e2 : D ≠ [] := by
      obtain ⟨x, hx⟩ := List.exists_mem_of_ne_nil C e
      intro h2; subst h2; exact absurd (h x hx) (by simp)
    obtain ⟨S, h1, h2, h3⟩ := cost_is hg e2
    have h4 := cost_le (F := F) h1 h2 e
    have h5 := sum_sub (g := fun x => nearF F x.toNat S) (fun x => near_nn hg _ _) C D (ris_nodup (ris_iff.1 hc).1) h
    rw [h3]
    unfold onF at h4 ⊢
    omega
/-- Two sets together cost at most the sum. -/
theorem cost_cup {F : Fld} (hg : goodF F = true) {C D E : List Int} (he : crowdB F E = true) (h : ∀ x ∈ E, x ∈ C ∨ x ∈ D) : costF F E ≤ costF F C + costF F D := by
  have h0 : costF F [] = 0 := if_pos rfl
  by_cases e : E = []
  · subst e
    have h1 := cost_mono hg (C := []) (D := C) rfl (by simp)
    have h2 := cost_mono hg (C := []) (D := D) rfl (by simp)
    rw [h0] at h1 h2 ⊢
    omega
  by_cases eC : C = []
  · subst eC
    have := cost_mono hg he (D := D) (fun x hx => by rcases h x hx with h | h; exact absurd h (by simp); exact h)
    rw [h0]; omega
  by_cases eD : D = []
  · subst eD
    have := cost_mono hg he (D := C) (fun x hx => by rcases h x hx with h | h; exact h; exact absurd h (by simp))
    rw [h0]; omega
  obtain ⟨S, s1, s2, s3⟩ := cost_is hg eC
  obtain ⟨T, t1, t2, t3⟩ := cost_is hg eD
  obtain ⟨U, hU⟩ : ∃ U, U = bitsL F.op.length (bagN S ||| bagN T) := ⟨_, rfl⟩
  have hmem : ∀ x, x ∈ U ↔ x ∈ S ∨ x ∈ T := fun x => by
    have e1 : bitsL F.op.length (bagN S) = S := set_bits s2
    have e2 : bitsL F.op.length (bagN T) = T := set_bits t2
    rw [hU, mem_bitsL, Nat.testBit_or, Bool.or_eq_true]
    constructor
    · rintro ⟨h1, h2, h3 | h3⟩
      · left; rw [← e1]; exact mem_bitsL.2 ⟨h1, h2, h3⟩
      · right; rw [← e2]; exact mem_bitsL.2 ⟨h1, h2, h3⟩
    · rintro (h1 | h1)
      · rw [← e1] at h1
        obtain ⟨a1, a2, a3⟩ := mem_bitsL.1 h1
        exact ⟨a1, a2, .inl a3⟩
      · rw [← e2] at h1
        obtain ⟨a1, a2, a3⟩ := mem_bitsL.1 h1
        exact ⟨a1, a2, .inr a3⟩
  have hUs : setB F U = true := by rw [hU]; exact bitsL_set _
  have hUn : U ≠ [] := by
    obtain ⟨x, hx⟩ := List.exists_mem_of_ne_nil S s1
    intro h2
    have := (hmem x).2 (.inl hx)
    rw [h2] at this; exact absurd this (by simp)
  have h1 := cost_le hUn hUs e
  have hp : payF F U ≤ payF F S + payF F T := sum_cup (fun x => opAt_nn hg x) (ris_nodup (ris_iff.1 hUs).1) (fun x hx => (hmem x).1 hx)
  have hq := sum_cup (g := fun x => nearF F x.toNat U) (fun x => near_nn hg _ _) (ris_nodup (ris_iff.1 he).1) h
  have hC := map_le (C := C) (g := fun x => nearF F x.toNat U) (h := fun x => nearF F x.toNat S) (fun x _ => near_sub s1 (fun y hy => (hmem y).2 (.inl hy)))
  have hD := map_le (C := D) (g := fun x => nearF F x.toNat U) (h := fun x => nearF F x.toNat T) (fun x _ => near_sub t1 (fun y hy => (hmem y).2 (.inr hy)))
  rw [s3, t3]
  unfold onF at h1 ⊢
  omega
theorem bits_crowd (F : Fld) (b : Nat) : crowdB F (bitsL F.di.length b) = true := bitsL_ris _ _ _ (Int.le_refl _)
theorem ct_mono {F : Fld} (hg : goodF F = true) (a b : Nat) : ctF F a ≤ ctF F (a ||| b) :=
  cost_mono hg (bits_crowd F a) (fun x hx => by
    obtain ⟨h1, h2, h3⟩ := mem_bitsL.1 hx
    exact mem_bitsL.2 ⟨h1, h2, by rw [Nat.testBit_or, h3]; rfl⟩)
theorem ct_cup {F : Fld} (hg : goodF F = true) (a b : Nat) : ctF F (a ||| b) ≤ ctF F a + ctF F b :=
  cost_cup hg (bits_crowd F _) (fun x hx => by
    obtain ⟨h1, h2, h3⟩ := mem_bitsL.1 hx
    rw [Nat.testBit_or, Bool.or_eq_true] at h3
    rcases h3 with h3 | h3
    · exact .inl (mem_bitsL.2 ⟨h1, h2, h3⟩)
    · exact .inr (mem_bitsL.2 ⟨h1, h2, h3⟩))
end Go.Proofs.YtffpdebjjcbenaaGreat

namespace Go.Proofs.YtffpdebjjcbenaaGreat
theorem sumTo_addf (g h : Nat → Int) : ∀ k, sumTo (fun i => g i + h i) k = sumTo g k + sumTo h k
  | 0 => by simp [sumTo_zero]
  | k + 1 => by rw [sumTo_succ, sumTo_succ, sumTo_succ, sumTo_addf g h k]; omega
theorem sumTo_congr {g h : Nat → Int} : ∀ {k : Nat}, (∀ i, i < k → g i = h i) → sumTo g k = sumTo h k
  | 0, _ => rfl
  | k + 1, e => by rw [sumTo_succ, sumTo_succ, sumTo_congr (fun i hi => e i (by omega)), e k (by omega)]
theorem sumTo_mono' {g h : Nat → Int} : ∀ {k : Nat}, (∀ i, i < k → g i ≤ h i) → sumTo g k ≤ sumTo h k
  | 0, _ => Int.le_refl _
  | k + 1, e => by rw [sumTo_succ, sumTo_succ]; have := sumTo_mono' (fun i hi => e i (by omega) : ∀ i, i < k → g i ≤ h i); have := e k (by omega); omega
theorem sumTo_lt {g h : Nat → Int} {a : Nat} : ∀ {k : Nat}, (∀ i, i < k → g i ≤ h i) → a < k → g a < h a → sumTo g k < sumTo h k
  | 0, _, ha, _ => by omega
  | k + 1, e, ha, hl => by
    rw [sumTo_succ, sumTo_succ]
    by_cases h1 : a = k
    · subst h1; have := sumTo_mono' (fun i hi => e i (by omega) : ∀ i, i < a → g i ≤ h i); omega
    · have := sumTo_lt (fun i hi => e i (by omega) : ∀ i, i < k → g i ≤ h i) (by omega) hl; have := e k (by omega); omega
theorem sumTo_c0 (k : Nat) : sumTo (fun _ => 0) k = 0 := by
  induction k with
  | zero => rfl
  | succ k ih => rw [sumTo_succ, ih]; rfl
theorem sumTo_sub (g h : Nat → Int) : ∀ k, sumTo (fun i => g i - h i) k = sumTo g k - sumTo h k
  | 0 => by simp [sumTo_zero]
  | k + 1 => by rw [sumTo_succ, sumTo_succ, sumTo_succ, sumTo_sub g h k]; omega
theorem sumTo_mulc (g : Nat → Int) (c : Int) : ∀ k, sumTo (fun i => g i * c) k = sumTo g k * c
  | 0 => by simp [sumTo_zero]
  | k + 1 => by rw [sumTo_succ, sumTo_succ, sumTo_mulc g c k, Int.add_mul]
theorem sumTo_swap (g : Nat → Nat → Int) (k : Nat) : ∀ m, sumTo (fun i => sumTo (g i) k) m = sumTo (fun j => sumTo (fun i => g i j) m) k
  | 0 => by simp only [sumTo_zero]; rw [sumTo_c0]
  | m + 1 => by
    rw [sumTo_succ, sumTo_swap g k m, ← sumTo_addf]
    exact sumTo_congr (fun j _ => (sumTo_succ _ _).symm)
theorem sumTo_nn {g : Nat → Int} {k : Nat} (h : ∀ i, i < k → 0 ≤ g i) : 0 ≤ sumTo g k := by
  have := sumTo_mono' (g := fun _ => 0) h
  rwa [sumTo_c0] at this
theorem sumTo_ge {g : Nat → Int} {a : Nat} : ∀ {k : Nat}, (∀ i, i < k → 0 ≤ g i) → a < k → g a ≤ sumTo g k
  | 0, _, ha => by omega
  | k + 1, h, ha => by
    rw [sumTo_succ]
    by_cases h1 : a = k
    · subst h1; have := sumTo_nn (fun i hi => h i (by omega) : ∀ i, i < a → 0 ≤ g i); omega
    · have := sumTo_ge (fun i hi => h i (by omega) : ∀ i, i < k → 0 ≤ g i) (show a < k by omega); have := h k (by omega); omega
theorem sumTo_pos' {g : Nat → Int} {k : Nat} (h : ∀ i, i < k → 0 ≤ g i) (hs : 0 < sumTo g k) : ∃ i, i < k ∧ 0 < g i := by
  by_cases hh : ∃ i, i < k ∧ 0 < g i
  · exact hh
  · exfalso
    have : ∀ i, i < k → g i ≤ (fun _ => (0 : Int)) i := fun i hi => by
      have := h i hi
      by_cases h2 : 0 < g i
      · exact absurd ⟨i, hi, h2⟩ hh
      · show g i ≤ 0; omega
    have := sumTo_mono' this
    rw [sumTo_c0] at this; omega
/-- Change at one place. -/
def upd {α : Type} (g : Nat → α) (j : Nat) (x : α) (i : Nat) : α := if i = j then x else g i
def upd2 (f : Nat → Nat → Int) (j a : Nat) (x : Int) (i b : Nat) : Int := if i = j then upd (f j) a x b else f i b
theorem upd_at {α : Type} {g : Nat → α} {j : Nat} {x : α} : upd g j x j = x := if_pos rfl
theorem upd_ne {α : Type} {g : Nat → α} {j i : Nat} {x : α} (h : i ≠ j) : upd g j x i = g i := if_neg h
theorem sumTo_ones (n : Nat) : sumTo (fun _ => 1) n = (n : Int) := by
  induction n with
  | zero => rfl
  | succ n ih => rw [sumTo_succ, ih]; omega
theorem sumTo_single {g : Nat → Int} {p : Nat} : ∀ {n : Nat}, p < n → (∀ i, i < n → i ≠ p → g i = 0) → sumTo g n = g p
  | 0, h, _ => by omega
  | n + 1, h, h0 => by
    rw [sumTo_succ]
    by_cases e : p = n
    · subst e
      rw [sumTo_congr (h := fun _ => 0) (fun i hi => h0 i (by omega) (by omega)), sumTo_c0]; omega
    · rw [sumTo_single (show p < n by omega) (fun i hi hn => h0 i (by omega) hn), h0 n (by omega) (by omega)]; omega
theorem sumTo_one {p n : Nat} (h : p < n) : sumTo (fun i => if i = p then 1 else 0) n = 1 := by
  rw [sumTo_single h (fun i _ hn => if_neg hn), if_pos rfl]
theorem upd2_at {f : Nat → Nat → Int} {j a : Nat} {x : Int} : upd2 f j a x j a = x := by unfold upd2; rw [if_pos rfl, upd_at]
theorem upd2_ne {f : Nat → Nat → Int} {j a i b : Nat} {x : Int} (h : i ≠ j ∨ b ≠ a) : upd2 f j a x i b = f i b := by
  unfold upd2
  by_cases e : i = j
  · subst e; rw [if_pos rfl]
    rcases h with h | h
    · exact absurd rfl h
    · exact upd_ne h
  · rw [if_neg e]
end Go.Proofs.YtffpdebjjcbenaaGreat

namespace Go.Proofs.YtffpdebjjcbenaaGreat
open Go.RowKit Go.Sort

/-- What the clients claim of a site: what their prices leave of the lengths. -/
def bidF (F : Fld) (xs : List Int) (a : Int) : Int := sumTo (fun i => max 0 (numAt xs (i : Int) - dAt F i a)) F.di.length
def pricedB (F : Fld) (xs : List Int) : Bool := goodF F && decide (xs.length = F.di.length) && allB xs 0 500
def fairB (F : Fld) (xs : List Int) : Bool := (List.range F.op.length).all fun a => decide (bidF F xs (a : Int) ≤ opAt F (a : Int))
theorem fairB_iff {F : Fld} {xs : List Int} : fairB F xs = true ↔ ∀ a : Nat, a < F.op.length → bidF F xs (a : Int) ≤ opAt F (a : Int) := by
  simp [fairB]
def upC (n : Nat) (p : Nat → Bool) : List Int := ((List.range n).filter p).map fun (x : Nat) => (x : Int)
theorem mem_upC {n : Nat} {p : Nat → Bool} {x : Int} : x ∈ upC n p ↔ ∃ i : Nat, i < n ∧ p i = true ∧ x = (i : Int) := by
  unfold upC
  rw [List.mem_map]
  constructor
  · rintro ⟨i, hi, rfl⟩
    rw [List.mem_filter, List.mem_range] at hi
    exact ⟨i, hi.1, hi.2, rfl⟩
  · rintro ⟨i, h1, h2, rfl⟩
    exact ⟨i, List.mem_filter.2 ⟨List.mem_range.2 h1, h2⟩, rfl⟩
theorem upC_ris (n : Nat) (p : Nat → Bool) : risB (upC n p) 0 ((n : Int) - 1) = true := by
  refine ris_iff.2 ⟨?_, fun x hx => ?_⟩
  · unfold upC
    rw [List.pairwise_map]
    exact (List.pairwise_lt_range.filter _).imp (fun h => by omega)
  · obtain ⟨i, h1, _, rfl⟩ := mem_upC.1 hx
    omega
theorem sum_upC (g : Nat → Int) (p : Nat → Bool) : ∀ n, ((upC n p).map fun x => g x.toNat).sum = sumTo (fun i => if p i = true then g i else 0) n
  | 0 => rfl
  | n + 1 => by
    have ih := sum_upC g p n
    rw [sumTo_succ, ← ih]
    unfold upC
    rw [List.range_succ, List.filter_append, List.map_append, List.map_append, List.sum_append]
    congr 1
    by_cases h : p n = true <;> simp [h]
theorem sum_map_sub (g h : Int → Int) : ∀ C : List Int, (C.map fun x => g x - h x).sum = (C.map g).sum - (C.map h).sum
  | [] => by simp
  | a :: t => by
    have := sum_map_sub g h t
    rw [List.map_cons, List.map_cons, List.map_cons, List.sum_cons, List.sum_cons, List.sum_cons, this]
    omega
theorem near_oneC (F : Fld) (i : Nat) (a : Int) : nearF F i [a] = dAt F i a := by
  obtain ⟨x, hx, e⟩ := near_is (F := F) (i := i) (S := [a]) (by simp)
  have : x = a := by simpa using hx
  rw [e, this]
theorem set_oneC {F : Fld} {a : Nat} (ha : a < F.op.length) : setB F [(a : Int)] = true := by
  refine ris_iff.2 ⟨List.pairwise_singleton _ _, fun x hx => ?_⟩
  have : x = (a : Int) := by simpa using hx
  omega
theorem cf_full {F : Fld} (h0 : 0 < F.di.length) : costF F (fullC F.di.length) = Go.Proofs.YtffpdebjjcbenaaGreat.totF F (bestF F) := by
  rw [full_is]
  have hp : partF F ((List.range F.di.length).map fun (i : Nat) => (i : Int)) = F := by
    unfold partF
    have : (((List.range F.di.length).map fun (i : Nat) => (i : Int)).map fun i => F.di.getD i.toNat []) = F.di := by
      apply List.ext_getElem
      · simp
      · intro i h1 h2
        simp [List.getD, h2]
    rw [this]
  unfold costF
  have hne : ((List.range F.di.length).map fun (i : Nat) => (i : Int)) ≠ [] := fun h => by
    have h5 := congrArg List.length h
    rw [List.length_map, List.length_range, List.length_nil] at h5
    omega
  rw [if_neg hne, hp]
theorem full_ne {n : Nat} (h : 0 < n) : fullC n ≠ [] := fun e => by
  have := congrArg List.length e
  rw [full_is, List.length_map, List.length_range, List.length_nil] at this
  omega
/-- No set claims more than its site costs. -/
theorem core_fair {F : Fld} {xs : List Int} (hg : goodF F = true) (h : ∀ S ∈ setsL F.di.length, excS F xs S ≤ 0) : fairB F xs = true := by
  rw [fairB_iff]
  intro a ha
  obtain ⟨p, hp⟩ : ∃ p : Nat → Bool, p = fun i : Nat => decide (0 < numAt xs (i : Int) - dAt F i (a : Int)) := ⟨_, rfl⟩
  have hb : bidF F xs (a : Int) = ((upC F.di.length p).map fun x => numAt xs ((x.toNat : Nat) : Int) - dAt F x.toNat (a : Int)).sum := by
    rw [sum_upC (fun i => numAt xs (i : Int) - dAt F i (a : Int))]
    unfold bidF
    refine sumTo_congr (fun i _ => ?_)
    by_cases h1 : 0 < numAt xs (i : Int) - dAt F i (a : Int)
    · have : p i = true := by rw [hp]; exact decide_eq_true h1
      rw [if_pos this]; omega
    · have : p i = false := by rw [hp]; exact decide_eq_false h1
      rw [this, if_neg (by simp)]; omega
  have hn : ∀ C : List Int, (C.map fun x => numAt xs ((x.toNat : Nat) : Int) - dAt F x.toNat (a : Int)).sum = roomS xs C - (C.map fun x => nearF F x.toNat [(a : Int)]).sum := fun C => by
    have e1 : (C.map fun x => dAt F x.toNat (a : Int)) = C.map fun x => nearF F x.toNat [(a : Int)] := List.map_congr_left (fun x _ => (near_oneC F x.toNat (a : Int)).symm)
    rw [sum_map_sub, e1]; rfl
  by_cases he : upC F.di.length p = []
  · rw [hb, he]
    exact opAt_nn hg _
  · have h1 := h _ (mem_setsL.2 ⟨he, upC_ris _ _⟩)
    have h2 := cost_le (F := F) (S := [(a : Int)]) (by simp) (set_oneC ha) he
    have h3 : payF F [(a : Int)] = opAt F (a : Int) := by simp [payF]
    rw [hb, hn]
    unfold excS at h1
    unfold onF at h2
    omega
theorem near_bid {F : Fld} {xs S : List Int} {i : Nat} (hs : S ≠ []) : numAt xs (i : Int) - nearF F i S ≤ (S.map fun a => max 0 (numAt xs (i : Int) - dAt F i a)).sum := by
  obtain ⟨a, ha, e⟩ := near_is (F := F) (i := i) hs
  rw [e]
  obtain ⟨T1, T2, rfl⟩ := List.append_of_mem ha
  rw [List.map_append, List.sum_append, List.map_cons, List.sum_cons]
  have h1 := sum_nn (l := T1.map fun a => max 0 (numAt xs (i : Int) - dAt F i a)) (fun x hx => by obtain ⟨y, _, rfl⟩ := List.mem_map.1 hx; omega)
  have h2 := sum_nn (l := T2.map fun a => max 0 (numAt xs (i : Int) - dAt F i a)) (fun x hx => by obtain ⟨y, _, rfl⟩ := List.mem_map.1 hx; omega)
  omega
theorem sum_swapL (g : Nat → Int → Int) : ∀ (S : List Int) (n : Nat), sumTo (fun i => (S.map fun a => g i a).sum) n = (S.map fun a => sumTo (fun i => g i a) n).sum
  | [], n => by simp only [List.map_nil, List.sum_nil]; exact sumTo_c0 n
  | a :: t, n => by
    have ih := sum_swapL g t n
    simp only [List.map_cons, List.sum_cons]
    rw [sumTo_addf, ih]
theorem fair_core {F : Fld} {xs : List Int} (hg : goodF F = true) (hf : fairB F xs = true) : ∀ C, C ≠ [] → crowdB F C = true → excS F xs C ≤ 0 := by
  rw [fairB_iff] at hf
  intro C hC hc
  obtain ⟨S, h1, h2, h3⟩ := cost_is hg hC
  have hpay : (S.map fun a => bidF F xs a).sum ≤ payF F S := by
    unfold payF
    refine map_le (fun a ha => ?_)
    have h4 := set_mem h2 a ha
    have h5 := hf a.toNat (by omega)
    have h6 : ((a.toNat : Nat) : Int) = a := by omega
    rwa [h6] at h5
  have hsw := sum_swapL (fun i a => max 0 (numAt xs (i : Int) - dAt F i a)) S F.di.length
  have hex : excS F xs C = (C.map fun x => numAt xs x - nearF F x.toNat S).sum - payF F S := by
    unfold excS
    rw [h3, sum_map_sub]
    unfold onF roomS
    have : (C.map fun x => numAt xs x) = C.map (numAt xs) := rfl
    omega
  have hle : (C.map fun x => numAt xs x - nearF F x.toNat S).sum ≤ (C.map fun x => (S.map fun a => max 0 (numAt xs ((x.toNat : Nat) : Int) - dAt F x.toNat a)).sum).sum := by
    refine map_le (fun x hx => ?_)
    have h4 := crowd_mem hc x hx
    have h5 := near_bid (F := F) (xs := xs) (i := x.toNat) h1
    have h6 : ((x.toNat : Nat) : Int) = x := by omega
    rw [h6] at h5 ⊢
    exact h5
  have hsub := sum_sub (g := fun x => (S.map fun a => max 0 (numAt xs ((x.toNat : Nat) : Int) - dAt F x.toNat a)).sum) (fun x => sum_nn (fun y hy => by obtain ⟨z, _, rfl⟩ := List.mem_map.1 hy; omega)) C (upC F.di.length fun _ => true) (ris_nodup (ris_iff.1 hc).1) (fun x hx => by
    have h4 := crowd_mem hc x hx
    exact mem_upC.2 ⟨x.toNat, by omega, rfl, by omega⟩)
  rw [sum_upC (fun i => (S.map fun a => max 0 (numAt xs (i : Int) - dAt F i a)).sum)] at hsub
  simp only [if_true] at hsub
  have hb : (S.map fun a => bidF F xs a) = S.map fun a => sumTo (fun i => max 0 (numAt xs (i : Int) - dAt F i a)) F.di.length := rfl
  rw [hb] at hpay
  omega
/-- The answers, as the law compares them. -/
structure CrP (fine there is : Bool) (ex cost room : Int) : Prop where
  a : there = true → fine = decide (0 < ex)
  b : is = true → fine = false
  c : fine = true → cost < room
theorem ov_no {F : Fld} {xs : List Int} : (ovL F xs).isEmpty = true ↔ ∀ S ∈ setsL F.di.length, excS F xs S ≤ 0 := by
  unfold ovL
  constructor
  · intro h S hS
    cases hf : (setsL F.di.length).find? (posB F xs) with
    | none =>
      have := List.find?_eq_none.1 hf S hS
      simp only [posB, decide_eq_true_eq] at this
      omega
    | some T =>
      rw [hf] at h
      have h2 := (setsD_crowd (F := F) T (List.mem_of_find?_eq_some hf)).2
      exact absurd (List.isEmpty_iff.1 h) h2
  · intro h
    have : (setsL F.di.length).find? (posB F xs) = none := List.find?_eq_none.2 (fun S hS => by
      have := h S hS
      simp only [posB, decide_eq_true_eq]
      omega)
    rw [this]; rfl
theorem ov_pos {F : Fld} {xs : List Int} (h : (ovL F xs).isEmpty = false) : ovL F xs ∈ setsL F.di.length ∧ 0 < excS F xs (ovL F xs) := by
  unfold ovL at h ⊢
  cases hf : (setsL F.di.length).find? (posB F xs) with
  | none => rw [hf] at h; exact absurd h (by simp)
  | some T =>
    refine ⟨List.mem_of_find?_eq_some hf, ?_⟩
    have := List.find?_some hf
    simpa [posB] using this
theorem cr_parts {F : Fld} {xs : List Int} (hs : sharesB F xs = true) : CrP (coOk F xs) (geOk F xs) (csR F xs) (geR F xs) (cocR F (coL F xs)) (roomS xs (coL F xs)) := by
  have hp := sharesB_iff.1 hs
  have hok : coOk F xs = !(ovL F xs).isEmpty := by simp [coOk, hs]
  refine ⟨fun ht => ?_, fun hi => ?_, fun hf => ?_⟩
  · have h0 : 0 < F.di.length := by
      simp only [geOk, Bool.and_eq_true, Bool.not_eq_true'] at ht
      cases hx : xs with
      | nil => rw [hx] at ht; exact absurd ht.2 (by simp)
      | cons a t => rw [← hp.2.1, hx]; simp
    have hm := bestL_mem (v := negE F xs) (setsD_pos h0)
    have hge : geR F xs = excS F xs (geS F xs) := by unfold geR; rw [if_pos ht]
    rw [hok, hge]
    by_cases h1 : (ovL F xs).isEmpty = true
    · rw [h1]
      have h2 := ov_no.1 h1 _ hm
      exact (decide_eq_false (by unfold geS; omega)).symm
    · have h1' : (ovL F xs).isEmpty = false := by simpa using h1
      obtain ⟨h2, h3⟩ := ov_pos h1'
      have h4 := bestL_le (v := negE F xs) _ h2
      rw [h1']
      unfold negE at h4
      refine (decide_eq_true ?_).symm
      unfold geS negE
      omega
  · simp only [csR, Bool.and_eq_true] at hi
    rw [hok, hi.1.2]; rfl
  · have h1 : (ovL F xs).isEmpty = false := by rw [hok] at hf; simpa using hf
    obtain ⟨h2, h3⟩ := ov_pos h1
    have h4 : coL F xs = ovL F xs := if_pos hs
    have h5 : cocOk F (ovL F xs) = true := by
      unfold cocOk
      rw [hp.1, (setsD_crowd _ h2).1]; rfl
    rw [h4]
    unfold cocR
    rw [if_pos h5]
    unfold excS at h3
    omega
/-- In the core exactly if fair and of the right sum. -/
theorem cr_fair {F : Fld} {xs : List Int} (hs : sharesB F xs = true) (h0 : 0 < F.di.length) : csR F xs = (fairB F xs && (xs.sum == Go.Proofs.YtffpdebjjcbenaaGreat.totF F (bestF F))) := by
  have hp := sharesB_iff.1 hs
  have hfull : fullC F.di.length ∈ setsL F.di.length := mem_setsL.2 ⟨full_ne h0, full_crowd F⟩
  have he : excS F xs (fullC F.di.length) = xs.sum - Go.Proofs.YtffpdebjjcbenaaGreat.totF F (bestF F) := by
    unfold excS
    rw [room_full hp.2.1, cf_full h0]
  rw [Bool.eq_iff_iff]
  simp only [csR, Bool.and_eq_true, decide_eq_true_eq, beq_iff_eq, hs, true_and]
  constructor
  · rintro ⟨h1, h2⟩
    exact ⟨core_fair hp.1 (ov_no.1 h1), by omega⟩
  · rintro ⟨h1, h2⟩
    refine ⟨ov_no.2 (fun S hS => ?_), by omega⟩
    obtain ⟨h3, h4⟩ := mem_setsL.1 hS
    exact fair_core hp.1 h1 S h3 h4
end Go.Proofs.YtffpdebjjcbenaaGreat

namespace Go.Proofs.YtffpdebjjcbenaaGreat
open Go.RowKit Go.Sort

/-- A slot of a slice of the call's own: read and written. -/
theorem Own.slot {w : World} {base g n cap j : Nat} {xs : List Int} (h : Own w base (.slice (some ⟨g, 0, none⟩) n cap) xs) (hn : xs.length = n) (hj : j < n) :
    w.cell? ⟨g, j, none⟩ = some (.int .i64 (xs.getD j 0)) ∧ w.frozen? ⟨g, j, none⟩ = false ∧
    ∀ z : Int, Own (w.setCell ⟨g, j, none⟩ (.int .i64 z)) base (.slice (some ⟨g, 0, none⟩) n cap) (xs.set j z) ∧ Turn (fun i => i = g) w (w.setCell ⟨g, j, none⟩ (.int .i64 z)) := by
  have h' : w.ownsRow base 3 1 (.slice (some ⟨g, 0, none⟩) n cap) n (xs.map (Value.int .i64)) := by
    have := h; unfold Own at this; rw [hn] at this; exact this
  refine ⟨?_, h'.frozenAt j, fun z => ?_⟩
  · rw [h'.cellAt j (by omega), List.getElem?_map]
    have : j < xs.length := by omega
    simp [List.getD, this]
  · have hs := h'.stored j (.int .i64 z)
    refine ⟨?_, (Turn.of_grown hs.2).mono (fun i hi => by simpa using hi.symm)⟩
    have h2 := hs.1
    rw [← List.map_set] at h2
    unfold Own
    rw [List.length_set, hn]; exact h2
/-- A slot of a slice of the call's own: read, written, and written while another such slice stays. -/
theorem Own.slotL {w : World} {base g n cap j : Nat} {xs : List Int} (h : Own w base (.slice (some ⟨g, 0, none⟩) n cap) xs) (hn : xs.length = n) (hj : j < n) :
    w.cell? ⟨g, j, none⟩ = some (.int .i64 (lget xs j)) ∧ w.frozen? ⟨g, j, none⟩ = false ∧
    ∀ z : Int, Own (w.setCell ⟨g, j, none⟩ (.int .i64 z)) base (.slice (some ⟨g, 0, none⟩) n cap) (xs.set j z) ∧ Turn (fun i => i = g) w (w.setCell ⟨g, j, none⟩ (.int .i64 z)) := h.slot hn hj
theorem Own.not_block {w w' : World} {base g n cap : Nat} {v : Value} {xs : List Int} (h : Own w base v xs) (ha : Apart v (.slice (some ⟨g, 0, none⟩) n cap)) (ht : Turn (fun i => i = g) w w') : Own w' base v xs :=
  h.turn ht (fun k hk e => ha k hk (by subst e; rfl))
theorem Own.at0 {w : World} {base n : Nat} {v : Value} {xs : List Int} (h : Own w base v xs) (hn : xs.length = n) (hp : 0 < n) : ∃ g cap, v = .slice (some ⟨g, 0, none⟩) n cap := by
  rcases h.2 with ⟨_, h0⟩ | ⟨g, cap, cur, e, _⟩
  · omega
  · exact ⟨g, cap, by rw [e, hn]⟩
def sLen : Value → Nat
  | .slice _ n _ => n
  | _ => 0
theorem own_made (w : World) (base n : Nat) (hb : base ≤ w.heap.size) (hn : n ≤ 1048576) : Own (w.alloc (.cells (madeCells #[.int .i64 0] n) 3)) base (.slice (some ⟨w.heap.size, 0, none⟩) n n) (List.replicate n 0) := by
  have hr : IntRow (w.alloc (.cells (madeCells #[.int .i64 0] n) 3)) w.heap.size (List.replicate n 0) := by
    unfold IntRow
    rw [List.length_replicate]
    exact (World.rowIs_made w (.int .i64 0) n 3).congr (fun i hi => by simp [List.getD, hi])
  have := Own.of_row hr hb (by simp; omega)
  rw [List.length_replicate] at this
  exact this
end Go.Proofs.YtffpdebjjcbenaaGreat

namespace Go.Proofs.YtffpdebjjcbenaaGreat
open Go.RowKit Go.Sort

/-- append of a whole list of numbers to a slice of the call's own. -/
theorem wpl_appAll {ops : Array Oper} {rest : List Oper} {o : Oper} {a : Act} {Q : Exit → Act → World → Prop} {W : World} (hgd : o.guard = none) (s x : Operand)
    (ho : o.op = .call { callee := .builtin .append, args := #[s, x], argTypes := #[24, 24] }) (base : Nat) (v : Value) (xs ys : List Int) (ad : Addr) (m c : Nat)
    (hs : a.eval s = v) (hx : a.eval x = .slice (some ad) m c) (hown : Own W base v xs) (hy : IntsAt W (some ad) ys) (hym : ys.length = m) (hbase : base ≤ W.heap.size) (hlen : xs.length + ys.length ≤ 4194304)
    (h : ∀ v' w', Own w' base v' (xs ++ ys) → Turn (fun i => v.ownBlock = some i) W w' → (v'.ownBlock = v.ownBlock ∨ ∀ g, v'.ownBlock = some g → W.heap.size ≤ g) → wpList Tryz.prog ops Q rest (a.put o.dst v') w') :
    wpList Tryz.prog ops Q (o :: rest) a W := by
  obtain ⟨i0, hi, hz0, hz1, hz2⟩ := info_parts infoInt
  refine wpList_append_own_at _ hgd s x 24 ho base 3 i0 (.int .i64 0) 1 8 Tryz.underlying24 hi hz0 hz1 hz2 rfl (by decide) v xs.length (xs.map (Value.int .i64)) hs hown ad m c (ys.map (Value.int .i64)) hx (by simp [hym]) ?_ (ints_oneCell _ _) ?_ ?_ hbase ?_
  · intro j u hj
    by_cases hlt : j < ys.length
    · rw [List.getElem?_map, List.getElem?_eq_getElem hlt] at hj
      have e : u = .int .i64 ys[j] := by simpa using hj.symm
      rw [e]; exact hy.some_ hlt
    · rw [List.getElem?_eq_none (by simpa using hlt)] at hj; cases hj
  · unfold maxLen; omega
  · omega
  · intro v' w' h2 h3 _ h4
    refine h v' w' ?_ (Turn.of_grown h3) ?_
    · unfold Own
      rw [List.length_append, List.map_append, hym]
      exact h2
    · rcases h4 with e | e
      · exact .inl e
      · exact .inr (fun g hg => by rw [e] at hg; simp at hg; omega)

theorem min_any (A : Option Addr) (xs : List Int) (n c : Nat) (w : World) (hx : IntsAt w A xs) (hn : xs.length = n) (hp : 0 < n) :
    Calls Tryz.prog 60 #[.slice A n c] w fun e w' => ∃ r : Int, e = .returned (.int .i64 r) ∧ r ∈ xs ∧ (∀ x ∈ xs, r ≤ x) ∧ w = w' := by
  have hm : n ≤ 9223372036854775807 := hn ▸ hx.1
  have Hn := Lib.hid hn; clear hn
  have lx0 : 0 < xs.length := by rw [Hn.out]; exact hp
  obtain ⟨ad, rfl, hc0⟩ := hx.at_ lx0
  rw [show ad.add 0 = ad from rfl] at hc0
  have hp1 : (0 : Int) < n := by omega
  have hp2 : ¬ (n : Int) < 1 := by omega
  go_enter Tryz.func60, Tryz.ntmps60
  go_wp2_with fail
  go_loop [3, 4] (fun mv ix => ∃ (k : Nat) (r : Int), 1 ≤ k ∧ k ≤ n ∧ ix = .int .i64 k ∧ mv = .int .i64 r ∧ Hid (r ∈ xs) ∧ Hid (∀ x ∈ xs.take k, r ≤ x)) (fun _ ix => n - (intOf ix).toNat)
  case atStart =>
    refine ⟨1, xs[0], by omega, by omega, rfl, rfl, List.getElem_mem lx0, ?_⟩
    intro x hx'
    rw [List.take_succ_eq_append_getElem lx0] at hx'
    simp at hx'
    omega
  case round =>
    obtain ⟨k, r, hk1, hk, rfl, rfl, Hr, Hall⟩ := hrel
    by_cases hlt : k < n
    · have lx : k < xs.length := by rw [Hn.out]; exact hlt
      have hck := hx.some_ lx
      go_wp2_with fail
      go_round
      case rel =>
        refine ⟨k + 1, min r xs[k], by omega, by omega, by go_num, ?_, ?_, ?_⟩
        · first
            | rfl
            | (congr 1; split <;> omega)
            | (congr 1; omega)
        · show min r xs[k] ∈ xs
          by_cases hle : r ≤ xs[k]
          · rw [Int.min_eq_left hle]; exact Hr
          · rw [Int.min_eq_right (by omega)]; exact List.getElem_mem lx
        · show ∀ x ∈ xs.take (k + 1), min r xs[k] ≤ x
          intro x hx'
          rw [List.take_succ_eq_append_getElem lx, List.mem_append] at hx'
          rcases hx' with h | h
          · have := Hall.out x h
            omega
          · simp at h
            omega
      case measure => simp [intOf]; omega
    · obtain rfl : k = n := by omega
      go_wp2_with fail
      go_ret
      refine ⟨r, rfl, Hr, ?_, rfl⟩
      have := Hall.out
      rw [List.take_of_length_le (by rw [Hn.out]; omega)] at this
      exact this
end Go.Proofs.YtffpdebjjcbenaaGreat

/- IsCoreShare: reference and program. No condition. -/
import Derived.Test.YtcifdadieaccdaaCore4
namespace Go.Proofs.Ytcifdadieaccdaa
open Go.RowKit Go.Sort

def fullC (n : Nat) : List Int := bitsL n (2 ^ n - 1)
theorem full_is (n : Nat) : fullC n = (List.range n).map fun (x : Nat) => (x : Int) := by
  unfold fullC bitsL bitsN
  congr 1
  rw [List.filter_eq_self]
  intro x hx
  rw [Nat.testBit_two_pow_sub_one]
  simpa using hx
theorem room_full {xs : List Int} {n : Nat} (h : xs.length = n) : roomS xs (fullC n) = xs.sum := by
  unfold roomS
  rw [full_is, List.map_map]
  congr 1
  subst h
  apply List.ext_getElem
  · simp
  · intro i hi hi2
    simp [numAt, List.getD, hi2]
theorem full_crowd (F : Fld) : crowdB F (fullC F.di.length) = true := bitsL_crowd F _
def csR (F : Fld) (xs : List Int) : Bool := sharesB F xs && (ovL F xs).isEmpty && decide (excS F xs (fullC F.di.length) = 0)
theorem sum_bd {xs : List Int} (h : ∀ x ∈ xs, -1400 ≤ x ∧ x ≤ 1400) : ∀ k, k ≤ xs.length → -(k * 1400) ≤ (xs.take k).sum ∧ (xs.take k).sum ≤ k * 1400
  | 0, _ => by simp
  | k + 1, hk => by
    have h1 := sum_bd h k (by omega)
    have h2 := h _ (List.getElem_mem (show k < xs.length by omega))
    rw [List.take_succ_eq_append_getElem (show k < xs.length by omega), List.sum_append]
    simp only [List.sum_cons, List.sum_nil]
    omega
set_option maxHeartbeats 400000 in
theorem l3Sum_any (A0 : Option Addr) (L : List Int) (n c0 : Nat) (w : World) (hL : IntsAt w A0 L) (hn : L.length = n) (hb : ∀ k, k ≤ n → -1000000000 ≤ (L.take k).sum ∧ (L.take k).sum ≤ 1000000000) (he : ∀ x ∈ L, -1000000000 ≤ x ∧ x ≤ 1000000000) :
    Calls Try.prog 52 #[.slice A0 n c0] w fun e w' => e = .returned (.int .i64 L.sum) ∧ w = w' := by
  have hm : n ≤ 9223372036854775807 := hn ▸ hL.1
  have Hn := Lib.hid hn; have Hb := Lib.hid hb; have He := Lib.hid he
  clear hn hb he
  go_enter Try.func52, Try.ntmps52
  go_wp2_with fail
  go_loop [3, 4] (fun sv iv => ∃ k : Nat, k ≤ n ∧ iv = .int .i64 k ∧ sv = .int .i64 (L.take k).sum) (fun _ iv => n - (intOf iv).toNat)
  case atStart => exact ⟨0, by omega, rfl, rfl⟩
  case round =>
    obtain ⟨k, hk, rfl, rfl⟩ := hrel
    by_cases hlt : k < n
    · have lx : k < L.length := by rw [Hn.out]; exact hlt
      obtain ⟨ad, rfl, hc⟩ := hL.at_ lx
      obtain ⟨b1, b2⟩ := Hb.out k hk
      obtain ⟨b3, b4⟩ := He.out _ (List.getElem_mem lx)
      have hsu : Hid ((L.take (k + 1)).sum = (L.take k).sum + L[k]) := by show _ = _; rw [List.take_succ_eq_append_getElem lx, List.sum_append]; simp
      generalize (L.take k).sum = q at *
      go_wp2_with fail
      go_round
      case rel => exact ⟨k + 1, by omega, by go_num, by rw [hsu.out]⟩
      case measure => simp [intOf]; omega
    · have htk := Lib.hid (show (L.take k).sum = L.sum from by rw [List.take_of_length_le (by rw [Hn.out]; omega)])
      go_wp2_with fail
      go_ret
      exact ⟨ret_int htk.out, rfl⟩
theorem cs_no {F : Fld} {xs : List Int} (h : sharesB F xs = false) : Ending.returned (.tuple #[.bool false, .bool false]) = .returned (.tuple #[.bool (csR F xs), .bool (sharesB F xs)]) := by rw [csR, h]; rfl
theorem cs_yes {F : Fld} {xs : List Int} {q : Bool} (h : sharesB F xs = true) (e : q = csR F xs) : Ending.returned (.tuple #[.bool q, .bool true]) = .returned (.tuple #[.bool (csR F xs), .bool (sharesB F xs)]) := by rw [h, e]
set_option maxRecDepth 100000 in
set_option maxHeartbeats 1000000 in
theorem implCore_any (f : Value) (F : Fld) (A1 : Option Addr) (xs : List Int) (n1 c1 : Nat) (w : World) (hf : FldAt w f F) (h1 : IntsAt w A1 xs) (hn1 : xs.length = n1) :
    Calls Try.prog 26 #[f, .slice A1 n1 c1] w fun e w' => e = .returned (.tuple #[.bool (csR F xs), .bool (sharesB F xs)]) ∧ Kp w w' := by
  obtain ⟨A, c, B, d, rfl, hA, hB⟩ := hf
  have hk0 : Kp w (w.alloc (.cells #[.slice A F.op.length c, .slice B F.di.length d] 29)) := (Kp.refl w).alloc _
  obtain ⟨d0, d1⟩ := box2 w (.slice A F.op.length c) (.slice B F.di.length d) 29
  have hFA := FldAt.kp (show FldAt w (.agg #[.slice A F.op.length c, .slice B F.di.length d]) F from ⟨A, c, B, d, rfl, hA, hB⟩) hk0
  replace h1 := h1.kp hk0
  have Hn1 := Lib.hid hn1
  clear hA hB hn1
  go_enter Try.func26, Try.ntmps26
  go_wp2_with fail
  have hsz : Hid ((w.alloc (.cells #[.slice A F.op.length c, .slice B F.di.length d] 29)).heap.size = w.heap.size + 1) := by show _ = _; simp
  generalize w.alloc (.cells #[.slice A F.op.length c, .slice B F.di.length d] 29) = wb at *
  have hkb : Kp wb wb := Kp.refl _
  have hkw := hk0
  have CC := Lib.hid (isShared_any _ F A1 xs n1 c1 _ (hFA.kp hkb) (h1.kp hkb) Hn1.out)
  with_reducible refine Calls.mono CC.out ?_
  rintro e w1 ⟨rfl, hk1⟩
  clear CC
  replace hkb := hkb.trans hk1
  cases hg_ : (sharesB F xs)
  · have Hs := Lib.hid hg_; clear hg_
    have q_d0 := hkb.get d0
    have q_d1 := hkb.get d1
    go_wp2_with fail
    go_ret2
    exact ⟨cs_no Hs.out, hkw.trans hkb⟩
  have Hs := Lib.hid hg_; clear hg_
  have HP := Lib.hid (sharesB_iff.1 Hs.out)
  have hd7 := (goodF_iff.1 HP.out.1).2.2.1
  obtain ⟨P, HPw, hpw, hP⟩ := pow_wrap (F.di.length : Int) (by omega) (by omega)
  rw [Int.toNat_natCast] at hpw
  have HP' : Hid (P = 2 ^ F.di.length) := by show P = _; simpa using HPw.out
  have hpu := u64_one_shl (F.di.length : Int) (by omega) (by omega)
  rw [Int.toNat_natCast, ← HP'.out] at hpu
  have hP1 : 1 ≤ P := by rw [HP'.out]; exact Nat.one_le_two_pow
  have hwp : IntKind.u64.wrap ((P : Int) - 1) = ((P - 1 : Nat) : Int) := by rw [IntKind.wrap_u64]; omega
  have Hb : Hid (P - 1 < 2 ^ F.di.length) := by show _ < _; rw [← HP'.out]; omega
  have Hfu : Hid (bitsL F.di.length (P - 1) = fullC F.di.length) := by show _ = _; rw [HP'.out]; rfl
  obtain ⟨Q, hQ⟩ : ∃ Q, Q = P - 1 := ⟨_, rfl⟩
  rw [← hQ] at hwp Hb Hfu
  clear hQ
  have q_d0 := hkb.get d0
  have q_d1 := hkb.get d1
  go_wp2_with fail
  with_reducible refine Calls.mono (list_any Q F.di.length _ Hb.out (by omega)) ?_
  rintro e w2 ⟨v, rfl, hov, hk2⟩
  clear q_d0 q_d1
  replace hkb := hkb.trans hk2
  rw [Hfu.out] at hov
  obtain ⟨Av, cv, hve, hiv⟩ := hov.ints (by have := crowd_len (full_crowd F); omega)
  subst hve
  have q_d0 := hkb.get d0
  have q_d1 := hkb.get d1
  go_wp2_with fail
  have CC := Lib.hid (implCb_any _ F A1 xs n1 c1 _ (hFA.kp hkb) (h1.kp hkb) Hn1.out)
  with_reducible refine Calls.mono CC.out ?_
  rintro e w3 ⟨u, rfl, hou, hk3⟩
  clear CC q_d0 q_d1
  replace hkb := hkb.trans hk3
  replace hiv := hiv.kp hk3
  cases hko : coOk F xs
  · have He : Hid ((ovL F xs).isEmpty = true) := by
      show _ = _
      have h : coOk F xs = !(ovL F xs).isEmpty := by simp [coOk, Hs.out]
      rw [hko] at h
      cases hh : (ovL F xs).isEmpty with
      | true => rfl
      | false => rw [hh] at h; cases h
    clear hko
    have q_d0 := hkb.get d0
    have q_d1 := hkb.get d1
    go_wp2_with fail
    have CC := Lib.hid (excess_any _ F A1 xs n1 c1 Av (fullC F.di.length) _ cv _ (hFA.kp hkb) (h1.kp hkb) Hn1.out hiv rfl Hs.out (full_crowd F))
    with_reducible refine Calls.mono CC.out ?_
    rintro e w4 ⟨rfl, hk4⟩
    clear CC q_d0 q_d1
    replace hkb := hkb.trans hk4
    replace hiv := hiv.kp hk4
    have q_d0 := hkb.get d0
    have q_d1 := hkb.get d1
    go_wp2_with fail
    go_ret2
    exact ⟨cs_yes Hs.out (by simp only [csR, Hs.out, He.out, Bool.true_and]; first | rfl | (rw [Bool.eq_iff_iff]; simp)), hkw.trans hkb⟩
  · have He : Hid (csR F xs = false) := by
      show _ = _
      have h : coOk F xs = !(ovL F xs).isEmpty := by simp [coOk, Hs.out]
      rw [hko] at h
      have h2 : (ovL F xs).isEmpty = false := by
        cases hh : (ovL F xs).isEmpty with
        | true => rw [hh] at h; cases h
        | false => rfl
      simp only [csR, h2, Bool.and_false, Bool.false_and]
    clear hko
    have q_d0 := hkb.get d0
    have q_d1 := hkb.get d1
    go_wp2_with fail
    go_ret2
    exact ⟨cs_yes Hs.out He.out.symm, hkw.trans hkb⟩
set_option maxRecDepth 100000 in
set_option maxHeartbeats 1000000 in
theorem specCore_any (f : Value) (F : Fld) (A1 : Option Addr) (xs : List Int) (n1 c1 : Nat) (w : World) (hf : FldAt w f F) (h1 : IntsAt w A1 xs) (hn1 : xs.length = n1) :
    Calls Try.prog 25 #[f, .slice A1 n1 c1] w fun e w' => e = .returned (.tuple #[.bool (csR F xs), .bool (sharesB F xs)]) ∧ Kp w w' := by
  obtain ⟨A, c, B, d, rfl, hA, hB⟩ := hf
  have hk0 : Kp w (w.alloc (.cells #[.slice A F.op.length c, .slice B F.di.length d] 29)) := (Kp.refl w).alloc _
  obtain ⟨d0, d1⟩ := box2 w (.slice A F.op.length c) (.slice B F.di.length d) 29
  have hFA := FldAt.kp (show FldAt w (.agg #[.slice A F.op.length c, .slice B F.di.length d]) F from ⟨A, c, B, d, rfl, hA, hB⟩) hk0
  replace h1 := h1.kp hk0
  have Hn1 := Lib.hid hn1
  clear hA hB hn1
  go_enter Try.func25, Try.ntmps25
  go_wp2_with fail
  have hsz : Hid ((w.alloc (.cells #[.slice A F.op.length c, .slice B F.di.length d] 29)).heap.size = w.heap.size + 1) := by show _ = _; simp
  generalize w.alloc (.cells #[.slice A F.op.length c, .slice B F.di.length d] 29) = wb at *
  have hkb : Kp wb wb := Kp.refl _
  have hkw := hk0
  have CC := Lib.hid (l9Shares_any _ F A1 xs n1 c1 _ (hFA.kp hkb) (h1.kp hkb) Hn1.out)
  with_reducible refine Calls.mono CC.out ?_
  rintro e w1 ⟨rfl, hk1⟩
  clear CC
  replace hkb := hkb.trans hk1
  cases hg_ : (sharesB F xs)
  · have Hs := Lib.hid hg_; clear hg_
    have q_d0 := hkb.get d0
    have q_d1 := hkb.get d1
    go_wp2_with fail
    go_ret2
    exact ⟨cs_no Hs.out, hkw.trans hkb⟩
  have Hs := Lib.hid hg_; clear hg_
  have HP := Lib.hid (sharesB_iff.1 Hs.out)
  have hd7 := (goodF_iff.1 HP.out.1).2.2.1
  have hP128 : 2 ^ F.di.length ≤ 128 := Nat.pow_le_pow_right (by omega) hd7
  obtain ⟨P, hPe⟩ : ∃ P, P = 2 ^ F.di.length := ⟨_, rfl⟩
  rw [← hPe] at hP128
  replace hPe := Lib.hid hPe
  have hP1 : 1 ≤ P := by rw [hPe.out]; exact Nat.one_le_two_pow
  have q_d0 := hkb.get d0
  have q_d1 := hkb.get d1
  go_wp2_with fail
  have CC := Lib.hid (l9Table_any _ F _ (hFA.kp hkb) HP.out.1)
  with_reducible refine Calls.mono CC.out ?_
  rintro e w2 ⟨v, rfl, hot, hk2⟩
  clear CC q_d0 q_d1
  replace hkb := hkb.trans hk2
  rw [← hPe.out] at hot
  obtain ⟨At, ct, hve, hit⟩ := hot.ints (by rw [mapTo_len]; omega)
  subst hve
  have htl := Lib.hid (mapTo_len (ctF F) P)
  obtain ⟨td, rfl, htd⟩ := hit.at_ (k := 0) (by rw [htl.out]; omega)
  have x1 := hit.some_ (k := P - 1) (by rw [htl.out]; omega)
  have e1 : (mapTo (ctF F) P)[P - 1]'(by rw [htl.out]; omega) = costF F (fullC F.di.length) := by simp [mapTo, ctF, fullC, hPe.out]
  rw [e1] at x1
  rw [htl.out]
  obtain ⟨Q, hQ⟩ : ∃ Q, Q = P - 1 := ⟨_, rfl⟩
  rw [← hQ] at x1
  have hq1 : (P : Int) - 1 = (Q : Int) := by omega
  have hq2 : Q < P := by omega
  have hq3 : (Q : Int) < (P : Int) := by omega
  have hq4 : Q ≤ 127 := by omega
  have hq5 : (0 : Int) ≤ (Q : Int) := by omega
  have hq6 : IntKind.i64.wrap (Q : Int) = (Q : Int) := by rw [IntKind.wrap_i64] <;> omega
  have hex : Hid (excS F xs (fullC F.di.length) = xs.sum - costF F (fullC F.di.length)) := by show _ = _; unfold excS; rw [room_full HP.out.2.1]
  have FLl := hFA.kp hkb
  have h1l := h1.kp hkb
  have g0 := hkb.get d0
  have g1 := hkb.get d1
  have hkl := hkw.trans hkb
  have hsb := Lib.hid (sum_bd HP.out.2.2)
  have hn7 : n1 ≤ 7 := by have := HP.out.2.1; have := Hn1.out; omega
  obtain ⟨wl, rfl⟩ : ∃ wl : World, wl = w2 := ⟨_, rfl⟩
  have C1 := Lib.hid (fun (wx : World) (hx : Kp wl wx) => l3Sum_any A1 xs n1 c1 wx (h1l.kp hx) Hn1.out (fun k hk' => by have := hsb.out k (by rw [Hn1.out]; exact hk'); omega) (fun x hx2 => by have := HP.out.2.2 x hx2; omega))
  have C2 := Lib.hid (fun (wx : World) (hx : Kp wl wx) => l9Over_any _ F A1 xs n1 c1 wx (FLl.kp hx) (h1l.kp hx) Hn1.out Hs.out)
  clear hkb e1 hot htd hit hQ htl hPe hP1 d0 d1
  generalize costF F (fullC F.di.length) = cs at *
  generalize xs.sum = sm at *
  have hkz : Kp wl wl := Kp.refl _
  by_cases heq : sm = cs
  · have hdec : (sm == cs) = true := by simp [heq]
    have Hr : Hid (csR F xs = (ovL F xs).isEmpty) := by show _ = _; simp [csR, Hs.out, hex.out, heq]
    clear heq
    have q_g0 := hkz.get g0
    have q_g1 := hkz.get g1
    have q_x1 := hkz.get x1
    have tok1 : True := trivial
    go_wp2_with fail
    go_region_held3 (fun w' => w'.cell? ⟨w.heap.size, 0, none⟩ = some (.slice A F.op.length c) ∧ w'.cell? ⟨w.heap.size, 1, none⟩ = some (.slice B F.di.length d) ∧ w'.cell? (td.add Q) = some (.int .i64 cs) ∧ Kp wl w')
      (first | (refine keepc3 g0 g1 x1 ?_; exact (by repeat (first | with_reducible assumption | with_reducible exact Kp.refl _ | with_reducible refine Kp.drew ?_ | with_reducible refine Kp.alloc ?_ _ | with_reducible refine Kp.drewN ?_ _))) | fail)
      (first
        | (have _t := tok1; go_at_call 52; with_reducible refine Calls.mono (C1.out _ (by repeat (first | with_reducible assumption | with_reducible exact Kp.refl _ | with_reducible refine Kp.drew ?_ | with_reducible refine Kp.alloc ?_ _ | with_reducible refine Kp.drewN ?_ _))) ?_; rintro e wr1 ⟨rfl, hw⟩; obtain rfl := hw; have tok2 : True := trivial; clear tok1 _t)
        | (have _t := tok2; go_at_call 43; with_reducible refine Calls.mono (C2.out _ (by repeat (first | with_reducible assumption | with_reducible exact Kp.refl _ | with_reducible refine Kp.drew ?_ | with_reducible refine Kp.alloc ?_ _ | with_reducible refine Kp.drewN ?_ _))) ?_; rintro e wr2 ⟨As, cs2, rfl, ho, hka⟩; have hr2 : Kp wl wr2 := Kp.trans (by repeat (first | with_reducible assumption | with_reducible exact Kp.refl _ | with_reducible refine Kp.drew ?_ | with_reducible refine Kp.alloc ?_ _ | with_reducible refine Kp.drewN ?_ _)) hka; have tok3 : True := trivial; clear tok2 _t)
        | fail)
    all_goals
      go_wp2_with fail
      go_ret2
      refine ⟨cs_yes Hs.out ?_, hkl.trans hr2⟩
      rw [Hr.out]
      cases hh : ovL F xs with
      | nil => rfl
      | cons a t => simp <;> omega
  · have hdec : (sm == cs) = false := by simp [heq]
    have Hr : Hid (csR F xs = false) := by
      show _ = _
      have : ¬ excS F xs (fullC F.di.length) = 0 := by rw [hex.out]; omega
      simp [csR, this]
    have Cq := Lib.hid (fun n => Calls.same_quiet (C1.out (wl.drewN n) ((Kp.refl wl).drewN n)))
    clear C1 C2 hkz heq
    go_wp2_with fail
    go_quiet (exact Cq.out _)
    go_wp2_with fail
    go_ret2
    exact ⟨cs_yes Hs.out (by rw [Hr.out]), hkl.trans ((Kp.refl _).drewN nq)⟩
end Go.Proofs.Ytcifdadieaccdaa

/- The comparisons of two sets, the reference's and the program's; Contracts of the functions on sets as binary numbers, and of searches in lists; All sets of some sites in their order, as the program tells them; All sets of some sites in their order, as the reference tells them; The first set of which something is so, as a loop over all codes finds it. No condition. -/
import Derived.Test.YtffpdebjjcbenaaGreatQAc
import Derived.Test.YtffpdebjjcbenaaGreatQAa
import Derived.Deep.RegionHeld3
namespace Go.Proofs.YtffpdebjjcbenaaGreat
open Go.RowKit Go.Sort

def cmpI (x y : Int) : Int := if x < y then -1 else if y < x then 1 else 0
def orL : List Int → Int
  | [] => 0
  | x :: xs => if x = 0 then orL xs else x
theorem orL_drop {xs : List Int} {k : Nat} (hk : k < xs.length) (h : xs[k] = 0) : orL (xs.drop k) = orL (xs.drop (k + 1)) := by
  rw [List.drop_eq_getElem_cons hk, orL, if_pos h]
theorem orL_at {xs : List Int} {k : Nat} (hk : k < xs.length) (h : xs[k] ≠ 0) : orL (xs.drop k) = xs[k] := by
  rw [List.drop_eq_getElem_cons hk, orL, if_neg h]
theorem isNaN_any (x : Int) (w : World) : Calls Tryz.prog 105 #[.int .i64 x] w fun e w' => e = .returned (.bool false) ∧ w = w' := by
  go_enter Tryz.func105, Tryz.ntmps105
  have h : (x != x) = false := by simp
  go_wp2_with fail
  go_ret
  exact ⟨rfl, rfl⟩
theorem compareI_any (x y : Int) (w : World) : Calls Tryz.prog 83 #[.int .i64 x, .int .i64 y] w fun e w' => e = .returned (.int .i64 (cmpI x y)) ∧ w = w' := by
  go_enter Tryz.func83, Tryz.ntmps83
  go_wp2_with fail
  have CC := Lib.hid (isNaN_any x w)
  with_reducible refine Calls.mono CC.out ?_
  rintro e w1 ⟨rfl, hw⟩
  obtain rfl := hw
  clear CC
  go_wp2_with fail
  have CC := Lib.hid (isNaN_any y w)
  with_reducible refine Calls.mono CC.out ?_
  rintro e w2 ⟨rfl, hw⟩
  obtain rfl := hw
  clear CC
  by_cases h1 : x < y
  · have e : Hid (cmpI x y = -1) := by show cmpI x y = _; simp [cmpI, h1]
    go_wp2_with fail
    go_ret
    exact ⟨ret_int e.out.symm, rfl⟩
  · by_cases h2 : y < x
    · have e : Hid (cmpI x y = 1) := by show cmpI x y = _; simp [cmpI, h1, h2]
      go_wp2_with fail
      go_ret
      exact ⟨ret_int e.out.symm, rfl⟩
    · have e : Hid (cmpI x y = 0) := by show cmpI x y = _; simp [cmpI, h1, h2]
      go_wp2_with fail
      go_ret
      exact ⟨ret_int e.out.symm, rfl⟩
theorem or_any (A0 : Option Addr) (xs : List Int) (n c0 : Nat) (w : World) (hS : IntsAt w A0 xs) (hn : xs.length = n) :
    Calls Tryz.prog 82 #[.slice A0 n c0] w fun e w' => e = .returned (.int .i64 (orL xs)) ∧ w = w' := by
  have hm : n ≤ 9223372036854775807 := hn ▸ hS.1
  have Hn := Lib.hid hn; clear hn
  go_enter Tryz.func82, Tryz.ntmps82
  go_wp2_with fail
  go_loop [8] (fun iv => ∃ k : Nat, k ≤ n ∧ iv = .int .i64 k ∧ Hid (orL (xs.drop k) = orL xs)) (fun iv => n - (intOf iv).toNat)
  case atStart => exact ⟨0, by omega, rfl, rfl⟩
  case round =>
    obtain ⟨k, hk, rfl, Hp⟩ := hrel
    by_cases hlt : k < n
    · have lx : k < xs.length := by rw [Hn.out]; exact hlt
      obtain ⟨ad, rfl, hc⟩ := hS.at_ lx
      cases ht : (xs[k] != 0)
      · have e0 : xs[k] = 0 := by simpa using ht
        have Hy := Lib.hid ((orL_drop lx e0).symm.trans Hp.out)
        clear e0
        go_wp2_with fail
        go_round
        case rel => exact ⟨k + 1, by omega, by go_num, Hy⟩
        case measure => simp [intOf]; omega
      · have e0 : xs[k] ≠ 0 := by simpa using ht
        have Hy := Lib.hid ((orL_at lx e0).symm.trans Hp.out)
        clear e0
        go_wp2_with fail
        go_ret
        exact ⟨ret_int Hy.out, rfl⟩
    · have e0 : xs.drop k = [] := List.drop_eq_nil_of_le (by rw [Hn.out]; omega)
      have Hy : Hid (orL xs = 0) := by show orL xs = 0; rw [← Hp.out, e0]; rfl
      clear e0
      go_wp2_with fail
      go_ret
      exact ⟨ret_int Hy.out.symm, rfl⟩
theorem lexC_cons (x y : Int) (xs ys : List Int) : lexC (x :: xs) (y :: ys) = if x < y then -1 else if y < x then 1 else lexC xs ys := rfl
theorem lexC_step {xs ys : List Int} {k : Nat} (hx : k < xs.length) (hy : k < ys.length) : lexC (xs.drop k) (ys.drop k) = if cmpI xs[k] ys[k] = 0 then lexC (xs.drop (k + 1)) (ys.drop (k + 1)) else cmpI xs[k] ys[k] := by
  rw [List.drop_eq_getElem_cons hx, List.drop_eq_getElem_cons hy, lexC_cons]
  unfold cmpI
  by_cases h1 : xs[k] < ys[k]
  · simp [h1]
  · by_cases h2 : ys[k] < xs[k]
    · simp [h1, h2]
    · simp [h1, h2]
theorem slicesCompare_any (A1 A2 : Option Addr) (xs ys : List Int) (n m c d : Nat) (w : World) (h1 : IntsAt w A1 xs) (hn : xs.length = n) (h2 : IntsAt w A2 ys) (hm : ys.length = m) :
    Calls Tryz.prog 84 #[.slice A1 n c, .slice A2 m d] w fun e w' => e = .returned (.int .i64 (lexC xs ys)) ∧ w = w' := by
  have hn9 : n ≤ 9223372036854775807 := hn ▸ h1.1
  have hm9 : m ≤ 9223372036854775807 := hm ▸ h2.1
  have Hn := Lib.hid hn; clear hn
  have Hm := Lib.hid hm; clear hm
  go_enter Tryz.func84, Tryz.ntmps84
  go_wp2_with fail
  go_loop [11] (fun iv => ∃ k : Nat, k ≤ n ∧ k ≤ m ∧ iv = .int .i64 k ∧ Hid (lexC (xs.drop k) (ys.drop k) = lexC xs ys)) (fun iv => n - (intOf iv).toNat)
  case atStart => exact ⟨0, by omega, by omega, rfl, rfl⟩
  case round =>
    obtain ⟨k, hk, hkm, rfl, Hp⟩ := hrel
    by_cases hlt : k < n
    · have lx : k < xs.length := by rw [Hn.out]; exact hlt
      obtain ⟨ad, rfl, hc⟩ := h1.at_ lx
      by_cases hlt2 : k < m
      · have ly : k < ys.length := by rw [Hm.out]; exact hlt2
        obtain ⟨bd, rfl, hd⟩ := h2.at_ ly
        have hst := Lib.hid (lexC_step lx ly)
        go_wp2_with fail
        have CC := Lib.hid (compareI_any xs[k] ys[k] w)
        with_reducible refine Calls.mono CC.out ?_
        rintro e w1 ⟨rfl, hw⟩
        obtain rfl := hw
        clear CC
        cases ht : (cmpI xs[k] ys[k] != 0)
        · have e0 : cmpI xs[k] ys[k] = 0 := by simpa using ht
          have Hy : Hid (lexC (xs.drop (k + 1)) (ys.drop (k + 1)) = lexC xs ys) := by show _ = _; rw [← Hp.out, hst.out, if_pos e0]
          clear e0
          go_wp2_with fail
          go_round
          case rel => exact ⟨k + 1, by omega, by omega, by go_num, Hy⟩
          case measure => simp [intOf]; omega
        · have e0 : ¬ cmpI xs[k] ys[k] = 0 := by simpa using ht
          have Hy : Hid (cmpI xs[k] ys[k] = lexC xs ys) := by show _ = _; rw [← Hp.out, hst.out, if_neg e0]
          clear e0
          go_wp2_with fail
          go_ret
          exact ⟨ret_int Hy.out, rfl⟩
      · have e0 : ys.drop k = [] := List.drop_eq_nil_of_le (by rw [Hm.out]; omega)
        have Hy : Hid (lexC xs ys = 1) := by show _ = _; rw [← Hp.out, e0, List.drop_eq_getElem_cons lx]; rfl
        clear e0
        go_wp2_with fail
        go_ret
        exact ⟨ret_int Hy.out.symm, rfl⟩
    · have e0 : xs.drop k = [] := List.drop_eq_nil_of_le (by rw [Hn.out]; omega)
      by_cases hlt2 : k < m
      · have ly : k < ys.length := by rw [Hm.out]; exact hlt2
        have Hy : Hid (lexC xs ys = -1) := by show _ = _; rw [← Hp.out, e0, List.drop_eq_getElem_cons ly]; rfl
        have hnm : n < m := by omega
        clear e0
        go_wp2_with fail
        go_ret
        exact ⟨ret_int Hy.out.symm, rfl⟩
      · have e1 : ys.drop k = [] := List.drop_eq_nil_of_le (by rw [Hm.out]; omega)
        have Hy : Hid (lexC xs ys = 0) := by show _ = _; rw [← Hp.out, e0, e1]; rfl
        have hnm : ¬ n < m := by omega
        clear e0 e1
        go_wp2_with fail
        go_ret
        exact ⟨ret_int Hy.out.symm, rfl⟩
theorem cmpS_or (a b : List Int) : orL [cmpI a.length b.length, lexC a b] = cmpS a b := by
  unfold cmpS cmpI
  by_cases h1 : a.length < b.length
  · simp [orL, h1]
  · by_cases h2 : b.length < a.length
    · simp [orL, h1, h2]
    · simp only [orL, h1, h2, Int.ofNat_lt, if_false, if_true]
      by_cases h3 : lexC a b = 0 <;> simp [h3]
theorem two_ints (w : World) (x y : Int) : IntsAt (w.alloc (.cells #[.int .i64 x, .int .i64 y] 3)) (some ⟨w.heap.size, 0, none⟩) [x, y] :=
  ⟨by simp, fun k hk => by
    have hk2 : k < 2 := by simpa using hk
    refine ⟨_, rfl, ?_⟩
    rw [add0, World.cell?_alloc_at _ _ _ _ rfl]
    match k, hk2 with
    | 0, _ => rfl
    | 1, _ => rfl⟩
theorem compareSets_any (A1 A2 : Option Addr) (xs ys : List Int) (n m c d : Nat) (w : World) (h1 : IntsAt w A1 xs) (hn : xs.length = n) (h2 : IntsAt w A2 ys) (hm : ys.length = m) :
    Calls Tryz.prog 57 #[.slice A1 n c, .slice A2 m d] w fun e w' => e = .returned (.int .i64 (cmpS xs ys)) ∧ Gw w w' := by
  have hn9 : n ≤ 9223372036854775807 := hn ▸ h1.1
  have hm9 : m ≤ 9223372036854775807 := hm ▸ h2.1
  have Hor : Hid (orL [cmpI n m, lexC xs ys] = cmpS xs ys) := by show _ = _; rw [← hn, ← hm]; exact cmpS_or xs ys
  have Hn := Lib.hid hn; clear hn
  have Hm := Lib.hid hm; clear hm
  go_enter Tryz.func57, Tryz.ntmps57
  go_wp2_with fail
  have CC := Lib.hid (compareI_any (n : Int) (m : Int) w)
  with_reducible refine Calls.mono CC.out ?_
  rintro e w1 ⟨rfl, hw⟩
  obtain rfl := hw
  clear CC
  go_wp2_with fail
  have CC := Lib.hid (slicesCompare_any A1 A2 xs ys n m c d w h1 Hn.out h2 Hm.out)
  with_reducible refine Calls.mono CC.out ?_
  rintro e w2 ⟨rfl, hw⟩
  obtain rfl := hw
  clear CC
  have T2 := Lib.hid (two_ints w (cmpI n m) (lexC xs ys))
  generalize cmpI n m = p at *
  generalize lexC xs ys = q at *
  go_wp2_with fail
  have CC := Lib.hid (or_any _ [p, q] 2 2 _ T2.out rfl)
  with_reducible refine Calls.mono CC.out ?_
  rintro e w3 ⟨rfl, hw⟩
  obtain rfl := hw
  clear CC
  go_wp2_with fail
  go_ret
  exact ⟨ret_int Hor.out, (Gw.refl w).alloc _⟩
theorem bef_len {a b : List Int} (h : a.length ≠ b.length) : befB a b = decide (a.length < b.length) := by
  unfold befB cmpS
  by_cases h1 : a.length < b.length
  · simp [h1]
  · simp [h1, show b.length < a.length by omega]
theorem bef_same {a b : List Int} (h : a.length = b.length) : befB a b = decide (lexC a b < 0) := by
  unfold befB cmpS
  simp [h]
theorem lexC_lt {xs ys : List Int} {k : Nat} (hx : k < xs.length) (hy : k < ys.length) (h : xs[k] ≠ ys[k]) : decide (lexC (xs.drop k) (ys.drop k) < 0) = decide (xs[k] < ys[k]) := by
  rw [lexC_step hx hy]
  unfold cmpI
  by_cases h1 : xs[k] < ys[k]
  · simp [h1]
  · simp [h1, show ys[k] < xs[k] by omega]
theorem lexC_same {xs ys : List Int} {k : Nat} (hx : k < xs.length) (hy : k < ys.length) (h : xs[k] = ys[k]) : lexC (xs.drop k) (ys.drop k) = lexC (xs.drop (k + 1)) (ys.drop (k + 1)) := by
  rw [lexC_step hx hy]
  simp [cmpI, h]
set_option maxHeartbeats 400000 in
theorem l2Before_any (A1 A2 : Option Addr) (xs ys : List Int) (n m c d : Nat) (w : World) (h1 : IntsAt w A1 xs) (hn : xs.length = n) (h2 : IntsAt w A2 ys) (hm : ys.length = m) :
    Calls Tryz.prog 55 #[.slice A1 n c, .slice A2 m d] w fun e w' => e = .returned (.bool (befB xs ys)) ∧ Dr w w' := by
  have hn9 : n ≤ 9223372036854775807 := hn ▸ h1.1
  have hm9 : m ≤ 9223372036854775807 := hm ▸ h2.1
  by_cases hnm : n = m
  · subst hnm
    have hne : ((n : Int) != (n : Int)) = false := by simp
    have Hb := Lib.hid (bef_same (a := xs) (b := ys) (hn.trans hm.symm))
    have Hn := Lib.hid hn; clear hn
    have Hm := Lib.hid hm; clear hm
    go_enter Tryz.func55, Tryz.ntmps55
    go_wp2_with fail
    go_loopw [5] (fun iv wr => ∃ k : Nat, k ≤ n ∧ iv = .int .i64 k ∧ Hid (lexC (xs.drop k) (ys.drop k) = lexC xs ys) ∧ Dr w wr) (fun iv _ => n - (intOf iv).toNat)
    case atStart => exact ⟨0, by omega, rfl, rfl, Dr.refl w⟩
    case round =>
      obtain ⟨k, hk, rfl, Hp, hdr⟩ := hrel
      by_cases hlt : k < n
      · have lx : k < xs.length := by rw [Hn.out]; exact hlt
        have ly : k < ys.length := by rw [Hm.out]; exact hlt
        obtain ⟨ad, rfl, hc⟩ := (h1.kp hdr.kp).at_ lx
        obtain ⟨bd, rfl, hd⟩ := (h2.kp hdr.kp).at_ ly
        cases ht : (xs[k] != ys[k])
        · have e0 : xs[k] = ys[k] := by simpa using ht
          have Hy := Lib.hid ((lexC_same lx ly e0).symm.trans Hp.out)
          clear e0
          go_wp2_with fail
          go_quiet (fail)
          go_wp2_with fail
          go_roundw
          case rel => exact ⟨k + 1, by omega, by go_num, Hy, hdr.drewN nq⟩
          case measure => simp [intOf]; omega
        · have e0 : xs[k] ≠ ys[k] := by simpa using ht
          have Hy : Hid (decide (xs[k] < ys[k]) = befB xs ys) := by show _ = _; rw [Hb.out, ← Hp.out]; exact (lexC_lt lx ly e0).symm
          clear e0
          go_wp2_with fail
          go_quiet (fail)
          go_wp2_with fail
          go_quiet (fail)
          go_wp2_with fail
          go_ret
          exact ⟨ret_bool Hy.out, (hdr.drewN _).drewN _⟩
      · have e0 : xs.drop k = [] := List.drop_eq_nil_of_le (by rw [Hn.out]; omega)
        have e1 : ys.drop k = [] := List.drop_eq_nil_of_le (by rw [Hm.out]; omega)
        have Hy : Hid (befB xs ys = false) := by show _ = _; rw [Hb.out, ← Hp.out, e0, e1]; rfl
        clear e0 e1
        go_wp2_with fail
        go_ret
        exact ⟨ret_bool Hy.out.symm, hdr⟩
  · have hne : ((n : Int) != (m : Int)) = true := by simp; omega
    have Hb : Hid (befB xs ys = decide (n < m)) := by show _ = _; rw [← hn, ← hm]; exact bef_len (by omega)
    have hd : decide (n < m) = decide ((n : Int) < (m : Int)) := by simp
    go_enter Tryz.func55, Tryz.ntmps55
    go_wp2_with fail
    go_ret
    exact ⟨ret_bool (by rw [Hb.out, hd]), Dr.refl w⟩
end Go.Proofs.YtffpdebjjcbenaaGreat

namespace Go.Proofs.YtffpdebjjcbenaaGreat
open Go.RowKit Go.Sort

theorem ofInt_u64 (a : Nat) (ha : a < 18446744073709551616) : (BitVec.ofInt 64 (a : Int)).toNat = a := by
  rw [BitVec.ofInt_natCast, BitVec.toNat_ofNat]; exact Nat.mod_eq_of_lt ha
theorem u64_and_nat (a b : Nat) (ha : a < 18446744073709551616) (hb : b < 18446744073709551616) : bits .and .u64 (a : Int) (b : Int) = ((a &&& b : Nat) : Int) := by
  have hx : a &&& b < 2 ^ 64 := Nat.and_lt_two_pow _ (by omega)
  show IntKind.u64.wrap ((BitVec.ofInt 64 (a : Int) &&& BitVec.ofInt 64 (b : Int)).toNat : Int) = _
  rw [BitVec.toNat_and, ofInt_u64 a ha, ofInt_u64 b hb, IntKind.wrap_u64]
  omega
theorem u64_or_nat (a b : Nat) (ha : a < 18446744073709551616) (hb : b < 18446744073709551616) : bits .or .u64 (a : Int) (b : Int) = ((a ||| b : Nat) : Int) := by
  have hx : a ||| b < 2 ^ 64 := Nat.or_lt_two_pow (by omega) (by omega)
  show IntKind.u64.wrap ((BitVec.ofInt 64 (a : Int) ||| BitVec.ofInt 64 (b : Int)).toNat : Int) = _
  rw [BitVec.toNat_or, ofInt_u64 a ha, ofInt_u64 b hb, IntKind.wrap_u64]
  omega
theorem div_pow_nat (b x : Nat) : ((b : Int) / 2 ^ x) = ((b / 2 ^ x : Nat) : Int) := by
  rw [Int.natCast_ediv]; simp
theorem bit_one (b x : Nat) : (((b / 2 ^ x &&& 1 : Nat) : Int) == 1) = b.testBit x := by
  rw [Nat.testBit_eq_decide_div_mod_eq, Nat.and_one_is_mod]
  generalize b / 2 ^ x % 2 = r
  rw [Bool.eq_iff_iff, beq_iff_eq, decide_eq_true_eq]
  constructor <;> intro h <;> omega
theorem u64_has (b x : Nat) (hb : b < 18446744073709551616) : (bits BinOp.and IntKind.u64 ((b : Int) / 2 ^ x) 1 == 1) = b.testBit x := by
  have h : b / 2 ^ x < 18446744073709551616 := Nat.lt_of_le_of_lt (Nat.div_le_self _ _) hb
  have := u64_and_nat (b / 2 ^ x) 1 h (by omega)
  rw [div_pow_nat, show (1 : Int) = ((1 : Nat) : Int) from rfl, this]
  exact bit_one b x
theorem i64_has (b x : Nat) (hb : b < 9223372036854775808) : (bits BinOp.and IntKind.i64 ((b : Int) / 2 ^ x) 1 == 1) = b.testBit x := by
  have h : b / 2 ^ x < 9223372036854775808 := Nat.lt_of_le_of_lt (Nat.div_le_self _ _) hb
  have := i64_and_nat (b / 2 ^ x) 1 h (by omega)
  rw [div_pow_nat, show (1 : Int) = ((1 : Nat) : Int) from rfl, this]
  exact bit_one b x
theorem u64_one_shl (a : Int) (h0 : 0 ≤ a) (h1 : a < 32) : IntKind.u64.wrap (2 ^ a.toNat) = ((2 ^ a.toNat : Nat) : Int) := by
  have h : 2 ^ a.toNat ≤ 2 ^ 31 := Nat.pow_le_pow_right (by omega) (by omega)
  have h2 : ((2 ^ a.toNat : Nat) : Int) = 2 ^ a.toNat := by simp
  rw [← h2, IntKind.wrap_u64]
  generalize 2 ^ a.toNat = q at h
  omega
theorem bag_next {S : List Int} {k : Nat} (hk : k < S.length) : bagN (S.take (k + 1)) = bagN (S.take k) ||| 2 ^ (S[k]).toNat := by
  rw [List.take_succ_eq_append_getElem hk, bagN, bagTo, List.foldl_append]; rfl

theorem has_any (b x : Nat) (w : World) (hb : b < 18446744073709551616) (hx : x < 64) :
    Calls Tryz.prog 51 #[.int .u64 b, .int .i64 x] w fun e w' => e = .returned (.bool (b.testBit x)) ∧ w = w' := by
  go_enter Tryz.func51, Tryz.ntmps51
  have H := Lib.hid (u64_has b x hb)
  go_wp2_with fail
  go_ret
  exact ⟨ret_bool H.out, rfl⟩

set_option maxRecDepth 100000 in
set_option maxHeartbeats 1000000 in
theorem l2Bits_any (n b : Nat) (w : World) (hn : n ≤ 32) (hb : b < 4294967296) :
    Calls Tryz.prog 32 #[.int .i64 n, .int .i64 b] w fun e w' => ∃ v, e = .returned v ∧ Own w' w.heap.size v (bitsL n b) ∧ Kp w w' := by
  go_enter Tryz.func32, Tryz.ntmps32
  go_wp2_with fail
  go_loopw [5, 6] (fun ov iv wr => ∃ k : Nat, k ≤ n ∧ iv = .int .i64 k ∧ Own wr w.heap.size ov (bitsL k b) ∧ Kp w wr) (fun _ iv _ => n - (intOf iv).toNat)
  case atStart => exact ⟨0, by omega, rfl, own_new0 _ _ (Nat.le_refl _), (Kp.refl _).alloc _⟩
  case round =>
    obtain ⟨k, hk, rfl, ho, hkp⟩ := hrel
    by_cases hlt : k < n
    · have H := Lib.hid (i64_has b k (by omega))
      have hlen := bitsL_len k b
      have hlen2 : (bitsL k b).length < 1048576 := by omega
      cases ht : b.testBit k
      · have Ht := Lib.hid (H.out.trans ht)
        have Hno := Lib.hid (bitsL_no ht)
        have Hb2 := Ht.out
        clear ht H
        go_wp2_with fail
        go_roundw
        case rel => exact ⟨k + 1, by omega, by go_num, by rw [Hno.out]; exact ho, hkp⟩
        case measure => simp [intOf]; omega
      · have Ht := Lib.hid (H.out.trans ht)
        have Hyes := Lib.hid (bitsL_yes ht)
        have Hb2 := Ht.out
        clear ht H
        go_wp2_with (at_builtin; refine wpl_app rfl (.tmp 18) (.tmp 20) rfl w.heap.size _ (bitsL k b) k rfl rfl ho hkp.le hlen2 ?_; intro v' w' ho' ht' _; have hk4 := ho.kp_turn hkp (Nat.le_refl _) ht')
        go_roundw
        case rel => exact ⟨k + 1, by omega, by go_num, by rw [Hyes.out]; exact ho', hk4⟩
        case measure => simp [intOf]; omega
    · obtain rfl : k = n := by omega
      go_wp2_with fail
      go_ret
      exact ⟨_, rfl, ho, hkp⟩

/-- The members of a set, rising. -/
theorem div_pow_pos {b x n : Nat} (h : 0 < b / 2 ^ x) (hb : b < 2 ^ n) : x < n := by
  rcases Nat.lt_or_ge x n with h1 | h1
  · exact h1
  · have h2 : 2 ^ n ≤ 2 ^ x := Nat.pow_le_pow_right (by omega) h1
    rw [Nat.div_eq_of_lt (by omega)] at h; omega
theorem div_pow_zero {b x : Nat} (h : ¬ 0 < b / 2 ^ x) : b < 2 ^ x := by
  rcases Nat.lt_or_ge b (2 ^ x) with h1 | h1
  · exact h1
  · have := Nat.div_pos h1 (Nat.two_pow_pos x); omega

set_option maxRecDepth 100000 in
set_option maxHeartbeats 1000000 in
theorem list_any (b n : Nat) (w : World) (hb : b < 2 ^ n) (hn : n ≤ 32) :
    Calls Tryz.prog 21 #[.int .u64 b] w fun e w' => ∃ v, e = .returned v ∧ Own w' w.heap.size v (bitsL n b) ∧ Kp w w' := by
  have hb32 : b < 4294967296 := Nat.lt_of_lt_of_le hb (Nat.le_trans (Nat.pow_le_pow_right (by omega) hn) (by decide))
  have Hb := Lib.hid hb
  clear hb
  go_enter Tryz.func21, Tryz.ntmps21
  go_wp2_with fail
  go_loopw [3, 4] (fun ov iv wr => ∃ k : Nat, k ≤ n ∧ iv = .int .i64 k ∧ Own wr w.heap.size ov (bitsL k b) ∧ Kp w wr) (fun _ iv _ => n + 1 - (intOf iv).toNat)
  case atStart => exact ⟨0, by omega, rfl, own_new0 _ _ (Nat.le_refl _), (Kp.refl _).alloc _⟩
  case round =>
    obtain ⟨k, hk, rfl, ho, hkp⟩ := hrel
    have hq := Lib.hid (div_pow_nat b k)
    by_cases hlt : 0 < b / 2 ^ k
    · have hkn := div_pow_pos hlt Hb.out
      have t0 : (0 : Int) < (b : Int) / 2 ^ k := by rw [hq.out]; omega
      have t1 : decide ((0 : Int) < (b : Int) / 2 ^ k) = true := by simpa using t0
      have hlen := bitsL_len k b
      have hlen2 : (bitsL k b).length < 1048576 := by omega
      clear hlt
      go_wp2_with fail
      have CC := Lib.hid (has_any b k wr (by omega) (by omega))
      with_reducible refine Calls.mono CC.out ?_
      rintro e w1 ⟨rfl, hw⟩
      obtain rfl := hw
      clear CC t0 t1
      cases ht : b.testBit k
      · have Hno := Lib.hid (bitsL_no ht)
        clear ht
        go_wp2_with fail
        go_roundw
        case rel => exact ⟨k + 1, by omega, by go_num, by rw [Hno.out]; exact ho, hkp⟩
        case measure => simp [intOf]; omega
      · have Hyes := Lib.hid (bitsL_yes ht)
        clear ht
        go_wp2_with (at_builtin; refine wpl_app rfl (.tmp 15) (.tmp 17) rfl w.heap.size _ (bitsL k b) k rfl rfl ho hkp.le hlen2 ?_; intro v' w' ho' ht' _; have hk4 := ho.kp_turn hkp (Nat.le_refl _) ht')
        go_roundw
        case rel => exact ⟨k + 1, by omega, by go_num, by rw [Hyes.out]; exact ho', hk4⟩
        case measure => simp [intOf]; omega
    · have hz := Lib.hid (div_pow_zero hlt)
      have t0 : ¬ (0 : Int) < (b : Int) / 2 ^ k := by rw [hq.out]; omega
      have t1 : decide ((0 : Int) < (b : Int) / 2 ^ k) = false := by simpa using t0
      clear hlt
      go_wp2_with fail
      go_ret
      exact ⟨_, rfl, by rw [bitsL_more hz.out hk]; exact ho, hkp⟩

/-- A number sought in a list. -/
def idxTo (S : List Int) (a : Int) (k : Nat) : Bool := (S.take k).any (fun x => x == a)
set_option maxHeartbeats 400000 in
theorem l1Has_any (A0 : Option Addr) (S : List Int) (n c0 : Nat) (a : Int) (w : World) (hS : IntsAt w A0 S) (hn : S.length = n) :
    Calls Tryz.prog 89 #[.slice A0 n c0, .int .i64 a] w fun e w' => e = .returned (.bool (S.any (fun x => x == a))) ∧ w = w' := by
  have hm : n ≤ 9223372036854775807 := hn ▸ hS.1
  have Hn := Lib.hid hn; clear hn
  go_enter Tryz.func89, Tryz.ntmps89
  go_wp2_with fail
  go_loop [5] (fun iv => ∃ k : Nat, k ≤ n ∧ iv = .int .i64 k ∧ Hid ((S.take k).any (fun x => x == a) = false)) (fun iv => n - (intOf iv).toNat)
  case atStart => exact ⟨0, by omega, rfl, rfl⟩
  case round =>
    obtain ⟨k, hk, rfl, Hp⟩ := hrel
    by_cases hlt : k < n
    · have lx : k < S.length := by rw [Hn.out]; exact hlt
      obtain ⟨ad, rfl, hc⟩ := hS.at_ lx
      cases ht : (S[k] == a)
      · have Ht := Lib.hid ht
        go_wp2_with fail
        go_round
        case rel => exact ⟨k + 1, by omega, by go_num, any_take_succ Hp.out lx Ht.out⟩
        case measure => simp [intOf]; omega
      · have Ht := Lib.hid ht
        go_wp2_with fail
        go_ret
        exact ⟨ret_bool (any_of (p := fun x => x == a) lx Ht.out).symm, rfl⟩
    · go_wp2_with fail
      go_ret
      refine ⟨ret_bool ?_, rfl⟩
      have hp := Hp.out
      rw [List.take_of_length_le (by rw [Hn.out]; omega)] at hp
      exact hp.symm
end Go.Proofs.YtffpdebjjcbenaaGreat

namespace Go.Proofs.YtffpdebjjcbenaaGreat
open Go.RowKit Go.Sort Go.Shelf

def rowsTo (n k : Nat) : List (List Int) := (List.range k).map fun c => bitsL n (c + 1)
theorem rowsTo_len (n k : Nat) : (rowsTo n k).length = k := by simp [rowsTo]
theorem rowsTo_succ (n k : Nat) : rowsTo n (k + 1) = rowsTo n k ++ [bitsL n (k + 1)] := by simp [rowsTo, List.range_succ]
theorem codesL_to (n : Nat) : codesL n = rowsTo n (2 ^ n - 1) := rfl
set_option maxHeartbeats 1000000 in
/-- The library's sort by compareSets. -/
theorem sort_any {n base : Nat} {lo : Option Nat} {v : Value} {rows : List (List Int)} {w : World} (h : GOwn w lo base v rows) (hv : v ≠ .slice none 0 0) (hr : rows.Perm (codesL n)) (hl : rows.length ≤ 1000000) :
    Calls Tryz.prog 56 #[v, .func (.func 57) #[] #[]] w fun e w' => e = .returned (.tuple #[]) ∧ GOwn w' lo base v (setsL n) ∧ Turn (fun i => v.ownBlock = some i) w w' := by
  obtain ⟨hs, h1, h2⟩ := h
  have hlen : hs.length = rows.length := by rw [h1.1]; omega
  rcases id h1.2 with ⟨rfl, _⟩ | ⟨g, cap, cur, rfl, hb, hg, hn, hm, hsz, ht⟩
  · exact absurd rfl hv
  have hblk : g < w.heap.size := (World.ownsRow.lt h1 g rfl).2
  have hs0 : hs = (List.range rows.length).map (hdD hs) := by
    apply List.ext_getElem
    · simp [hlen]
    · intro i hi hi2
      simp [hdD, List.getD, hi]
  have h1' : w.ownsRow base 24 1 (.slice (some ⟨g, 0, none⟩) rows.length cap) rows.length ((List.range rows.length).map (hdD hs)) := by rw [← hs0]; exact h1
  obtain ⟨g2, cap2, e2, _, _, _, _, _, hH⟩ := Lib.holds_of_ownsRow h1' (by simp)
  simp only [Value.slice.injEq, Option.some.injEq, Addr.mk.injEq] at e2
  obtain ⟨⟨rfl, _, _⟩, _, rfl⟩ := e2
  have one : OneCell (hdD hs) := fun i => by
    by_cases hi : i < rows.length
    · obtain ⟨u, e1, e2, _⟩ := h2 i hi
      have := e2.one
      simp [hdD, List.getD, e1, this]
    · simp [hdD, List.getD, List.getElem?_eq_none (show hs.length ≤ i by omega), Value.oneCell']
  have eg : ∀ args w, (callFunc 57 args).run Tryz.prog w = .ok (.enter 57 args) w := enters_of Tryz.func57 (by kernel_rfl) rfl
  have hcmp := cmp_lays (g := 57) (blk := g) rows.length (fun A1 A2 xs ys n m c d W q1 q2 q3 q4 => compareSets_any A1 A2 xs ys n m c d W q1 q2 q3 q4) h1 (fun j hj => by
    obtain ⟨u, e1, e2, e3⟩ := h2 j hj
    exact ⟨u, e1, e2, fun hn i hi hh => e3 hn i hi (by rw [← hh]; rfl)⟩)
  have hH' : Holds (hdD hs) w g 0 (Array.range rows.length) := by
    have e : (List.range rows.length).toArray = Array.range rows.length := by simp
    rw [← e]; exact hH
  have hcon := Any.slices_SortFunc sortL (hdD hs) one (cmpD rows) (swo_cmpD rows) 57 #[] g 0 cap (Array.range rows.length) w eg (by rw [Array.size_range]; exact hcmp) hH' hblk (by rw [Array.size_range]; omega)
  rw [Array.size_range] at hcon
  refine Calls.mono hcon ?_
  rintro e w' ⟨rfl, d', q, os, hp, hso, rfl⟩
  have hgo := gown_sorted (n := q) (os := os) h1 h2 hp
  rw [sorted_sets hr hp hso] at hgo
  refine ⟨rfl, hgo, rfl, rfl, rfl, by simp [sortWorld], fun i hi hn => ?_⟩
  have hne : g ≠ i := fun e => hn (by rw [e]; rfl)
  unfold sortWorld
  rw [heap_grow_old _ _ (by simpa using hi)]
  simp [putRow, mapBlock, Sort.ahead, Array.getElem?_modify, hne]
set_option maxRecDepth 100000 in
set_option maxHeartbeats 1000000 in
theorem sets_any (n : Nat) (w : World) (hn : n ≤ 7) :
    Calls Tryz.prog 27 #[.int .i64 n] w fun e w' => ∃ v, e = .returned v ∧ v ≠ .slice none 0 0 ∧ GOwn w' (some w.heap.size) w.heap.size v (setsL n) ∧ Kp w w' := by
  obtain ⟨P, HP, hpw, hP⟩ := pow_wrap (n : Int) (by omega) (by omega)
  rw [Int.toNat_natCast] at hpw
  have HP' : Hid (P = 2 ^ n) := by show P = _; simpa using HP.out
  have hpu := u64_one_shl (n : Int) (by omega) (by omega)
  rw [Int.toNat_natCast, ← HP'.out] at hpu
  have hP128 : P ≤ 128 := by rw [HP'.out]; exact Nat.pow_le_pow_right (by omega) hn
  have hP1 : 1 ≤ P := by rw [HP'.out]; exact Nat.one_le_two_pow
  go_enter Tryz.func27, Tryz.ntmps27
  go_wp2_with fail
  go_loopw [3, 4] (fun ov bv wr => ∃ b : Nat, 1 ≤ b ∧ b ≤ P ∧ bv = .int .u64 (b : Nat) ∧ Hid (ov ≠ .slice none 0 0) ∧ GOwn wr (some w.heap.size) w.heap.size ov (rowsTo n (b - 1)) ∧ Kp w wr) (fun _ bv _ => P - (intOf bv).toNat)
  case atStart => exact ⟨1, by omega, by omega, rfl, by show _ ≠ _; simp, gown_new w _ w.heap.size (Nat.le_refl _), (Kp.refl _).alloc _⟩
  case round =>
    obtain ⟨b, hb1, hk, rfl, Hv, hown, hkb⟩ := hrel
    by_cases hlt : b < P
    · have hb : b < 2 ^ n := by rw [← HP'.out]; exact hlt
      have Hb := Lib.hid hb
      clear hb
      have hlen := Lib.hid (rowsTo_len n (b - 1))
      have hlen2 : Hid ((rowsTo n (b - 1)).length < 1048576) := by show _ < _; rw [hlen.out]; omega
      have hg := Lib.hid (GOwn.lt hown)
      have hst : Hid (rowsTo n (b + 1 - 1) = rowsTo n (b - 1) ++ [bitsL n b]) := by
        show _ = _
        have := rowsTo_succ n (b - 1)
        rw [show b - 1 + 1 = b by omega] at this
        exact this
      have hkw := hkb
      go_wp2_with fail
      have CC := Lib.hid (list_any b n wr Hb.out (by omega))
      with_reducible refine Calls.mono CC.out ?_
      rintro e w1 ⟨v, rfl, ho, hk1⟩
      clear CC
      replace hkb := hkb.trans hk1
      replace hown := hown.kp hk1
      have hrp := Lib.hid ((RowP.of_own ho (by have := bitsL_len n b; omega)).mono (b' := w.heap.size) hkw.le)
      have hap := Lib.hid (fun (g : Nat) (e : v.ownBlock = some g) => (ho.lt g e).1)
      obtain ⟨Av, cv, hve, _⟩ := ho.ints (by have := bitsL_len n b; omega)
      subst hve
      clear ho
      go_wp2_with (at_builtin; refine wpl_appg rfl (.tmp 12) (.tmp 15) rfl w.heap.size _ (rowsTo n (b - 1)) (bitsL n b) (.slice Av (bitsL n b).length cv) rfl rfl hown hrp.out (fun _ g e hh => by have h1 := hap.out g e; have h2 := (hg.out _ hh).2; omega) hkb.le hlen2.out ?_; intro v' w' ho' ht' h4'; have hkb' := hkb.turn ht' (fun i hi => (hown.lt i hi).1))
      go_roundw
      case rel => exact ⟨b + 1, by omega, by omega, by go_num, ho'.not_nil (by simp), by rw [hst.out]; exact ho', hkb'⟩
      case measure => simp [intOf]; omega
    · have hkp : Hid (rowsTo n (b - 1) = codesL n) := by show _ = _; rw [codesL_to, ← HP'.out, show b = P by omega]
      have hl : Hid ((rowsTo n (b - 1)).length ≤ 1000000) := by show _ ≤ _; rw [rowsTo_len]; omega
      go_wp2_with fail
      have CC := Lib.hid (sort_any (n := n) hown Hv.out (by rw [hkp.out]) hl.out)
      with_reducible refine Calls.mono CC.out ?_
      rintro e w1 ⟨rfl, ho2, ht2⟩
      clear CC
      have hkb2 := hkb.turn ht2 (fun i hi => (hown.lt i hi).1)
      go_wp2_with fail
      go_ret
      exact ⟨_, rfl, Hv.out, ho2, hkb2⟩
end Go.Proofs.YtffpdebjjcbenaaGreat

namespace Go.Proofs.YtffpdebjjcbenaaGreat
open Go.RowKit Go.Sort Go.Shelf

theorem rowsTo_mem {n k : Nat} {S : List Int} (h : S ∈ rowsTo n k) : ∃ c, c < k ∧ S = bitsL n (c + 1) := by
  simp only [rowsTo, List.mem_map, List.mem_range] at h
  obtain ⟨c, hc, rfl⟩ := h
  exact ⟨c, hc, rfl⟩
/-- One more set, put where it belongs. -/
theorem ins_sorted {rows : List (List Int)} {S : List Int} {k : Nat} (hs : rows.Pairwise (fun a b => befB a b = true)) (hk : k ≤ rows.length) (h1 : ∀ j (hj : j < rows.length), k ≤ j → befB S rows[j] = true) (h2 : 0 < k → befB S (rows.getD (k - 1) []) = false) (hn : S ∉ rows) :
    (rows.take k ++ [S] ++ rows.drop k).Pairwise (fun a b => befB a b = true) := by
  have hb : ∀ x ∈ rows.take k, befB x S = true := by
    intro x hx
    obtain ⟨j, hj, rfl⟩ := List.getElem_of_mem hx
    have hj2 : j < k := by simp at hj; omega
    have hj3 : j < rows.length := by omega
    rw [List.getElem_take]
    have h3 := h2 (by omega)
    have e4 : rows.getD (k - 1) [] = rows[k - 1]'(by omega) := by simp [List.getD, show k - 1 < rows.length by omega]
    rw [e4] at h3
    have hlast : befB (rows[k - 1]'(by omega)) S = true := by
      cases hh : befB (rows[k - 1]'(by omega)) S with
      | true => rfl
      | false => exact absurd (befB_total h3 hh) (fun e => hn (e ▸ List.getElem_mem _))
    rcases Nat.lt_or_ge j (k - 1) with h | h
    · exact befB_trans (List.pairwise_iff_getElem.1 hs j (k - 1) hj3 (by omega) h) hlast
    · have e : j = k - 1 := by omega
      subst e; exact hlast
  have ha : ∀ x ∈ rows.drop k, befB S x = true := by
    intro x hx
    obtain ⟨j, hj, rfl⟩ := List.getElem_of_mem hx
    have hj2 : k + j < rows.length := by simp at hj; omega
    rw [List.getElem_drop]
    exact h1 _ hj2 (by omega)
  rw [List.append_assoc, List.pairwise_append]
  refine ⟨hs.sublist (List.take_sublist _ _), ?_, ?_⟩
  · rw [List.singleton_append, List.pairwise_cons]
    exact ⟨ha, hs.sublist (List.drop_sublist _ _)⟩
  · intro x hx y hy
    rcases List.mem_append.1 hy with hy | hy
    · have : y = S := by simpa using hy
      subst this; exact hb x hx
    · obtain ⟨i, hi, rfl⟩ := List.getElem_of_mem hx
      obtain ⟨j, hj, rfl⟩ := List.getElem_of_mem hy
      have hi2 : i < k := by simp at hi; omega
      have hj2 : k + j < rows.length := by simp at hj; omega
      rw [List.getElem_take, List.getElem_drop]
      exact List.pairwise_iff_getElem.1 hs i (k + j) (by omega) hj2 (by omega)
theorem ins_perm {rows l : List (List Int)} {S : List Int} (k : Nat) (h : rows.Perm l) : (rows.take k ++ [S] ++ rows.drop k).Perm (l ++ [S]) := by
  have h1 : (rows.take k ++ [S] ++ rows.drop k).Perm (S :: rows) := by
    rw [List.append_assoc, List.singleton_append]
    refine List.perm_middle.trans ?_
    rw [List.take_append_drop]
  exact h1.trans ((List.Perm.cons S h).trans (List.perm_append_singleton S l).symm)
theorem fresh_code {n c : Nat} {rows : List (List Int)} (hc : c + 1 < 2 ^ n) (hp : rows.Perm (rowsTo n c)) : bitsL n (c + 1) ∉ rows := by
  intro h
  obtain ⟨d, hd, e⟩ := rowsTo_mem (hp.mem_iff.1 h)
  have := bitsL_inj (by omega) (by omega) e
  omega
theorem gown_ab (w : World) (lo : Option Nat) (o : Obj) : GOwn ((w.alloc (.cells #[] 24)).alloc o) lo w.heap.size (.slice (some ⟨w.heap.size, 0, none⟩) 0 0) [] :=
  (gown_new w lo _ (Nat.le_refl _)).kp ((Kp.refl _).alloc _)
theorem gown_ba (w : World) (lo : Option Nat) (o : Obj) : GOwn ((w.alloc o).alloc (.cells #[] 24)) lo w.heap.size (.slice (some ⟨w.heap.size + 1, 0, none⟩) 0 0) [] := by
  have := gown_new (w.alloc o) lo w.heap.size (by simp)
  simpa using this
theorem hd_ab (w : World) (u : Value) : ((w.alloc (.cells #[] 24)).alloc (.cells #[u] 24)).cell? ⟨w.heap.size + 1, 0, none⟩ = some u := by
  rw [World.cell?_alloc_at _ _ _ _ (by simp)]; rfl
theorem hd_ba (w : World) (u : Value) : ((w.alloc (.cells #[u] 24)).alloc (.cells #[] 24)).cell? ⟨w.heap.size, 0, none⟩ = some u :=
  ((Kp.refl _).alloc _).get (by rw [World.cell?_alloc_at _ _ _ _ rfl]; rfl)
theorem cell_turn {T : Nat → Prop} {W w' : World} {p : Addr} {u : Value} (h : W.cell? p = some u) (ht : Turn T W w') (hg : ¬ T p.block) : w'.cell? p = some u := by
  have hb : p.block < W.heap.size := World.block_lt_of_cell? _ _ h
  rw [World.cell?_of_block (ht.block p.block hb hg)]; exact h
theorem Kp.turn_new {w0 W w' : World} {lo : Option Nat} {v : Value} {rows : List (List Int)} (_ : Kp w0 w0) (h : Kp w0 W) (ht : Turn (fun i => v.ownBlock = some i) W w') (ho : GOwn W lo w0.heap.size v rows) : Kp w0 w' :=
  ho.kp_turn h (Nat.le_refl _) ht
set_option maxRecDepth 100000 in
set_option maxHeartbeats 4000000 in
theorem l2Sets_any (n : Nat) (w : World) (hn : n ≤ 7) :
    Calls Tryz.prog 94 #[.int .i64 n] w fun e w' => ∃ v, e = .returned v ∧ v ≠ .slice none 0 0 ∧ GOwn w' (some w.heap.size) w.heap.size v (setsL n) ∧ Kp w w' := by
  obtain ⟨P, HP, hpw, hP⟩ := pow_wrap (n : Int) (by omega) (by omega)
  rw [Int.toNat_natCast] at hpw
  have HP' : Hid (P = 2 ^ n) := by show P = _; simpa using HP.out
  have hP1 : 1 ≤ P := by rw [HP'.out]; exact Nat.one_le_two_pow
  go_enter Tryz.func94, Tryz.ntmps94
  go_wp2_with fail
  go_loopw [3, 4] (fun ov bv wr => ∃ (b : Nat) (rows : List (List Int)), 1 ≤ b ∧ b ≤ P ∧ bv = .int .i64 (b : Nat) ∧ Hid (ov ≠ .slice none 0 0) ∧ GOwn wr (some w.heap.size) w.heap.size ov rows ∧ Hid (rows.length = b - 1) ∧ Hid (rows.Perm (rowsTo n (b - 1)) ∧ rows.Pairwise (fun x y => befB x y = true)) ∧ Kp w wr) (fun _ bv _ => P - (intOf bv).toNat)
  case atStart => exact ⟨1, [], by omega, by omega, rfl, by show _ ≠ _; simp, gown_new w _ w.heap.size (Nat.le_refl _), rfl, ⟨List.Perm.refl _, List.Pairwise.nil⟩, (Kp.refl _).alloc _⟩
  case round =>
    obtain ⟨b, rows, hb1, hk, rfl, Hv, hown, HL, HR, hkb⟩ := hrel
    obtain ⟨ad, cap, rfl, hcap, hrw⟩ := hown.rows_some (by rw [HL.out]; omega) Hv.out
    by_cases hlt : b < P
    · have hb : b < 2 ^ n := by rw [← HP'.out]; exact hlt
      have HF := Lib.hid (fresh_code (n := n) (c := b - 1) (by omega) HR.out.1)
      rw [Nat.sub_add_cancel hb1] at HF
      clear hb
      have hl7 : rows.length < 128 := by rw [HL.out]; omega
      have hkw0 := hkb
      go_wp2_with fail
      have CC := Lib.hid (l2Bits_any n b wr (by omega) (by omega))
      with_reducible refine Calls.mono CC.out ?_
      rintro e w1 ⟨v, rfl, ho, hk1⟩
      clear CC
      replace hkb := hkb.trans hk1
      replace hown := hown.kp hk1
      replace hrw := hrw.kp hk1
      obtain ⟨Av, cv, hve, hiv⟩ := ho.ints (by have := bitsL_len n b; omega)
      have hcv := ho.capL hve
      have hrp := (RowP.of_own ho (by have := bitsL_len n b; omega)).mono (b' := w.heap.size) hkw0.le
      subst hve
      generalize hrl : rows.length = m at *
      go_wp2_with fail
      obtain ⟨wo, rfl⟩ : ∃ wo : World, wo = wr := ⟨_, rfl⟩
      obtain ⟨w5, rfl⟩ : ∃ w5 : World, w5 = w1 := ⟨_, rfl⟩
      go_loopw [6] (fun kv wr => ∃ k : Nat, k ≤ m ∧ kv = .int .i64 k ∧ Hid (∀ j (hj : j < rows.length), k ≤ j → befB (bitsL n b) rows[j] = true) ∧ Dr w5 wr) (fun kv _ => (intOf kv).toNat)
      case atStart => exact ⟨m, Nat.le_refl _, rfl, by show ∀ j (hj : j < rows.length), _ → _; intro j hj h; omega, Dr.refl _⟩
      case round =>
        obtain ⟨k, hkm, rfl, Hbf, hdr⟩ := hrel
        have hrw' := hrw.kp hdr.kp
        have hiv' := hiv.kp hdr.kp
        by_cases h0 : 0 < k
        · obtain ⟨j, rfl⟩ : ∃ j, k = j + 1 := ⟨k - 1, by omega⟩
          have lx : j < rows.length := by omega
          obtain ⟨A2, c2, hcl, hc2, hri, _⟩ := hrw'.some_ lx
          go_wp2_with fail
          have CC := Lib.hid (l2Before_any Av A2 (bitsL n b) rows[j] _ _ cv c2 wr hiv' rfl hri rfl)
          with_reducible refine Calls.mono CC.out ?_
          rintro e w2 ⟨rfl, hd2⟩
          have hk2 := hd2.kp
          clear CC
          cases hbb : befB (bitsL n b) rows[j]
          · have Hb0 := Lib.hid hbb
            clear hbb
            have hrz := hrw'.kp hk2
            have hiz := (hrp.kp hdr.kp).kp hk2
            have hdz := hdr.trans hd2
            have hkc : j + 1 ≤ cap := by omega

            have Hj : Hid (0 < j + 1 → befB (bitsL n b) (rows.getD (j + 1 - 1) []) = false) := by
              show 0 < j + 1 → _
              intro _
              have e4 : rows.getD (j + 1 - 1) [] = rows[j] := by simp [List.getD, lx]
              rw [e4]
              exact Hb0.out
            clear hcl hc2 hri hrw' hiv'
            clear h0 Hb0
            generalize hjk : j + 1 = k at *
            clear hjk
            have hkw := hkb
            have hA := Lib.hid ((gown_new w2 (some w.heap.size) w2.heap.size (Nat.le_refl _)).drew)
            have hAB := Lib.hid ((gown_ab w2 (some w.heap.size) (.cells #[(.slice Av (bitsL n b).length cv)] 24)).drew)
            have hBA := Lib.hid ((gown_ba w2 (some w.heap.size) (.cells #[(.slice Av (bitsL n b).length cv)] 24)).drew)
            have cAB := Lib.hid (hd_ab w2 (.slice Av (bitsL n b).length cv))
            have cBA := Lib.hid (hd_ba w2 (.slice Av (bitsL n b).length cv))
            have hT1 := Lib.hid (hrz.take (k))
            have hT2 := Lib.hid (hrz.tail (c := cap) (by rw [hrl]; exact hcap) (k))
            have hkz : Kp w2 w2 := Kp.refl _
            have hlk : (rows.take (k)).length = k := by rw [List.length_take, hrl]; omega
            have hld : (rows.drop (k)).length = m - (k) := by rw [List.length_drop, hrl]
            have hl1 : ([] : List (List Int)).length + (rows.take (k)).length ≤ 4194304 := by rw [hlk]; simp <;> omega
            have hl2 : (([] : List (List Int)) ++ rows.take (k)).length < 1048576 := by rw [List.length_append, hlk]; simp <;> omega
            have hl4 : (([] : List (List Int)) ++ rows.take (k) ++ [bitsL n b]).length + (rows.drop (k)).length ≤ 4194304 := by rw [List.length_append, List.length_append, hlk, hld]; simp <;> omega
            go_wp2_with fail
            go_region_held3 (fun w' => Kp w2 w')
              (first | exact (by repeat (first | with_reducible assumption | with_reducible exact Kp.refl _ | with_reducible refine Kp.drew ?_ | with_reducible refine Kp.alloc ?_ _ | with_reducible refine Kp.drewN ?_ _ | refine Kp.setCell ?_ (by dsimp only; omega) _)) | exact hkA | exact hkA.alloc _ | exact hkB | exact hkC)
              (first
                | (refine step_appg_all (W0 := w2) (by rfl) (.tmp 32) (.tmp 35) (by rfl) w2.heap.size _ [] (rows.take (k)) (some ad) (k) cap (by rfl) (by rfl) hA.out hT1.out (by repeat (first | with_reducible assumption | with_reducible exact Kp.refl _ | with_reducible refine Kp.drew ?_ | with_reducible refine Kp.alloc ?_ _ | with_reducible refine Kp.drewN ?_ _ | refine Kp.setCell ?_ (by dsimp only; omega) _)) (Nat.le_refl _) hlk (by simp) hl1 ?_; intro v1 wx1 ho1 ht1 h41; have hkA : Kp w2 wx1 := hkz.turn_new (by repeat (first | with_reducible assumption | with_reducible exact Kp.refl _ | with_reducible refine Kp.drew ?_ | with_reducible refine Kp.alloc ?_ _ | with_reducible refine Kp.drewN ?_ _ | refine Kp.setCell ?_ (by dsimp only; omega) _)) ht1 hA.out)
                | (refine step_appg_all (W0 := w2) (by rfl) (.tmp 32) (.tmp 35) (by rfl) w2.heap.size _ [] (rows.take (k)) (some ad) (k) cap (by rfl) (by rfl) hAB.out hT1.out (by repeat (first | with_reducible assumption | with_reducible exact Kp.refl _ | with_reducible refine Kp.drew ?_ | with_reducible refine Kp.alloc ?_ _ | with_reducible refine Kp.drewN ?_ _ | refine Kp.setCell ?_ (by dsimp only; omega) _)) (Nat.le_refl _) hlk (by simp; omega) hl1 ?_; intro v1 wx1 ho1 ht1 h41; have hkA : Kp w2 wx1 := hkz.turn_new (by repeat (first | with_reducible assumption | with_reducible exact Kp.refl _ | with_reducible refine Kp.drew ?_ | with_reducible refine Kp.alloc ?_ _ | with_reducible refine Kp.drewN ?_ _ | refine Kp.setCell ?_ (by dsimp only; omega) _)) ht1 hAB.out; have h1n := cell_turn (p := ⟨w2.heap.size + 1, 0, none⟩) ((Kp.refl _).drew.get cAB.out) ht1 (by simp [Value.ownBlock]))
                | (refine step_appg_all (W0 := w2) (by rfl) (.tmp 32) (.tmp 35) (by rfl) w2.heap.size _ [] (rows.take (k)) (some ad) (k) cap (by rfl) (by rfl) hBA.out hT1.out (by repeat (first | with_reducible assumption | with_reducible exact Kp.refl _ | with_reducible refine Kp.drew ?_ | with_reducible refine Kp.alloc ?_ _ | with_reducible refine Kp.drewN ?_ _ | refine Kp.setCell ?_ (by dsimp only; omega) _)) (Nat.le_refl _) hlk (by simp; omega) hl1 ?_; intro v1 wx1 ho1 ht1 h41; have hkA : Kp w2 wx1 := hkz.turn_new (by repeat (first | with_reducible assumption | with_reducible exact Kp.refl _ | with_reducible refine Kp.drew ?_ | with_reducible refine Kp.alloc ?_ _ | with_reducible refine Kp.drewN ?_ _ | refine Kp.setCell ?_ (by dsimp only; omega) _)) ht1 hBA.out; have h1n := cell_turn (p := ⟨w2.heap.size, 0, none⟩) ((Kp.refl _).drew.get cBA.out) ht1 (by simp [Value.ownBlock]))
                | (refine step_appg_all (W0 := w2) (by rfl) (.tmp 39) (.tmp 42) (by rfl) w2.heap.size v2 ([] ++ rows.take (k) ++ [bitsL n b]) (rows.drop (k)) (if cap = k then some ad else some (ad.add (k))) (m - (k)) (cap - (k)) (by rfl) (by rfl) ho2 hT2.out hkB (Nat.le_refl _) hld hkB.le hl4 ?_; intro v3 wx3 ho3 ht3 h43; have hkC : Kp w2 wx3 := ho2.kp_turn hkB (Nat.le_refl _) ht3)
                | (refine step_appg (by rfl) (.tmp 36) (.tmp 38) (by rfl) w2.heap.size v1 ([] ++ rows.take (k)) (bitsL n b) (.slice Av (bitsL n b).length cv) ⟨w2.heap.size + 1, 0, none⟩ (by rfl) (by rfl) ho1 (hiz.kp hkA) h1n (apart_old hiz ho1 (Nat.le_refl _)) hkA.le hl2 ?_; intro v2 wx2 ho2 ht2 h42; have hkB : Kp w2 wx2 := ho1.kp_turn hkA (Nat.le_refl _) ht2)
                | (refine step_appg (by rfl) (.tmp 36) (.tmp 38) (by rfl) w2.heap.size v1 ([] ++ rows.take (k)) (bitsL n b) (.slice Av (bitsL n b).length cv) ⟨w2.heap.size, 0, none⟩ (by rfl) (by rfl) ho1 (hiz.kp hkA) h1n (apart_old hiz ho1 (Nat.le_refl _)) hkA.le hl2 ?_; intro v2 wx2 ho2 ht2 h42; have hkB : Kp w2 wx2 := ho1.kp_turn hkA (Nat.le_refl _) ht2)
                | (refine step_appg (by rfl) (.tmp 36) (.tmp 38) (by rfl) w2.heap.size v1 ([] ++ rows.take (k)) (bitsL n b) (.slice Av (bitsL n b).length cv) ⟨wx1.heap.size, 0, none⟩ (by rfl) (by rfl) ho1.one_kp (hiz.kp (hkA.alloc _)) (by rw [World.cell?_alloc_at _ _ _ _ rfl]; rfl) (apart_old hiz ho1 (Nat.le_refl _)) (hkA.alloc _).le hl2 ?_; intro v2 wx2 ho2 ht2 h42; have hkB : Kp w2 wx2 := ho1.one_kp.kp_turn (hkA.alloc _) (Nat.le_refl _) ht2))
            all_goals
              go_wp2_with fail
              go_roundw
              case rel =>
                have hst : rowsTo n (b + 1 - 1) = rowsTo n (b - 1) ++ [bitsL n b] := by
                  have := rowsTo_succ n (b - 1)
                  rw [show b - 1 + 1 = b by omega] at this
                  exact this
                have e0 : [] ++ rows.take (k) ++ [bitsL n b] ++ rows.drop (k) = rows.take (k) ++ [bitsL n b] ++ rows.drop (k) := by simp
                rw [e0] at ho3
                exact ⟨b + 1, _, by omega, by omega, by go_num, ho3.not_nil (by simp), ho3.mono (hkw.trans hdz.kp).le, by show _ = b + 1 - 1; rw [List.length_append, List.length_append, hlk, hld]; have := HL.out; simp; omega, ⟨by rw [hst]; exact ins_perm _ HR.out.1, ins_sorted HR.out.2 (by omega) (fun i hi h => Hbf.out i hi h) Hj.out HF.out⟩, (hkw.trans hdz.kp).trans hkC⟩
              case measure => simp [intOf]; omega
          · have Hb0 := Lib.hid hbb
            clear hbb
            go_wp2_with fail
            go_roundw
            case rel => exact ⟨j, by omega, by go_num, by show ∀ i (hi : i < rows.length), _ → _; intro i hi h; rcases Nat.eq_or_lt_of_le h with e | e; (subst e; exact Hb0.out); exact Hbf.out i hi e, hdr.trans hd2⟩
            case measure => simp [intOf] <;> omega
        · have hkw := hkb
          have hkc : k ≤ cap := by omega
          have hA := Lib.hid ((gown_new wr (some w.heap.size) wr.heap.size (Nat.le_refl _)).drew)
          have hAB := Lib.hid ((gown_ab wr (some w.heap.size) (.cells #[(.slice Av (bitsL n b).length cv)] 24)).drew)
          have hBA := Lib.hid ((gown_ba wr (some w.heap.size) (.cells #[(.slice Av (bitsL n b).length cv)] 24)).drew)
          have cAB := Lib.hid (hd_ab wr (.slice Av (bitsL n b).length cv))
          have cBA := Lib.hid (hd_ba wr (.slice Av (bitsL n b).length cv))
          have hT1 := Lib.hid (hrw'.take (k))
          have hT2 := Lib.hid (hrw'.tail (c := cap) (by rw [hrl]; exact hcap) (k))
          have hkz : Kp wr wr := Kp.refl _
          have hlk : (rows.take (k)).length = k := by rw [List.length_take, hrl]; omega
          have hld : (rows.drop (k)).length = m - (k) := by rw [List.length_drop, hrl]
          have hl1 : ([] : List (List Int)).length + (rows.take (k)).length ≤ 4194304 := by rw [hlk]; simp <;> omega
          have hl2 : (([] : List (List Int)) ++ rows.take (k)).length < 1048576 := by rw [List.length_append, hlk]; simp <;> omega
          have hl4 : (([] : List (List Int)) ++ rows.take (k) ++ [bitsL n b]).length + (rows.drop (k)).length ≤ 4194304 := by rw [List.length_append, List.length_append, hlk, hld]; simp <;> omega
          go_wp2_with fail
          go_region_held3 (fun w' => Kp wr w')
            (first | exact (by repeat (first | with_reducible assumption | with_reducible exact Kp.refl _ | with_reducible refine Kp.drew ?_ | with_reducible refine Kp.alloc ?_ _ | with_reducible refine Kp.drewN ?_ _ | refine Kp.setCell ?_ (by dsimp only; omega) _)) | exact hkA | exact hkA.alloc _ | exact hkB | exact hkC)
            (first
              | (refine step_appg_all (W0 := wr) (by rfl) (.tmp 32) (.tmp 35) (by rfl) wr.heap.size _ [] (rows.take (k)) (some ad) (k) cap (by rfl) (by rfl) hA.out hT1.out (by repeat (first | with_reducible assumption | with_reducible exact Kp.refl _ | with_reducible refine Kp.drew ?_ | with_reducible refine Kp.alloc ?_ _ | with_reducible refine Kp.drewN ?_ _ | refine Kp.setCell ?_ (by dsimp only; omega) _)) (Nat.le_refl _) hlk (by simp) hl1 ?_; intro v1 wx1 ho1 ht1 h41; have hkA : Kp wr wx1 := hkz.turn_new (by repeat (first | with_reducible assumption | with_reducible exact Kp.refl _ | with_reducible refine Kp.drew ?_ | with_reducible refine Kp.alloc ?_ _ | with_reducible refine Kp.drewN ?_ _ | refine Kp.setCell ?_ (by dsimp only; omega) _)) ht1 hA.out)
              | (refine step_appg_all (W0 := wr) (by rfl) (.tmp 32) (.tmp 35) (by rfl) wr.heap.size _ [] (rows.take (k)) (some ad) (k) cap (by rfl) (by rfl) hAB.out hT1.out (by repeat (first | with_reducible assumption | with_reducible exact Kp.refl _ | with_reducible refine Kp.drew ?_ | with_reducible refine Kp.alloc ?_ _ | with_reducible refine Kp.drewN ?_ _ | refine Kp.setCell ?_ (by dsimp only; omega) _)) (Nat.le_refl _) hlk (by simp; omega) hl1 ?_; intro v1 wx1 ho1 ht1 h41; have hkA : Kp wr wx1 := hkz.turn_new (by repeat (first | with_reducible assumption | with_reducible exact Kp.refl _ | with_reducible refine Kp.drew ?_ | with_reducible refine Kp.alloc ?_ _ | with_reducible refine Kp.drewN ?_ _ | refine Kp.setCell ?_ (by dsimp only; omega) _)) ht1 hAB.out; have h1n := cell_turn (p := ⟨wr.heap.size + 1, 0, none⟩) ((Kp.refl _).drew.get cAB.out) ht1 (by simp [Value.ownBlock]))
              | (refine step_appg_all (W0 := wr) (by rfl) (.tmp 32) (.tmp 35) (by rfl) wr.heap.size _ [] (rows.take (k)) (some ad) (k) cap (by rfl) (by rfl) hBA.out hT1.out (by repeat (first | with_reducible assumption | with_reducible exact Kp.refl _ | with_reducible refine Kp.drew ?_ | with_reducible refine Kp.alloc ?_ _ | with_reducible refine Kp.drewN ?_ _ | refine Kp.setCell ?_ (by dsimp only; omega) _)) (Nat.le_refl _) hlk (by simp; omega) hl1 ?_; intro v1 wx1 ho1 ht1 h41; have hkA : Kp wr wx1 := hkz.turn_new (by repeat (first | with_reducible assumption | with_reducible exact Kp.refl _ | with_reducible refine Kp.drew ?_ | with_reducible refine Kp.alloc ?_ _ | with_reducible refine Kp.drewN ?_ _ | refine Kp.setCell ?_ (by dsimp only; omega) _)) ht1 hBA.out; have h1n := cell_turn (p := ⟨wr.heap.size, 0, none⟩) ((Kp.refl _).drew.get cBA.out) ht1 (by simp [Value.ownBlock]))
              | (refine step_appg_all (W0 := wr) (by rfl) (.tmp 39) (.tmp 42) (by rfl) wr.heap.size v2 ([] ++ rows.take (k) ++ [bitsL n b]) (rows.drop (k)) (if cap = k then some ad else some (ad.add (k))) (m - (k)) (cap - (k)) (by rfl) (by rfl) ho2 hT2.out hkB (Nat.le_refl _) hld hkB.le hl4 ?_; intro v3 wx3 ho3 ht3 h43; have hkC : Kp wr wx3 := ho2.kp_turn hkB (Nat.le_refl _) ht3)
              | (refine step_appg (by rfl) (.tmp 36) (.tmp 38) (by rfl) wr.heap.size v1 ([] ++ rows.take (k)) (bitsL n b) (.slice Av (bitsL n b).length cv) ⟨wr.heap.size + 1, 0, none⟩ (by rfl) (by rfl) ho1 ((hrp.kp hdr.kp).kp hkA) h1n (apart_old (hrp.kp hdr.kp) ho1 (Nat.le_refl _)) hkA.le hl2 ?_; intro v2 wx2 ho2 ht2 h42; have hkB : Kp wr wx2 := ho1.kp_turn hkA (Nat.le_refl _) ht2)
              | (refine step_appg (by rfl) (.tmp 36) (.tmp 38) (by rfl) wr.heap.size v1 ([] ++ rows.take (k)) (bitsL n b) (.slice Av (bitsL n b).length cv) ⟨wr.heap.size, 0, none⟩ (by rfl) (by rfl) ho1 ((hrp.kp hdr.kp).kp hkA) h1n (apart_old (hrp.kp hdr.kp) ho1 (Nat.le_refl _)) hkA.le hl2 ?_; intro v2 wx2 ho2 ht2 h42; have hkB : Kp wr wx2 := ho1.kp_turn hkA (Nat.le_refl _) ht2)
              | (refine step_appg (by rfl) (.tmp 36) (.tmp 38) (by rfl) wr.heap.size v1 ([] ++ rows.take (k)) (bitsL n b) (.slice Av (bitsL n b).length cv) ⟨wx1.heap.size, 0, none⟩ (by rfl) (by rfl) ho1.one_kp ((hrp.kp hdr.kp).kp (hkA.alloc _)) (by rw [World.cell?_alloc_at _ _ _ _ rfl]; rfl) (apart_old (hrp.kp hdr.kp) ho1 (Nat.le_refl _)) (hkA.alloc _).le hl2 ?_; intro v2 wx2 ho2 ht2 h42; have hkB : Kp wr wx2 := ho1.one_kp.kp_turn (hkA.alloc _) (Nat.le_refl _) ht2))
          all_goals
            go_wp2_with fail
            go_roundw
            case rel =>
              have hst : rowsTo n (b + 1 - 1) = rowsTo n (b - 1) ++ [bitsL n b] := by
                have := rowsTo_succ n (b - 1)
                rw [show b - 1 + 1 = b by omega] at this
                exact this
              have e0 : [] ++ rows.take (k) ++ [bitsL n b] ++ rows.drop (k) = rows.take (k) ++ [bitsL n b] ++ rows.drop (k) := by simp
              rw [e0] at ho3
              exact ⟨b + 1, _, by omega, by omega, by go_num, ho3.not_nil (by simp), ho3.mono (hkw.trans hdr.kp).le, by show _ = b + 1 - 1; rw [List.length_append, List.length_append, hlk, hld]; have := HL.out; simp; omega, ⟨by rw [hst]; exact ins_perm _ HR.out.1, ins_sorted HR.out.2 (by omega) (fun i hi h => Hbf.out i hi h) (fun h => absurd h (by omega)) HF.out⟩, (hkw.trans hdr.kp).trans hkC⟩
            case measure => simp [intOf]; omega
    · have hkp : Hid (rows = setsL n) := by
        have h1 := HR.out.1
        rw [show b = P by omega, HP'.out] at h1
        exact setsL_uniq h1 HR.out.2
      go_wp2_with fail
      go_ret
      exact ⟨_, rfl, Hv.out, by rw [← hkp.out]; exact hown, hkb⟩
end Go.Proofs.YtffpdebjjcbenaaGreat

namespace Go.Proofs.YtffpdebjjcbenaaGreat
open Go.RowKit Go.Sort

theorem find_at {l : List (List Int)} {p : List Int → Bool} {k : Nat} (hk : k < l.length) (h1 : ∀ x ∈ l.take k, p x = false) (h2 : p l[k] = true) : l.find? p = some l[k] := by
  have e : l = l.take k ++ l[k] :: l.drop (k + 1) := by rw [List.getElem_cons_drop, List.take_append_drop]
  conv => lhs; rw [e]
  rw [List.find?_append]
  have : (l.take k).find? p = none := List.find?_eq_none.2 (fun x hx => by simp [h1 x hx])
  rw [this, Option.none_or, List.find?_cons_of_pos h2]
theorem find_no {l : List (List Int)} {p : List Int → Bool} (h1 : ∀ x ∈ l, p x = false) : l.find? p = none := List.find?_eq_none.2 (fun x hx => by simp [h1 x hx])
/-- What the reference holds after k codes. -/
def overI (n : Nat) (p : List Int → Bool) (k : Nat) (best : List Int) : Prop :=
  (best = [] ∧ ∀ S ∈ rowsTo n k, p S = false) ∨ (best ∈ rowsTo n k ∧ p best = true ∧ ∀ S ∈ rowsTo n k, p S = true → S = best ∨ befB best S = true)
theorem mem_rows_succ {n k : Nat} {S : List Int} : S ∈ rowsTo n (k + 1) ↔ S ∈ rowsTo n k ∨ S = bitsL n (k + 1) := by rw [rowsTo_succ]; simp
theorem over_zero (n : Nat) (p : List Int → Bool) : overI n p 0 [] := .inl ⟨rfl, fun S h => by simp [rowsTo] at h⟩
theorem over_no {n : Nat} {p : List Int → Bool} {k : Nat} {best : List Int} (h : overI n p k best) (hp : p (bitsL n (k + 1)) = false) : overI n p (k + 1) best := by
  rcases h with ⟨h1, h2⟩ | ⟨h1, h2, h3⟩
  · refine .inl ⟨h1, fun S hS => ?_⟩
    rcases mem_rows_succ.1 hS with hS | rfl
    · exact h2 S hS
    · exact hp
  · refine .inr ⟨mem_rows_succ.2 (.inl h1), h2, fun S hS hpS => ?_⟩
    rcases mem_rows_succ.1 hS with hS | rfl
    · exact h3 S hS hpS
    · rw [hp] at hpS; cases hpS
theorem over_first {n : Nat} {p : List Int → Bool} {k : Nat} (h : overI n p k []) (hne : [] ∉ rowsTo n k) (hp : p (bitsL n (k + 1)) = true) : overI n p (k + 1) (bitsL n (k + 1)) := by
  rcases h with ⟨_, h2⟩ | ⟨h1, _, _⟩
  · refine .inr ⟨mem_rows_succ.2 (.inr rfl), hp, fun S hS hpS => ?_⟩
    rcases mem_rows_succ.1 hS with hS | rfl
    · rw [h2 S hS] at hpS; cases hpS
    · exact .inl rfl
  · exact absurd h1 hne
theorem over_take {n : Nat} {p : List Int → Bool} {k : Nat} {best : List Int} (h : overI n p k best) (hne : best ≠ []) (hp : p (bitsL n (k + 1)) = true) (hb : befB (bitsL n (k + 1)) best = true) : overI n p (k + 1) (bitsL n (k + 1)) := by
  rcases h with ⟨h1, _⟩ | ⟨h1, h2, h3⟩
  · exact absurd h1 hne
  · refine .inr ⟨mem_rows_succ.2 (.inr rfl), hp, fun S hS hpS => ?_⟩
    rcases mem_rows_succ.1 hS with hS | rfl
    · rcases h3 S hS hpS with rfl | h4
      · exact .inr hb
      · exact .inr (befB_trans hb h4)
    · exact .inl rfl
theorem over_keep {n : Nat} {p : List Int → Bool} {k : Nat} {best : List Int} (h : overI n p k best) (hne : best ≠ []) (hb : befB (bitsL n (k + 1)) best = false) : overI n p (k + 1) best := by
  rcases h with ⟨h1, _⟩ | ⟨h1, h2, h3⟩
  · exact absurd h1 hne
  · refine .inr ⟨mem_rows_succ.2 (.inl h1), h2, fun S hS hpS => ?_⟩
    rcases mem_rows_succ.1 hS with hS | rfl
    · exact h3 S hS hpS
    · cases h : befB best (bitsL n (k + 1)) with
      | true => exact .inr rfl
      | false => exact .inl (befB_total hb h)
theorem over_end {n : Nat} {p : List Int → Bool} {best : List Int} (h : overI n p (2 ^ n - 1) best) : best = ((setsL n).find? p).getD [] := by
  rw [overI, ← codesL_to] at h
  have hm := fun S => (setsL_perm n).mem_iff (a := S)
  rcases h with ⟨rfl, h2⟩ | ⟨h1, h2, h3⟩
  · rw [find_no (fun x hx => h2 x ((hm x).1 hx))]; rfl
  · obtain ⟨k, hk, e⟩ := List.getElem_of_mem ((hm best).2 h1)
    rw [find_at hk (fun x hx => ?_) (by rw [e]; exact h2)]
    · exact e.symm
    · cases hpx : p x with
      | false => rfl
      | true =>
        obtain ⟨i, hi, rfl⟩ := List.getElem_of_mem hx
        have hik : i < k := by simp at hi; omega
        rw [List.getElem_take] at hpx
        have hil : i < (setsL n).length := by omega
        have h4 := List.pairwise_iff_getElem.1 (setsL_sorted n) i k hil hk hik
        rcases h3 _ ((hm _).1 (List.getElem_mem hil)) hpx with h5 | h5
        · rw [h5, e, befB_irrefl] at h4; cases h4
        · rw [e] at h4
          have := befB_asymm h4
          rw [h5] at this; cases this
theorem nil_rows {n k : Nat} (hk : k < 2 ^ n) : [] ∉ rowsTo n k := by
  intro h
  obtain ⟨c, hc, e⟩ := rowsTo_mem h
  have h0 : bitsL n 0 = [] := by simp [bitsL, bitsN]
  have := bitsL_inj (by omega) (Nat.two_pow_pos n) (e.symm.trans h0.symm)
  omega
theorem over_no' {n : Nat} {p : List Int → Bool} {b : Nat} {best : List Int} (h1 : 1 ≤ b) (h : overI n p (b - 1) best) (hp : p (bitsL n b) = false) : overI n p (b + 1 - 1) best := by
  have := over_no h (by rw [Nat.sub_add_cancel h1]; exact hp)
  rwa [Nat.sub_add_cancel h1] at this
theorem over_first' {n : Nat} {p : List Int → Bool} {b : Nat} (h1 : 1 ≤ b) (hlt : b < 2 ^ n) (h : overI n p (b - 1) []) (hp : p (bitsL n b) = true) : overI n p (b + 1 - 1) (bitsL n b) := by
  have := over_first h (nil_rows (by omega)) (by rw [Nat.sub_add_cancel h1]; exact hp)
  rwa [Nat.sub_add_cancel h1] at this
theorem over_take' {n : Nat} {p : List Int → Bool} {b : Nat} {best : List Int} (h1 : 1 ≤ b) (h : overI n p (b - 1) best) (hne : best ≠ []) (hp : p (bitsL n b) = true) (hb : befB (bitsL n b) best = true) : overI n p (b + 1 - 1) (bitsL n b) := by
  have := over_take h hne (by rw [Nat.sub_add_cancel h1]; exact hp) (by rw [Nat.sub_add_cancel h1]; exact hb)
  rwa [Nat.sub_add_cancel h1] at this
theorem over_keep' {n : Nat} {p : List Int → Bool} {b : Nat} {best : List Int} (h1 : 1 ≤ b) (h : overI n p (b - 1) best) (hne : best ≠ []) (hb : befB (bitsL n b) best = false) : overI n p (b + 1 - 1) best := by
  have := over_keep h hne (by rw [Nat.sub_add_cancel h1]; exact hb)
  rwa [Nat.sub_add_cancel h1] at this
end Go.Proofs.YtffpdebjjcbenaaGreat

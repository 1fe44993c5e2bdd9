/- Tables of sets: which lists are tables, which tables are monotone, which are submodular: plain words. No condition. -/
import Derived.Test.YtiihkekicfpnoaaFind
namespace Go.Proofs.Ytiihkekicfpnoaa
open Go.RowKit

theorem all_range_succ {p : Nat → Bool} {k : Nat} : (List.range (k + 1)).all p = ((List.range k).all p && p k) := by
  rw [List.range_succ, List.all_append]; simp
theorem all_range_false {p : Nat → Bool} {k n : Nat} (hk : k < n) (h : p k = false) : (List.range n).all p = false := by
  rw [List.all_eq_false]; exact ⟨k, by simpa using hk, by simp [h]⟩
theorem all_take_succ {α : Type} {p : α → Bool} {xs : List α} {k : Nat} (h : (xs.take k).all p = true) (hk : k < xs.length) (e : p xs[k] = true) : (xs.take (k + 1)).all p = true := by
  rw [List.take_succ_eq_append_getElem hk, List.all_append, h]; simp [e]
theorem all_false_of {α : Type} {p : α → Bool} {xs : List α} {k : Nat} (hk : k < xs.length) (e : p xs[k] = false) : xs.all p = false := by
  rw [List.all_eq_false]; exact ⟨_, List.getElem_mem hk, by simp [e]⟩
theorem ofInt_i64 (a : Nat) (ha : a < 9223372036854775808) : (BitVec.ofInt 64 (a : Int)).toNat = a := by
  rw [BitVec.ofInt_natCast, BitVec.toNat_ofNat]; exact Nat.mod_eq_of_lt (by omega)
theorem i64_and_nat (a b : Nat) (ha : a < 9223372036854775808) (hb : b < 9223372036854775808) : bits .and .i64 (a : Int) (b : Int) = ((a &&& b : Nat) : Int) := by
  have hx : a &&& b < 2 ^ 63 := Nat.and_lt_two_pow _ (by omega)
  show IntKind.i64.wrap ((BitVec.ofInt 64 (a : Int) &&& BitVec.ofInt 64 (b : Int)).toNat : Int) = _
  rw [BitVec.toNat_and, ofInt_i64 a ha, ofInt_i64 b hb, IntKind.wrap_i64]
  omega
theorem i64_or_nat (a b : Nat) (ha : a < 9223372036854775808) (hb : b < 9223372036854775808) : bits .or .i64 (a : Int) (b : Int) = ((a ||| b : Nat) : Int) := by
  have hx : a ||| b < 2 ^ 63 := Nat.or_lt_two_pow (by omega) (by omega)
  show IntKind.i64.wrap ((BitVec.ofInt 64 (a : Int) ||| BitVec.ofInt 64 (b : Int)).toNat : Int) = _
  rw [BitVec.toNat_or, ofInt_i64 a ha, ofInt_i64 b hb, IntKind.wrap_i64]
  omega

theorem count_take_succ {α : Type} {p : α → Bool} {xs : List α} {k : Nat} (hk : k < xs.length) : (xs.take (k + 1)).countP p = (xs.take k).countP p + if p xs[k] then 1 else 0 := by
  rw [List.take_succ_eq_append_getElem hk, List.countP_append]; simp [List.countP_cons]
theorem count_le_len {α : Type} (p : α → Bool) (xs : List α) (k : Nat) : (xs.take k).countP p ≤ k := Nat.le_trans List.countP_le_length (by rw [List.length_take]; omega)
/-- A table for n. -/
def isTab (n : Int) (xs : List Int) : Bool := inB n 0 7 && (xs.length == 2 ^ n.toNat) && allB xs (-1000000) 1000000

theorem pow_wrap (n : Int) (h0 : 0 ≤ n) (h7 : n ≤ 7) : ∃ P : Nat, Hid (P = 2 ^ n.toNat) ∧ wrap64 (2 ^ n.toNat) = (P : Int) ∧ P ≤ 128 := by
  have h : 2 ^ n.toNat ≤ 2 ^ 7 := Nat.pow_le_pow_right (by omega) (by omega)
  have h2 : ((2 ^ n.toNat : Nat) : Int) = 2 ^ n.toNat := by simp
  refine ⟨2 ^ n.toNat, rfl, ?_, by omega⟩
  rw [← h2]
  generalize 2 ^ n.toNat = q at h
  unfold wrap64
  omega

theorem isTab_no_n {n : Int} {xs : List Int} (h : inB n 0 7 = false) : isTab n xs = false := by simp [isTab, h]
theorem isTab_no_len {n : Int} {xs : List Int} {m P : Nat} (hx : xs.length = m) (hP : P = 2 ^ n.toNat) (h : m ≠ P) : isTab n xs = false := by
  have : (xs.length == 2 ^ n.toNat) = false := by rw [beq_eq_false_iff_ne]; omega
  simp [isTab, this]
theorem isTab_eq {n : Int} {xs : List Int} {m P : Nat} (hx : xs.length = m) (hP : P = 2 ^ n.toNat) (h : m = P) (hB : inB n 0 7 = true) : isTab n xs = allB xs (-1000000) 1000000 := by
  have : (xs.length == 2 ^ n.toNat) = true := by rw [beq_iff_eq]; omega
  simp [isTab, this, hB]
theorem isTab_len {n : Int} {xs : List Int} (h : isTab n xs = true) : xs.length ≤ 128 := by
  simp only [isTab, Bool.and_eq_true, beq_iff_eq, inB_iff] at h
  have : 2 ^ n.toNat ≤ 2 ^ 7 := Nat.pow_le_pow_right (by omega) (by omega)
  omega
theorem isTab_mem {n : Int} {xs : List Int} (h : isTab n xs = true) : ∀ x ∈ xs, -1000000 ≤ x ∧ x ≤ 1000000 := by
  simp only [isTab, Bool.and_eq_true] at h
  exact allB_iff.1 h.2

set_option maxHeartbeats 400000 in
theorem l8Table_any (A : Option Addr) (xs : List Int) (m c : Nat) (n : Int) (w : World) (hx : IntsAt w A xs) (hnx : xs.length = m) :
    Calls Try.prog 35 #[.int .i64 n, .slice A m c] w fun e w' => e = .returned (.bool (isTab n xs)) ∧ w = w' := by
  have hm : m ≤ 9223372036854775807 := hnx ▸ hx.1
  have Hx := Lib.hid hnx; clear hnx
  cases hB : inB n 0 7
  · have HB := Lib.hid hB; clear hB
    go_enter Try.func35, Try.ntmps35
    go_wp2_with fail
    refine (l1In_any _ _ _ _).mono ?_
    rintro e w' ⟨rfl, rfl⟩
    rw [HB.out]
    go_wp2
    go_ret
    exact ⟨ret_bool (isTab_no_n HB.out).symm, rfl⟩
  have HB := Lib.hid hB
  obtain ⟨h0, h7⟩ := inB_iff.1 hB; clear hB
  obtain ⟨P, HP, hw, hP⟩ := pow_wrap n h0 h7
  by_cases hs : m = P
  · have hs1 : ((m : Int) != (P : Int)) = false := by simp [hs]
    have Hs := Lib.hid hs; clear hs
    go_enter Try.func35, Try.ntmps35
    go_wp2_with fail
    refine (l1In_any _ _ _ _).mono ?_
    rintro e w' ⟨rfl, rfl⟩
    rw [HB.out]
    go_wp2_with fail
    rw [hw]
    clear hw
    go_loop [5] (fun i => ∃ k : Nat, k ≤ m ∧ i = .int .i64 k ∧ Hid ((xs.take k).all (fun x => inB x (-1000000) 1000000) = true)) (fun i => m - (intOf i).toNat)
    case atStart => exact ⟨0, by omega, rfl, rfl⟩
    case round =>
      obtain ⟨k, hk, rfl, Hp⟩ := hrel
      by_cases hlt : k < m
      · have lx : k < xs.length := by rw [Hx.out]; exact hlt
        obtain ⟨ad, rfl, hc⟩ := hx.at_ lx
        go_wp2_with fail
        refine (l1In_any _ _ _ _).mono ?_
        rintro e w' ⟨rfl, rfl⟩
        cases hpk : inB xs[k] (-1000000) 1000000
        · go_wp2_with fail
          go_ret
          refine ⟨ret_bool ?_, rfl⟩
          rw [isTab_eq Hx.out HP.out Hs.out HB.out]
          exact (all_false_of (p := fun x => inB x (-1000000) 1000000) lx hpk).symm
        · go_wp2_with fail
          go_round
          case rel => exact ⟨k + 1, by omega, by go_num, all_take_succ Hp.out lx hpk⟩
          case measure => simp [intOf]; omega
      · go_wp2_with fail
        go_ret
        refine ⟨ret_bool ?_, rfl⟩
        rw [isTab_eq Hx.out HP.out Hs.out HB.out]
        have hp := Hp.out
        rw [List.take_of_length_le (by rw [Hx.out]; omega)] at hp
        exact hp.symm
  · have hs1 : ((m : Int) != (P : Int)) = true := by simp; omega
    go_enter Try.func35, Try.ntmps35
    go_wp2_with fail
    refine (l1In_any _ _ _ _).mono ?_
    rintro e w' ⟨rfl, rfl⟩
    rw [HB.out]
    go_wp2
    go_ret
    exact ⟨ret_bool (isTab_no_len Hx.out HP.out hs).symm, rfl⟩

theorem isTable_any (A : Option Addr) (xs : List Int) (m c : Nat) (n : Int) (w : World) (hx : IntsAt w A xs) (hnx : xs.length = m) :
    Calls Try.prog 36 #[.int .i64 n, .slice A m c] w fun e w' => e = .returned (.bool (isTab n xs)) ∧ Kp w w' := by
  have hm : m ≤ 9223372036854775807 := hnx ▸ hx.1
  have Hx := Lib.hid hnx; clear hnx
  cases hB : inB n 0 7
  · have HB := Lib.hid hB; clear hB
    go_enter Try.func36, Try.ntmps36
    go_wp2_with fail
    refine (between_any _ _ _ _).mono ?_
    rintro e w' ⟨rfl, rfl⟩
    rw [HB.out]
    go_wp2
    go_ret
    exact ⟨ret_bool (isTab_no_n HB.out).symm, Kp.refl _⟩
  have HB := Lib.hid hB
  obtain ⟨h0, h7⟩ := inB_iff.1 hB; clear hB
  obtain ⟨P, HP, hw, hP⟩ := pow_wrap n h0 h7
  by_cases hs : m = P
  · have hs1 : ((m : Int) == (P : Int)) = true := by simp [hs]
    have Hs := Lib.hid hs; clear hs
    go_enter Try.func36, Try.ntmps36
    go_wp2_with fail
    refine (between_any _ _ _ _).mono ?_
    rintro e w' ⟨rfl, rfl⟩
    rw [HB.out]
    go_wp2_with fail
    refine (areBetween_any _ xs _ _ _ _ _ hx Hx.out).mono ?_
    rintro e w1 ⟨rfl, hk1⟩
    go_wp2
    go_ret
    exact ⟨ret_bool (isTab_eq Hx.out HP.out Hs.out HB.out).symm, hk1⟩
  · have hs1 : ((m : Int) == (P : Int)) = false := by simp; omega
    go_enter Try.func36, Try.ntmps36
    go_wp2_with fail
    refine (between_any _ _ _ _).mono ?_
    rintro e w' ⟨rfl, rfl⟩
    rw [HB.out]
    go_wp2
    go_ret
    exact ⟨ret_bool (isTab_no_len Hx.out HP.out hs).symm, Kp.refl _⟩
end Go.Proofs.Ytiihkekicfpnoaa

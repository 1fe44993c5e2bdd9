/- Tables of sets: which lists are tables, which tables are monotone, which are submodular: plain words. No condition. -/
import Derived.Test.YtjoebikljmkhfaaFind
namespace Go.Proofs.Ytjoebikljmkhfaa
open Go.RowKit

theorem all_range_succ {p : Nat → Bool} {k : Nat} : (List.range (k + 1)).all p = ((List.range k).all p && p k) := by
  rw [List.range_succ, List.all_append]; simp
theorem all_range_false {p : Nat → Bool} {k n : Nat} (hk : k < n) (h : p k = false) : (List.range n).all p = false := by
  rw [List.all_eq_false]; exact ⟨k, by simpa using hk, by simp [h]⟩
theorem all_take_succ {α : Type} {p : α → Bool} {xs : List α} {k : Nat} (h : (xs.take k).all p = true) (hk : k < xs.length) (e : p xs[k] = true) : (xs.take (k + 1)).all p = true := by
  rw [List.take_succ_eq_append_getElem hk, List.all_append, h]; simp [e]
theorem all_false_of {α : Type} {p : α → Bool} {xs : List α} {k : Nat} (hk : k < xs.length) (e : p xs[k] = false) : xs.all p = false := by
  rw [List.all_eq_false]; exact ⟨_, List.getElem_mem hk, by simp [e]⟩
theorem ofInt_i64 (a : Nat) (ha : a < 9223372036854775808) : (BitVec.ofInt 64 (a : Int)).toNat = a := by
  rw [BitVec.ofInt_natCast, BitVec.toNat_ofNat]; exact Nat.mod_eq_of_lt (by omega)
theorem i64_and_nat (a b : Nat) (ha : a < 9223372036854775808) (hb : b < 9223372036854775808) : bits .and .i64 (a : Int) (b : Int) = ((a &&& b : Nat) : Int) := by
  have hx : a &&& b < 2 ^ 63 := Nat.and_lt_two_pow _ (by omega)
  show IntKind.i64.wrap ((BitVec.ofInt 64 (a : Int) &&& BitVec.ofInt 64 (b : Int)).toNat : Int) = _
  rw [BitVec.toNat_and, ofInt_i64 a ha, ofInt_i64 b hb, IntKind.wrap_i64]
  omega
theorem i64_or_nat (a b : Nat) (ha : a < 9223372036854775808) (hb : b < 9223372036854775808) : bits .or .i64 (a : Int) (b : Int) = ((a ||| b : Nat) : Int) := by
  have hx : a ||| b < 2 ^ 63 := Nat.or_lt_two_pow (by omega) (by omega)
  show IntKind.i64.wrap ((BitVec.ofInt 64 (a : Int) ||| BitVec.ofInt 64 (b : Int)).toNat : Int) = _
  rw [BitVec.toNat_or, ofInt_i64 a ha, ofInt_i64 b hb, IntKind.wrap_i64]
  omega

theorem count_take_succ {α : Type} {p : α → Bool} {xs : List α} {k : Nat} (hk : k < xs.length) : (xs.take (k + 1)).countP p = (xs.take k).countP p + if p xs[k] then 1 else 0 := by
  rw [List.take_succ_eq_append_getElem hk, List.countP_append]; simp [List.countP_cons]
theorem count_le_len {α : Type} (p : α → Bool) (xs : List α) (k : Nat) : (xs.take k).countP p ≤ k := Nat.le_trans List.countP_le_length (by rw [List.length_take]; omega)
/-- A table for n. -/
def isTab (n : Int) (xs : List Int) : Bool := inB n 0 7 && (xs.length == 2 ^ n.toNat) && allB xs (-1000000) 1000000

theorem pow_wrap (n : Int) (h0 : 0 ≤ n) (h7 : n ≤ 7) : ∃ P : Nat, Hid (P = 2 ^ n.toNat) ∧ wrap64 (2 ^ n.toNat) = (P : Int) ∧ P ≤ 128 := by
  have h : 2 ^ n.toNat ≤ 2 ^ 7 := Nat.pow_le_pow_right (by omega) (by omega)
  have h2 : ((2 ^ n.toNat : Nat) : Int) = 2 ^ n.toNat := by simp
  refine ⟨2 ^ n.toNat, rfl, ?_, by omega⟩
  rw [← h2]
  generalize 2 ^ n.toNat = q at h
  unfold wrap64
  omega

theorem isTab_no_n {n : Int} {xs : List Int} (h : inB n 0 7 = false) : isTab n xs = false := by simp [isTab, h]
theorem isTab_no_len {n : Int} {xs : List Int} {m P : Nat} (hx : xs.length = m) (hP : P = 2 ^ n.toNat) (h : m ≠ P) : isTab n xs = false := by
  have : (xs.length == 2 ^ n.toNat) = false := by rw [beq_eq_false_iff_ne]; omega
  simp [isTab, this]
theorem isTab_eq {n : Int} {xs : List Int} {m P : Nat} (hx : xs.length = m) (hP : P = 2 ^ n.toNat) (h : m = P) (hB : inB n 0 7 = true) : isTab n xs = allB xs (-1000000) 1000000 := by
  have : (xs.length == 2 ^ n.toNat) = true := by rw [beq_iff_eq]; omega
  simp [isTab, this, hB]
theorem isTab_len {n : Int} {xs : List Int} (h : isTab n xs = true) : xs.length ≤ 128 := by
  simp only [isTab, Bool.and_eq_true, beq_iff_eq, inB_iff] at h
  have : 2 ^ n.toNat ≤ 2 ^ 7 := Nat.pow_le_pow_right (by omega) (by omega)
  omega
theorem isTab_mem {n : Int} {xs : List Int} (h : isTab n xs = true) : ∀ x ∈ xs, -1000000 ≤ x ∧ x ≤ 1000000 := by
  simp only [isTab, Bool.and_eq_true] at h
  exact allB_iff.1 h.2

end Go.Proofs.Ytjoebikljmkhfaa

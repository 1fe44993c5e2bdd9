/- Contracts of the functions on sets as binary numbers, and of searches in lists. No condition. -/
import Derived.Test.YtjoebikljmkhfaaBag
import Derived.Test.YtjoebikljmkhfaaApp
import Derived.Test.YtjoebikljmkhfaaMono
namespace Go.Proofs.Ytjoebikljmkhfaa
open Go.RowKit Go.Sort

theorem ofInt_u64 (a : Nat) (ha : a < 18446744073709551616) : (BitVec.ofInt 64 (a : Int)).toNat = a := by
  rw [BitVec.ofInt_natCast, BitVec.toNat_ofNat]; exact Nat.mod_eq_of_lt ha
theorem u64_and_nat (a b : Nat) (ha : a < 18446744073709551616) (hb : b < 18446744073709551616) : bits .and .u64 (a : Int) (b : Int) = ((a &&& b : Nat) : Int) := by
  have hx : a &&& b < 2 ^ 64 := Nat.and_lt_two_pow _ (by omega)
  show IntKind.u64.wrap ((BitVec.ofInt 64 (a : Int) &&& BitVec.ofInt 64 (b : Int)).toNat : Int) = _
  rw [BitVec.toNat_and, ofInt_u64 a ha, ofInt_u64 b hb, IntKind.wrap_u64]
  omega
theorem u64_or_nat (a b : Nat) (ha : a < 18446744073709551616) (hb : b < 18446744073709551616) : bits .or .u64 (a : Int) (b : Int) = ((a ||| b : Nat) : Int) := by
  have hx : a ||| b < 2 ^ 64 := Nat.or_lt_two_pow (by omega) (by omega)
  show IntKind.u64.wrap ((BitVec.ofInt 64 (a : Int) ||| BitVec.ofInt 64 (b : Int)).toNat : Int) = _
  rw [BitVec.toNat_or, ofInt_u64 a ha, ofInt_u64 b hb, IntKind.wrap_u64]
  omega
theorem div_pow_nat (b x : Nat) : ((b : Int) / 2 ^ x) = ((b / 2 ^ x : Nat) : Int) := by
  rw [Int.natCast_ediv]; simp
theorem bit_one (b x : Nat) : (((b / 2 ^ x &&& 1 : Nat) : Int) == 1) = b.testBit x := by
  rw [Nat.testBit_eq_decide_div_mod_eq, Nat.and_one_is_mod]
  generalize b / 2 ^ x % 2 = r
  rw [Bool.eq_iff_iff, beq_iff_eq, decide_eq_true_eq]
  constructor <;> intro h <;> omega
theorem u64_has (b x : Nat) (hb : b < 18446744073709551616) : (bits BinOp.and IntKind.u64 ((b : Int) / 2 ^ x) 1 == 1) = b.testBit x := by
  have h : b / 2 ^ x < 18446744073709551616 := Nat.lt_of_le_of_lt (Nat.div_le_self _ _) hb
  have := u64_and_nat (b / 2 ^ x) 1 h (by omega)
  rw [div_pow_nat, show (1 : Int) = ((1 : Nat) : Int) from rfl, this]
  exact bit_one b x
theorem i64_has (b x : Nat) (hb : b < 9223372036854775808) : (bits BinOp.and IntKind.i64 ((b : Int) / 2 ^ x) 1 == 1) = b.testBit x := by
  have h : b / 2 ^ x < 9223372036854775808 := Nat.lt_of_le_of_lt (Nat.div_le_self _ _) hb
  have := i64_and_nat (b / 2 ^ x) 1 h (by omega)
  rw [div_pow_nat, show (1 : Int) = ((1 : Nat) : Int) from rfl, this]
  exact bit_one b x
theorem u64_one_shl (a : Int) (h0 : 0 ≤ a) (h1 : a < 32) : IntKind.u64.wrap (2 ^ a.toNat) = ((2 ^ a.toNat : Nat) : Int) := by
  have h : 2 ^ a.toNat ≤ 2 ^ 31 := Nat.pow_le_pow_right (by omega) (by omega)
  have h2 : ((2 ^ a.toNat : Nat) : Int) = 2 ^ a.toNat := by simp
  rw [← h2, IntKind.wrap_u64]
  generalize 2 ^ a.toNat = q at h
  omega
theorem bag_next {S : List Int} {k : Nat} (hk : k < S.length) : bagN (S.take (k + 1)) = bagN (S.take k) ||| 2 ^ (S[k]).toNat := by
  rw [List.take_succ_eq_append_getElem hk, bagN, bagTo, List.foldl_append]; rfl

theorem has_any (b x : Nat) (w : World) (hb : b < 18446744073709551616) (hx : x < 64) :
    Calls Try.prog 47 #[.int .u64 b, .int .i64 x] w fun e w' => e = .returned (.bool (b.testBit x)) ∧ w = w' := by
  go_enter Try.func47, Try.ntmps47
  have H := Lib.hid (u64_has b x hb)
  go_wp2_with fail
  go_ret
  exact ⟨ret_bool H.out, rfl⟩

theorem bagOf_any (A0 : Option Addr) (S : List Int) (n c0 : Nat) (w : World) (hS : IntsAt w A0 S) (hn : S.length = n) (hb : ∀ x ∈ S, 0 ≤ x ∧ x < 32) :
    Calls Try.prog 46 #[.slice A0 n c0] w fun e w' => e = .returned (.int .u64 (bagN S)) ∧ w = w' := by
  have hm : n ≤ 9223372036854775807 := hn ▸ hS.1
  have Hn := Lib.hid hn; clear hn
  have HB := Lib.hid hb; clear hb
  go_enter Try.func46, Try.ntmps46
  go_wp2_with fail
  go_loop [3, 8] (fun bv iv => ∃ k : Nat, k ≤ n ∧ iv = .int .i64 k ∧ bv = .int .u64 (bagN (S.take k))) (fun _ iv => n - (intOf iv).toNat)
  case atStart => exact ⟨0, by omega, rfl, rfl⟩
  case round =>
    obtain ⟨k, hk, rfl, rfl⟩ := hrel
    by_cases hlt : k < n
    · have lx : k < S.length := by rw [Hn.out]; exact hlt
      obtain ⟨ad, rfl, hc⟩ := hS.at_ lx
      obtain ⟨s0, s1⟩ := HB.out _ (List.getElem_mem lx)
      have hlt32 : bagN (S.take k) < 2 ^ 32 := bagN_lt (fun y hy => HB.out y (List.mem_of_mem_take hy))
      have hp : 2 ^ (S[k]).toNat < 2 ^ 32 := Nat.pow_lt_pow_right (by omega) (by omega)
      have HS := Lib.hid (show bits BinOp.or IntKind.u64 (bagN (S.take k) : Int) (IntKind.u64.wrap (2 ^ (S[k]).toNat)) = (bagN (S.take (k + 1)) : Int) from by
        rw [u64_one_shl _ s0 s1, u64_or_nat _ _ (by omega) (by omega), bag_next lx])
      go_wp2_with fail
      go_round
      case rel => exact ⟨k + 1, by omega, by go_num, by rw [HS.out]⟩
      case measure => simp [intOf]; omega
    · go_wp2_with fail
      go_ret
      exact ⟨ret_int (by rw [List.take_of_length_le (by rw [Hn.out]; omega)]), rfl⟩

/-- The members of a set, rising. -/
theorem div_pow_pos {b x n : Nat} (h : 0 < b / 2 ^ x) (hb : b < 2 ^ n) : x < n := by
  rcases Nat.lt_or_ge x n with h1 | h1
  · exact h1
  · have h2 : 2 ^ n ≤ 2 ^ x := Nat.pow_le_pow_right (by omega) h1
    rw [Nat.div_eq_of_lt (by omega)] at h; omega
theorem div_pow_zero {b x : Nat} (h : ¬ 0 < b / 2 ^ x) : b < 2 ^ x := by
  rcases Nat.lt_or_ge b (2 ^ x) with h1 | h1
  · exact h1
  · have := Nat.div_pos h1 (Nat.two_pow_pos x); omega

/-- A number sought in a list. -/
def idxTo (S : List Int) (a : Int) (k : Nat) : Bool := (S.take k).any (fun x => x == a)
set_option maxHeartbeats 400000 in
theorem l1Has_any (A0 : Option Addr) (S : List Int) (n c0 : Nat) (a : Int) (w : World) (hS : IntsAt w A0 S) (hn : S.length = n) :
    Calls Try.prog 37 #[.slice A0 n c0, .int .i64 a] w fun e w' => e = .returned (.bool (S.any (fun x => x == a))) ∧ w = w' := by
  have hm : n ≤ 9223372036854775807 := hn ▸ hS.1
  have Hn := Lib.hid hn; clear hn
  go_enter Try.func37, Try.ntmps37
  go_wp2_with fail
  go_loop [5] (fun iv => ∃ k : Nat, k ≤ n ∧ iv = .int .i64 k ∧ Hid ((S.take k).any (fun x => x == a) = false)) (fun iv => n - (intOf iv).toNat)
  case atStart => exact ⟨0, by omega, rfl, rfl⟩
  case round =>
    obtain ⟨k, hk, rfl, Hp⟩ := hrel
    by_cases hlt : k < n
    · have lx : k < S.length := by rw [Hn.out]; exact hlt
      obtain ⟨ad, rfl, hc⟩ := hS.at_ lx
      cases ht : (S[k] == a)
      · have Ht := Lib.hid ht
        go_wp2_with fail
        go_round
        case rel => exact ⟨k + 1, by omega, by go_num, any_take_succ Hp.out lx Ht.out⟩
        case measure => simp [intOf]; omega
      · have Ht := Lib.hid ht
        go_wp2_with fail
        go_ret
        exact ⟨ret_bool (any_of (p := fun x => x == a) lx Ht.out).symm, rfl⟩
    · go_wp2_with fail
      go_ret
      refine ⟨ret_bool ?_, rfl⟩
      have hp := Hp.out
      rw [List.take_of_length_le (by rw [Hn.out]; omega)] at hp
      exact hp.symm
end Go.Proofs.Ytjoebikljmkhfaa

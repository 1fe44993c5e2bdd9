/- Sets as binary numbers, and as rising lists: plain words; Contracts of the functions on sets as binary numbers, and of searches in lists; The drawing of arguments: a field; a worth; a list of sites; The drawing of arguments: a list of sites. No condition. -/
import Derived.Test.YtinpcfhgcilmoaaQAc
import Derived.Test.YtinpcfhgcilmoaaQAa
import Derived.Test.YtinpcfhgcilmoaaQAk
namespace Go.Proofs.Ytinpcfhgcilmoaa
open Go.RowKit Go.Sort

/-- The members below n of the set with the number b, rising. -/
def bitsN (n b : Nat) : List Nat := (List.range n).filter (fun x => b.testBit x)
def bitsL (n b : Nat) : List Int := (bitsN n b).map fun (x : Nat) => (x : Int)
theorem bitsN_succ (n b : Nat) : bitsN (n + 1) b = bitsN n b ++ if b.testBit n then [n] else [] := by
  unfold bitsN
  rw [List.range_succ, List.filter_append]
  by_cases h : b.testBit n = true <;> simp [h]
theorem bitsL_yes {n b : Nat} (h : b.testBit n = true) : bitsL (n + 1) b = bitsL n b ++ [(n : Int)] := by simp [bitsL, bitsN_succ, h]
theorem bitsL_no {n b : Nat} (h : b.testBit n = false) : bitsL (n + 1) b = bitsL n b := by simp [bitsL, bitsN_succ, h]
theorem bitsL_len (n b : Nat) : (bitsL n b).length ≤ n := by
  unfold bitsL bitsN
  rw [List.length_map]
  exact Nat.le_trans (List.length_filter_le _ _) (by simp)
theorem mem_bitsL {n b : Nat} {x : Int} : x ∈ bitsL n b ↔ 0 ≤ x ∧ x < n ∧ b.testBit x.toNat = true := by
  simp only [bitsL, bitsN, List.mem_map, List.mem_filter, List.mem_range]
  constructor
  · rintro ⟨k, ⟨h1, h2⟩, rfl⟩
    exact ⟨by omega, by omega, by simpa using h2⟩
  · rintro ⟨h0, h1, h2⟩
    exact ⟨x.toNat, ⟨by omega, h2⟩, by omega⟩
theorem bitsL_more {n m b : Nat} (h : b < 2 ^ n) (hm : n ≤ m) : bitsL m b = bitsL n b := by
  obtain ⟨d, rfl⟩ := Nat.le.dest hm
  clear hm
  induction d with
  | zero => rfl
  | succ d ih =>
    have hb : b.testBit (n + d) = false := Nat.testBit_lt_two_pow (Nat.lt_of_lt_of_le h (Nat.pow_le_pow_right (by omega) (by omega)))
    rw [show n + (d + 1) = n + d + 1 from rfl, bitsL_no hb]
    exact ih
/-- Strictly rising. -/
theorem bitsN_sorted (n b : Nat) : (bitsN n b).Pairwise (· < ·) := List.Pairwise.filter _ List.pairwise_lt_range
theorem bitsL_sorted (n b : Nat) : (bitsL n b).Pairwise (· < ·) := by
  unfold bitsL
  rw [List.pairwise_map]
  exact (bitsN_sorted n b).imp (fun h => by omega)
/-- A rising list within bounds is a set, and the other way round. -/
theorem ris_iff {xs : List Int} {lo hi : Int} : risB xs lo hi = true ↔ xs.Pairwise (· < ·) ∧ ∀ x ∈ xs, lo ≤ x ∧ x ≤ hi := by
  constructor
  · intro h
    have hk : ∀ k, k < xs.length → okR xs lo hi k = true := fun k hk => List.all_eq_true.1 h k (by simpa using hk)
    refine ⟨?_, fun x hx => ?_⟩
    · rw [List.pairwise_iff_getElem]
      intro i j hi' hj hij
      have adj : ∀ k, (hd : k + 1 < xs.length) → xs[k] < xs[k + 1] := fun k hd => by
        have h1 := hk (k + 1) hd
        have hb : inB xs[k + 1] lo hi = true := by simp only [okR, Bool.and_eq_true] at h1; simpa [List.getD, hd] using h1.1
        rw [okR_succ hd (by omega) hb] at h1
        simpa using h1
      have step : ∀ d, (hd : i + d + 1 < xs.length) → xs[i] < xs[i + d + 1] := by
        intro d
        induction d with
        | zero => intro hd; exact adj i hd
        | succ d ih => intro hd; exact Int.lt_trans (ih (by omega)) (adj (i + d + 1) hd)
      obtain ⟨d, rfl⟩ : ∃ d, j = i + d + 1 := ⟨j - i - 1, by omega⟩
      exact step d hj
    · obtain ⟨k, hk', rfl⟩ := List.getElem_of_mem hx
      have h1 := hk k hk'
      simp only [okR, Bool.and_eq_true] at h1
      simpa [List.getD, hk', inB_iff] using h1.1
  · rintro ⟨h1, h2⟩
    rw [risB, List.all_eq_true]
    intro k hk
    have hk' : k < xs.length := by simpa using hk
    have hb := inB_iff.2 (h2 _ (List.getElem_mem hk'))
    by_cases h0 : 0 < k
    · rw [okR_succ hk' h0 hb]
      simpa using List.pairwise_iff_getElem.1 h1 (k - 1) k (by omega) hk' (by omega)
    · exact okR_zero hk' h0 hb
theorem bitsL_ris (n b : Nat) (hi : Int) (h : (n : Int) - 1 ≤ hi) : risB (bitsL n b) 0 hi = true := by
  rw [ris_iff]
  refine ⟨bitsL_sorted n b, fun x hx => ?_⟩
  obtain ⟨h0, h1, _⟩ := mem_bitsL.1 hx
  omega
theorem bitsL_set {F : Fld} (b : Nat) : setB F (bitsL F.op.length b) = true := bitsL_ris _ _ _ (Int.le_refl _)
/-- Two rising lists with the same members are the same. -/
theorem rising_ext : ∀ {xs ys : List Int}, xs.Pairwise (· < ·) → ys.Pairwise (· < ·) → (∀ x, x ∈ xs ↔ x ∈ ys) → xs = ys
  | [], [], _, _, _ => rfl
  | [], y :: ys, _, _, h => by have := (h y).2 (by simp); cases this
  | x :: xs, [], _, _, h => by have := (h x).1 (by simp); cases this
  | x :: xs, y :: ys, hx, hy, h => by
    rw [List.pairwise_cons] at hx hy
    have e : x = y := by
      have h1 := (h x).1 (by simp)
      have h2 := (h y).2 (by simp)
      rcases List.mem_cons.1 h1 with e | h1
      · exact e
      rcases List.mem_cons.1 h2 with e | h2
      · exact e.symm
      have := hx.1 y h2
      have := hy.1 x h1
      omega
    subst e
    refine congrArg (x :: ·) (rising_ext hx.2 hy.2 (fun z => ?_))
    constructor
    · intro hz
      rcases List.mem_cons.1 ((h z).1 (by simp [hz])) with e | hz'
      · subst e; have := hx.1 z hz; omega
      · exact hz'
    · intro hz
      rcases List.mem_cons.1 ((h z).2 (by simp [hz])) with e | hz'
      · subst e; have := hy.1 z hz; omega
      · exact hz'
/-- The number of a list. -/
def bagTo (b : Nat) (S : List Int) : Nat := S.foldl (fun b x => b ||| 2 ^ x.toNat) b
def bagN (S : List Int) : Nat := bagTo 0 S
theorem bagTo_bit (x : Nat) : ∀ (S : List Int) (b : Nat), (∀ y ∈ S, 0 ≤ y) → (bagTo b S).testBit x = (b.testBit x || decide ((x : Int) ∈ S))
  | [], b, _ => by simp [bagTo]
  | y :: S, b, h => by
    have ih := bagTo_bit x S (b ||| 2 ^ y.toNat) (fun z hz => h z (by simp [hz]))
    have h0 := h y (by simp)
    simp only [bagTo, List.foldl_cons] at ih ⊢
    rw [ih, Nat.testBit_or, Nat.testBit_two_pow]
    by_cases e : y.toNat = x
    · have : (x : Int) = y := by omega
      simp [e, this]
    · have : ¬ (x : Int) = y := by omega
      simp [e, this]
theorem bagN_bit {S : List Int} (h : ∀ y ∈ S, 0 ≤ y) (x : Nat) : (bagN S).testBit x = decide ((x : Int) ∈ S) := by
  rw [bagN, bagTo_bit x S 0 h]; simp
theorem bagTo_lt {n : Nat} : ∀ (S : List Int) (b : Nat), b < 2 ^ n → (∀ y ∈ S, 0 ≤ y ∧ y < n) → bagTo b S < 2 ^ n
  | [], b, hb, _ => hb
  | y :: S, b, hb, h => by
    have h0 := h y (by simp)
    exact bagTo_lt S _ (Nat.or_lt_two_pow hb (Nat.pow_lt_pow_right (by omega) (by omega))) (fun z hz => h z (by simp [hz]))
theorem bagN_lt {n : Nat} {S : List Int} (h : ∀ y ∈ S, 0 ≤ y ∧ y < n) : bagN S < 2 ^ n := bagTo_lt S 0 (Nat.two_pow_pos n) h
/-- A set's number leads back to it. -/
theorem bits_bag {n : Nat} {S : List Int} (hs : S.Pairwise (· < ·)) (h : ∀ y ∈ S, 0 ≤ y ∧ y < n) : bitsL n (bagN S) = S := by
  refine rising_ext (bitsL_sorted _ _) hs (fun x => ?_)
  rw [mem_bitsL]
  constructor
  · rintro ⟨h0, h1, h2⟩
    rw [bagN_bit (fun y hy => (h y hy).1)] at h2
    have e : ((x.toNat : Nat) : Int) = x := by omega
    rw [e] at h2
    simpa using h2
  · intro hx
    obtain ⟨h0, h1⟩ := h x hx
    refine ⟨h0, h1, ?_⟩
    rw [bagN_bit (fun y hy => (h y hy).1)]
    have e : ((x.toNat : Nat) : Int) = x := by omega
    rw [e]; simpa using hx
theorem set_bits {F : Fld} {S : List Int} (h : setB F S = true) : bitsL F.op.length (bagN S) = S := bits_bag (ris_iff.1 h).1 (set_mem h)

/-- A number put into a rising list. -/
def putL (S : List Int) (a : Int) : List Int := if a ∈ S then S else S.takeWhile (· < a) ++ a :: S.dropWhile (· < a)
end Go.Proofs.Ytinpcfhgcilmoaa

namespace Go.Proofs.Ytinpcfhgcilmoaa
open Go.RowKit Go.Sort

theorem ofInt_u64 (a : Nat) (ha : a < 18446744073709551616) : (BitVec.ofInt 64 (a : Int)).toNat = a := by
  rw [BitVec.ofInt_natCast, BitVec.toNat_ofNat]; exact Nat.mod_eq_of_lt ha
theorem u64_and_nat (a b : Nat) (ha : a < 18446744073709551616) (hb : b < 18446744073709551616) : bits .and .u64 (a : Int) (b : Int) = ((a &&& b : Nat) : Int) := by
  have hx : a &&& b < 2 ^ 64 := Nat.and_lt_two_pow _ (by omega)
  show IntKind.u64.wrap ((BitVec.ofInt 64 (a : Int) &&& BitVec.ofInt 64 (b : Int)).toNat : Int) = _
  rw [BitVec.toNat_and, ofInt_u64 a ha, ofInt_u64 b hb, IntKind.wrap_u64]
  omega
theorem u64_or_nat (a b : Nat) (ha : a < 18446744073709551616) (hb : b < 18446744073709551616) : bits .or .u64 (a : Int) (b : Int) = ((a ||| b : Nat) : Int) := by
  have hx : a ||| b < 2 ^ 64 := Nat.or_lt_two_pow (by omega) (by omega)
  show IntKind.u64.wrap ((BitVec.ofInt 64 (a : Int) ||| BitVec.ofInt 64 (b : Int)).toNat : Int) = _
  rw [BitVec.toNat_or, ofInt_u64 a ha, ofInt_u64 b hb, IntKind.wrap_u64]
  omega
theorem div_pow_nat (b x : Nat) : ((b : Int) / 2 ^ x) = ((b / 2 ^ x : Nat) : Int) := by
  rw [Int.natCast_ediv]; simp
theorem bit_one (b x : Nat) : (((b / 2 ^ x &&& 1 : Nat) : Int) == 1) = b.testBit x := by
  rw [Nat.testBit_eq_decide_div_mod_eq, Nat.and_one_is_mod]
  generalize b / 2 ^ x % 2 = r
  rw [Bool.eq_iff_iff, beq_iff_eq, decide_eq_true_eq]
  constructor <;> intro h <;> omega
theorem u64_has (b x : Nat) (hb : b < 18446744073709551616) : (bits BinOp.and IntKind.u64 ((b : Int) / 2 ^ x) 1 == 1) = b.testBit x := by
  have h : b / 2 ^ x < 18446744073709551616 := Nat.lt_of_le_of_lt (Nat.div_le_self _ _) hb
  have := u64_and_nat (b / 2 ^ x) 1 h (by omega)
  rw [div_pow_nat, show (1 : Int) = ((1 : Nat) : Int) from rfl, this]
  exact bit_one b x
theorem i64_has (b x : Nat) (hb : b < 9223372036854775808) : (bits BinOp.and IntKind.i64 ((b : Int) / 2 ^ x) 1 == 1) = b.testBit x := by
  have h : b / 2 ^ x < 9223372036854775808 := Nat.lt_of_le_of_lt (Nat.div_le_self _ _) hb
  have := i64_and_nat (b / 2 ^ x) 1 h (by omega)
  rw [div_pow_nat, show (1 : Int) = ((1 : Nat) : Int) from rfl, this]
  exact bit_one b x
theorem u64_one_shl (a : Int) (h0 : 0 ≤ a) (h1 : a < 32) : IntKind.u64.wrap (2 ^ a.toNat) = ((2 ^ a.toNat : Nat) : Int) := by
  have h : 2 ^ a.toNat ≤ 2 ^ 31 := Nat.pow_le_pow_right (by omega) (by omega)
  have h2 : ((2 ^ a.toNat : Nat) : Int) = 2 ^ a.toNat := by simp
  rw [← h2, IntKind.wrap_u64]
  generalize 2 ^ a.toNat = q at h
  omega
theorem bag_next {S : List Int} {k : Nat} (hk : k < S.length) : bagN (S.take (k + 1)) = bagN (S.take k) ||| 2 ^ (S[k]).toNat := by
  rw [List.take_succ_eq_append_getElem hk, bagN, bagTo, List.foldl_append]; rfl

theorem has_any (b x : Nat) (w : World) (hb : b < 18446744073709551616) (hx : x < 64) :
    Calls Try.prog 54 #[.int .u64 b, .int .i64 x] w fun e w' => e = .returned (.bool (b.testBit x)) ∧ w = w' := by
  go_enter Try.func54, Try.ntmps54
  have H := Lib.hid (u64_has b x hb)
  go_wp2_with fail
  go_ret
  exact ⟨ret_bool H.out, rfl⟩

theorem bagOf_any (A0 : Option Addr) (S : List Int) (n c0 : Nat) (w : World) (hS : IntsAt w A0 S) (hn : S.length = n) (hb : ∀ x ∈ S, 0 ≤ x ∧ x < 32) :
    Calls Try.prog 39 #[.slice A0 n c0] w fun e w' => e = .returned (.int .u64 (bagN S)) ∧ w = w' := by
  have hm : n ≤ 9223372036854775807 := hn ▸ hS.1
  have Hn := Lib.hid hn; clear hn
  have HB := Lib.hid hb; clear hb
  go_enter Try.func39, Try.ntmps39
  go_wp2_with fail
  go_loop [3, 8] (fun bv iv => ∃ k : Nat, k ≤ n ∧ iv = .int .i64 k ∧ bv = .int .u64 (bagN (S.take k))) (fun _ iv => n - (intOf iv).toNat)
  case atStart => exact ⟨0, by omega, rfl, rfl⟩
  case round =>
    obtain ⟨k, hk, rfl, rfl⟩ := hrel
    by_cases hlt : k < n
    · have lx : k < S.length := by rw [Hn.out]; exact hlt
      obtain ⟨ad, rfl, hc⟩ := hS.at_ lx
      obtain ⟨s0, s1⟩ := HB.out _ (List.getElem_mem lx)
      have hlt32 : bagN (S.take k) < 2 ^ 32 := bagN_lt (fun y hy => HB.out y (List.mem_of_mem_take hy))
      have hp : 2 ^ (S[k]).toNat < 2 ^ 32 := Nat.pow_lt_pow_right (by omega) (by omega)
      have HS := Lib.hid (show bits BinOp.or IntKind.u64 (bagN (S.take k) : Int) (IntKind.u64.wrap (2 ^ (S[k]).toNat)) = (bagN (S.take (k + 1)) : Int) from by
        rw [u64_one_shl _ s0 s1, u64_or_nat _ _ (by omega) (by omega), bag_next lx])
      go_wp2_with fail
      go_round
      case rel => exact ⟨k + 1, by omega, by go_num, by rw [HS.out]⟩
      case measure => simp [intOf]; omega
    · go_wp2_with fail
      go_ret
      exact ⟨ret_int (by rw [List.take_of_length_le (by rw [Hn.out]; omega)]), rfl⟩

set_option maxRecDepth 100000 in
set_option maxHeartbeats 1000000 in
theorem l2Bits_any (n b : Nat) (w : World) (hn : n ≤ 32) (hb : b < 4294967296) :
    Calls Try.prog 30 #[.int .i64 n, .int .i64 b] w fun e w' => ∃ v, e = .returned v ∧ Own w' w.heap.size v (bitsL n b) ∧ Kp w w' := by
  go_enter Try.func30, Try.ntmps30
  go_wp2_with fail
  go_loopw [5, 6] (fun ov iv wr => ∃ k : Nat, k ≤ n ∧ iv = .int .i64 k ∧ Own wr w.heap.size ov (bitsL k b) ∧ Kp w wr) (fun _ iv _ => n - (intOf iv).toNat)
  case atStart => exact ⟨0, by omega, rfl, own_new0 _ _ (Nat.le_refl _), (Kp.refl _).alloc _⟩
  case round =>
    obtain ⟨k, hk, rfl, ho, hkp⟩ := hrel
    by_cases hlt : k < n
    · have H := Lib.hid (i64_has b k (by omega))
      have hlen := bitsL_len k b
      have hlen2 : (bitsL k b).length < 1048576 := by omega
      cases ht : b.testBit k
      · have Ht := Lib.hid (H.out.trans ht)
        have Hno := Lib.hid (bitsL_no ht)
        have Hb2 := Ht.out
        clear ht H
        go_wp2_with fail
        go_roundw
        case rel => exact ⟨k + 1, by omega, by go_num, by rw [Hno.out]; exact ho, hkp⟩
        case measure => simp [intOf]; omega
      · have Ht := Lib.hid (H.out.trans ht)
        have Hyes := Lib.hid (bitsL_yes ht)
        have Hb2 := Ht.out
        clear ht H
        go_wp2_with (at_builtin; refine wpl_app rfl (.tmp 18) (.tmp 20) rfl w.heap.size _ (bitsL k b) k rfl rfl ho hkp.le hlen2 ?_; intro v' w' ho' ht' _; have hk4 := ho.kp_turn hkp (Nat.le_refl _) ht')
        go_roundw
        case rel => exact ⟨k + 1, by omega, by go_num, by rw [Hyes.out]; exact ho', hk4⟩
        case measure => simp [intOf]; omega
    · obtain rfl : k = n := by omega
      go_wp2_with fail
      go_ret
      exact ⟨_, rfl, ho, hkp⟩

/-- The members of a set, rising. -/
theorem div_pow_pos {b x n : Nat} (h : 0 < b / 2 ^ x) (hb : b < 2 ^ n) : x < n := by
  rcases Nat.lt_or_ge x n with h1 | h1
  · exact h1
  · have h2 : 2 ^ n ≤ 2 ^ x := Nat.pow_le_pow_right (by omega) h1
    rw [Nat.div_eq_of_lt (by omega)] at h; omega
theorem div_pow_zero {b x : Nat} (h : ¬ 0 < b / 2 ^ x) : b < 2 ^ x := by
  rcases Nat.lt_or_ge b (2 ^ x) with h1 | h1
  · exact h1
  · have := Nat.div_pos h1 (Nat.two_pow_pos x); omega

set_option maxRecDepth 100000 in
set_option maxHeartbeats 1000000 in
theorem list_any (b n : Nat) (w : World) (hb : b < 2 ^ n) (hn : n ≤ 32) :
    Calls Try.prog 27 #[.int .u64 b] w fun e w' => ∃ v, e = .returned v ∧ Own w' w.heap.size v (bitsL n b) ∧ Kp w w' := by
  have hb32 : b < 4294967296 := Nat.lt_of_lt_of_le hb (Nat.le_trans (Nat.pow_le_pow_right (by omega) hn) (by decide))
  have Hb := Lib.hid hb
  clear hb
  go_enter Try.func27, Try.ntmps27
  go_wp2_with fail
  go_loopw [3, 4] (fun ov iv wr => ∃ k : Nat, k ≤ n ∧ iv = .int .i64 k ∧ Own wr w.heap.size ov (bitsL k b) ∧ Kp w wr) (fun _ iv _ => n + 1 - (intOf iv).toNat)
  case atStart => exact ⟨0, by omega, rfl, own_new0 _ _ (Nat.le_refl _), (Kp.refl _).alloc _⟩
  case round =>
    obtain ⟨k, hk, rfl, ho, hkp⟩ := hrel
    have hq := Lib.hid (div_pow_nat b k)
    by_cases hlt : 0 < b / 2 ^ k
    · have hkn := div_pow_pos hlt Hb.out
      have t0 : (0 : Int) < (b : Int) / 2 ^ k := by rw [hq.out]; omega
      have t1 : decide ((0 : Int) < (b : Int) / 2 ^ k) = true := by simpa using t0
      have hlen := bitsL_len k b
      have hlen2 : (bitsL k b).length < 1048576 := by omega
      clear hlt
      go_wp2_with fail
      have CC := Lib.hid (has_any b k wr (by omega) (by omega))
      with_reducible refine Calls.mono CC.out ?_
      rintro e w1 ⟨rfl, hw⟩
      obtain rfl := hw
      clear CC t0 t1
      cases ht : b.testBit k
      · have Hno := Lib.hid (bitsL_no ht)
        clear ht
        go_wp2_with fail
        go_roundw
        case rel => exact ⟨k + 1, by omega, by go_num, by rw [Hno.out]; exact ho, hkp⟩
        case measure => simp [intOf]; omega
      · have Hyes := Lib.hid (bitsL_yes ht)
        clear ht
        go_wp2_with (at_builtin; refine wpl_app rfl (.tmp 15) (.tmp 17) rfl w.heap.size _ (bitsL k b) k rfl rfl ho hkp.le hlen2 ?_; intro v' w' ho' ht' _; have hk4 := ho.kp_turn hkp (Nat.le_refl _) ht')
        go_roundw
        case rel => exact ⟨k + 1, by omega, by go_num, by rw [Hyes.out]; exact ho', hk4⟩
        case measure => simp [intOf]; omega
    · have hz := Lib.hid (div_pow_zero hlt)
      have t0 : ¬ (0 : Int) < (b : Int) / 2 ^ k := by rw [hq.out]; omega
      have t1 : decide ((0 : Int) < (b : Int) / 2 ^ k) = false := by simpa using t0
      clear hlt
      go_wp2_with fail
      go_ret
      exact ⟨_, rfl, by rw [bitsL_more hz.out hk]; exact ho, hkp⟩

/-- A number sought in a list. -/
def idxTo (S : List Int) (a : Int) (k : Nat) : Bool := (S.take k).any (fun x => x == a)
set_option maxHeartbeats 400000 in
theorem l1Has_any (A0 : Option Addr) (S : List Int) (n c0 : Nat) (a : Int) (w : World) (hS : IntsAt w A0 S) (hn : S.length = n) :
    Calls Try.prog 41 #[.slice A0 n c0, .int .i64 a] w fun e w' => e = .returned (.bool (S.any (fun x => x == a))) ∧ w = w' := by
  have hm : n ≤ 9223372036854775807 := hn ▸ hS.1
  have Hn := Lib.hid hn; clear hn
  go_enter Try.func41, Try.ntmps41
  go_wp2_with fail
  go_loop [5] (fun iv => ∃ k : Nat, k ≤ n ∧ iv = .int .i64 k ∧ Hid ((S.take k).any (fun x => x == a) = false)) (fun iv => n - (intOf iv).toNat)
  case atStart => exact ⟨0, by omega, rfl, rfl⟩
  case round =>
    obtain ⟨k, hk, rfl, Hp⟩ := hrel
    by_cases hlt : k < n
    · have lx : k < S.length := by rw [Hn.out]; exact hlt
      obtain ⟨ad, rfl, hc⟩ := hS.at_ lx
      cases ht : (S[k] == a)
      · have Ht := Lib.hid ht
        go_wp2_with fail
        go_round
        case rel => exact ⟨k + 1, by omega, by go_num, any_take_succ Hp.out lx Ht.out⟩
        case measure => simp [intOf]; omega
      · have Ht := Lib.hid ht
        go_wp2_with fail
        go_ret
        exact ⟨ret_bool (any_of (p := fun x => x == a) lx Ht.out).symm, rfl⟩
    · go_wp2_with fail
      go_ret
      refine ⟨ret_bool ?_, rfl⟩
      have hp := Hp.out
      rw [List.take_of_length_le (by rw [Hn.out]; omega)] at hp
      exact hp.symm
set_option maxHeartbeats 400000 in
theorem index_any (A0 : Option Addr) (S : List Int) (n c0 : Nat) (a : Int) (w : World) (hS : IntsAt w A0 S) (hn : S.length = n) :
    Calls Try.prog 60 #[.slice A0 n c0, .int .i64 a] w fun e w' => ∃ r : Int, e = .returned (.int .i64 r) ∧ decide (0 ≤ r) = S.any (fun x => x == a) ∧ (0 ≤ r → r < n ∧ S.getD r.toNat 0 = a ∧ ∀ j, j < r.toNat → S.getD j 0 ≠ a) ∧ w = w' := by
  have hm : n ≤ 9223372036854775807 := hn ▸ hS.1
  have Hn := Lib.hid hn; clear hn
  go_enter Try.func60, Try.ntmps60
  go_wp2_with fail
  go_loop [8] (fun iv => ∃ k : Nat, k ≤ n ∧ iv = .int .i64 k ∧ Hid ((S.take k).any (fun x => x == a) = false)) (fun iv => n - (intOf iv).toNat)
  case atStart => exact ⟨0, by omega, rfl, rfl⟩
  case round =>
    obtain ⟨k, hk, rfl, Hp⟩ := hrel
    by_cases hlt : k < n
    · have lx : k < S.length := by rw [Hn.out]; exact hlt
      obtain ⟨ad, rfl, hc⟩ := hS.at_ lx
      cases ht : (a == S[k])
      · have Ht := Lib.hid ht
        go_wp2_with fail
        go_round
        case rel => exact ⟨k + 1, by omega, by go_num, any_take_succ Hp.out lx (by have := Ht.out; rw [beq_eq_false_iff_ne] at this ⊢; exact fun h => this h.symm)⟩
        case measure => simp [intOf]; omega
      · have Ht := Lib.hid ht
        go_wp2_with fail
        go_ret
        have e1 : a = S[k] := by simpa using Ht.out
        refine ⟨k, rfl, ?_, fun _ => ⟨by omega, ?_, fun j hj => ?_⟩, rfl⟩
        · rw [any_of (p := fun x => x == a) lx (by rw [e1]; simp)]; simp
        · simp [List.getD, lx, e1]
        · have hj' : j < k := by simpa using hj
          have := List.any_eq_false.1 Hp.out (S.getD j 0) (by
            have h2 : j < (S.take k).length := by rw [List.length_take]; omega
            have h3 : S.getD j 0 = (S.take k)[j] := by simp [List.getD, show j < S.length by omega]
            rw [h3]; exact List.getElem_mem h2)
          simpa using this
    · go_wp2_with fail
      go_ret
      refine ⟨-1, rfl, ?_, fun h => by omega, rfl⟩
      have hp := Hp.out
      rw [List.take_of_length_le (by rw [Hn.out]; omega)] at hp
      rw [hp]; rfl
theorem contains_any (A0 : Option Addr) (S : List Int) (n c0 : Nat) (a : Int) (w : World) (hS : IntsAt w A0 S) (hn : S.length = n) :
    Calls Try.prog 37 #[.slice A0 n c0, .int .i64 a] w fun e w' => e = .returned (.bool (S.any (fun x => x == a))) ∧ w = w' := by
  have Hn := Lib.hid hn; clear hn
  go_enter Try.func37, Try.ntmps37
  go_wp2_with fail
  have CC := Lib.hid (index_any A0 S n c0 a w hS Hn.out)
  with_reducible refine Calls.mono CC.out ?_
  rintro e w1 ⟨r, rfl, hr, _, hw⟩
  obtain rfl := hw
  have Hr := Lib.hid hr
  clear CC hr
  go_wp2_with fail
  go_ret
  exact ⟨ret_bool Hr.out, rfl⟩
end Go.Proofs.Ytinpcfhgcilmoaa

namespace Go.Proofs.Ytinpcfhgcilmoaa
open Go.RowKit Go.Sort

theorem DFld.shape {w : World} {b : Nat} {v : Value} (h : DFld w b v) : ∃ A n c B k d, v = .agg #[.slice A n c, .slice B k d] ∧ n ≤ 9223372036854775807 := by
  obtain ⟨F, A, c, B, d, e, h1, h2⟩ := h
  exact ⟨A, F.op.length, c, B, F.di.length, d, e, h1.1.1⟩
theorem DFld.turn {S : Nat → Prop} {w w' : World} {b : Nat} {v : Value} (h : DFld w b v) (ht : Turn S w w') (hn : ∀ i, b ≤ i → ¬ S i) : DFld w' b v := by
  obtain ⟨F, hf⟩ := h
  exact ⟨F, hf.turn ht hn⟩
theorem DFld.kp {w w' : World} {b : Nat} {v : Value} (h : DFld w b v) (hk : Kp w w') : DFld w' b v := h.turn (Turn.of_kp (S := fun _ => False) hk) (fun _ _ h => h)
theorem DFld.mono {w : World} {b b' : Nat} {v : Value} (h : DFld w b v) (hb : b' ≤ b) : DFld w b' v := by
  obtain ⟨F, hf⟩ := h
  exact ⟨F, hf.mono (fun i hi => by omega)⟩
/-- The result's cells, when the field is stored there. -/
theorem fld_ret {w w2 : World} {p m rb : Nat} {x y : Value} (hf : DFld w2 (rb + 1) (.agg #[x, y])) (ht : w2.there rb 0 2) (hc : Cur w2 p m) (hp : p < rb) (k : Tp p w w2) (hr : w.heap.size ≤ rb) : (w2.setCells rb 0 [x, y]).cell? ⟨rb, 0, none⟩ = some x ∧ (w2.setCells rb 0 [x, y]).cell? ⟨rb, 1, none⟩ = some y ∧ DFld (w2.setCells rb 0 [x, y]) w.heap.size (.agg #[x, y]) ∧ Cur (w2.setCells rb 0 [x, y]) p m ∧ Tp p w (w2.setCells rb 0 [x, y]) := by
  have ts := turn_setCellsD rb [x, y] 0 w2
  have hg := World.rangeAt_setCells_same w2 rb 0 [x, y] ht
  exact ⟨hg 0 _ rfl, hg 1 _ rfl, (hf.turn ts (fun i hi => by omega)).mono (by omega), hc.turn ts (fun i hi => by omega), ⟨ts.os.trans k.os, ts.tape.trans k.tape, ts.output.trans k.output, Nat.le_trans k.size ts.size, fun i hi hn => by
    rw [ts.block i (Nat.lt_of_lt_of_le hi k.size) (by omega), k.block i hi hn]⟩⟩
set_option maxRecDepth 100000 in
set_option maxHeartbeats 2000000 in
theorem fieldOf_any (p m : Nat) (most : Int) (w : World) (hc : Cur w p m) (hm : m < 100000000) (hmost : 1 ≤ most) :
    Calls Try.prog 49 #[.pointer (some ⟨p, 0, none⟩), .int .i64 most] w fun e w' => ∃ v, e = .returned v ∧ DFld w' w.heap.size v ∧ Cur w' p (m + 5000) ∧ Tp p w w' := by
  have hp := hc.lt
  have t0 := there_newD w [.slice none 0 0, .slice none 0 0] 27
  simp only [List.length_cons, List.length_nil, Nat.zero_add, Nat.reduceAdd] at t0
  have k0 : Tp p w (w.alloc (.cells #[.slice none 0 0, .slice none 0 0] 27)) := Turn.of_kp ((Kp.refl w).alloc _)
  have c0 := hc.kp ((Kp.refl w).alloc (.cells #[.slice none 0 0, .slice none 0 0] 27))
  have hsz : Hid ((w.alloc (.cells #[.slice none 0 0, .slice none 0 0] 27)).heap.size = w.heap.size + 1) := by show _ = _; simp
  have CP := Lib.hid (pick_any p m 3 (w.alloc (.cells #[.slice none 0 0, .slice none 0 0] 27)) c0 (by omega) (by omega))
  go_enter Try.func49, Try.ntmps49
  go_wp2_with fail
  generalize w.alloc (.cells #[.slice none 0 0, .slice none 0 0] 27) = wa at *
  with_reducible refine Calls.mono CP.out ?_
  rintro e w1 ⟨r, rfl, hr, c1, u1⟩
  clear CP
  have hw1 : w.heap.size + 1 ≤ w1.heap.size := by have := u1.size; rw [hsz.out] at this; exact this
  have hr3 : r = 0 ∨ r = 1 ∨ r = 2 := by have := hr.2.2 (by omega); omega
  clear hr c0
  rcases hr3 with rfl | rfl | rfl
  · have CC := Lib.hid (rawField_any p (m + 2) most w1 c1 (by omega) hmost)
    go_wp2_with fail
    with_reducible refine Calls.mono CC.out ?_
    rintro e w2 ⟨a, d, rfl, ⟨xs, J, B, Cp, f, hrf, hrb⟩, c2, u2⟩
    clear CC
    have CC := Lib.hid (spoilt2_any p _ a d w1.heap.size xs J B Cp f wa w2 c2 (by omega) (u1.trans u2) (by rw [hsz.out]; exact hw1) (by rw [hsz.out]; omega) u2.size hrf hrb)
    go_wp2_with fail
    with_reducible refine Calls.mono CC.out ?_
    rintro e w3 ⟨v, rfl, hv, cv, kv⟩
    clear CC
    rw [hsz.out] at hv
    obtain ⟨A9, n9, c9, B9, k9, d9, rfl, _⟩ := hv.shape
    have ht9 := turn_thereD kv t0 (by show ¬ w.heap.size = p; omega)
    have HE := Lib.hid (fld_ret hv ht9 cv hp (k0.trans kv) (Nat.le_refl _))
    go_wp2_with (first | (refine wpList_store_mid rfl 27 (.tmp 4) (.tmp 13) rfl w.heap.size 0 #[.slice A9 n9 c9, .slice B9 k9 d9] rfl rfl ht9 (by kernel_rfl) (by simp [Value.oneCell']) ?_) | fail)
    obtain ⟨z0, z1, z2, z3, z4⟩ := HE.out
    exact bodyPost_ret (v := .agg #[.slice A9 n9 c9, .slice B9 k9 d9]) (by simp [results, Try.results49, go_sem, z0, z1]) rfl ⟨_, rfl, z2, z3.mono (by omega), z4⟩
  · have CC := Lib.hid (lineField_any p (m + 2) most w1 c1 (by omega) hmost)
    go_wp2_with fail
    with_reducible refine Calls.mono CC.out ?_
    rintro e w2 ⟨a, d, rfl, ⟨xs, J, B, Cp, f, hrf, hrb⟩, c2, u2⟩
    clear CC
    have CC := Lib.hid (spoilt2_any p _ a d w1.heap.size xs J B Cp f wa w2 c2 (by omega) (u1.trans u2) (by rw [hsz.out]; exact hw1) (by rw [hsz.out]; omega) u2.size hrf hrb)
    go_wp2_with fail
    with_reducible refine Calls.mono CC.out ?_
    rintro e w3 ⟨v, rfl, hv, cv, kv⟩
    clear CC
    rw [hsz.out] at hv
    obtain ⟨A9, n9, c9, B9, k9, d9, rfl, _⟩ := hv.shape
    have ht9 := turn_thereD kv t0 (by show ¬ w.heap.size = p; omega)
    have HE := Lib.hid (fld_ret hv ht9 cv hp (k0.trans kv) (Nat.le_refl _))
    go_wp2_with (first | (refine wpList_store_mid rfl 27 (.tmp 4) (.tmp 20) rfl w.heap.size 0 #[.slice A9 n9 c9, .slice B9 k9 d9] rfl rfl ht9 (by kernel_rfl) (by simp [Value.oneCell']) ?_) | fail)
    obtain ⟨z0, z1, z2, z3, z4⟩ := HE.out
    exact bodyPost_ret (v := .agg #[.slice A9 n9 c9, .slice B9 k9 d9]) (by simp [results, Try.results49, go_sem, z0, z1]) rfl ⟨_, rfl, z2, z3.mono (by omega), z4⟩
  · have CC := Lib.hid (rawField_any p (m + 2) most w1 c1 (by omega) hmost)
    go_wp2_with fail
    with_reducible refine Calls.mono CC.out ?_
    rintro e w2 ⟨a, d, rfl, ⟨xs, J, B, Cp, f, hrf, hrb⟩, c2, u2⟩
    clear CC
    have CC := Lib.hid (l2Close_any a d w1.heap.size xs J B Cp f w2 hrf hrb)
    go_wp2_with fail
    with_reducible refine Calls.mono CC.out ?_
    rintro e w3 ⟨a', d', rfl, ⟨xs', J', B', Cp', f', hrf', hrb'⟩, k3⟩
    clear CC
    have h23 := u2.size
    have CC := Lib.hid (spoilt2_any p _ a' d' w2.heap.size xs' J' B' Cp' f' wa w3 (c2.kp k3) (by omega) ((u1.trans u2).trans (Turn.of_kp k3)) (by rw [hsz.out]; omega) (by rw [hsz.out]; omega) k3.le hrf' hrb')
    go_wp2_with fail
    with_reducible refine Calls.mono CC.out ?_
    rintro e w4 ⟨v, rfl, hv, cv, kv⟩
    clear CC
    rw [hsz.out] at hv
    obtain ⟨A9, n9, c9, B9, k9, d9, rfl, _⟩ := hv.shape
    have ht9 := turn_thereD kv t0 (by show ¬ w.heap.size = p; omega)
    have HE := Lib.hid (fld_ret hv ht9 cv hp (k0.trans kv) (Nat.le_refl _))
    go_wp2_with (first | (refine wpList_store_mid rfl 27 (.tmp 4) (.tmp 26) rfl w.heap.size 0 #[.slice A9 n9 c9, .slice B9 k9 d9] rfl rfl ht9 (by kernel_rfl) (by simp [Value.oneCell']) ?_) | fail)
    obtain ⟨z0, z1, z2, z3, z4⟩ := HE.out
    exact bodyPost_ret (v := .agg #[.slice A9 n9 c9, .slice B9 k9 d9]) (by simp [results, Try.results49, go_sem, z0, z1]) rfl ⟨_, rfl, z2, z3.mono (by omega), z4⟩
set_option maxRecDepth 100000 in
set_option maxHeartbeats 1000000 in
theorem field_any (p m : Nat) (w : World) (hc : Cur w p m) (hm : m < 100000000) :
    Calls Try.prog 23 #[.pointer (some ⟨p, 0, none⟩)] w fun e w' => ∃ v, e = .returned v ∧ DFld w' w.heap.size v ∧ Cur w' p (m + 5000) ∧ Tp p w w' := by
  have hp := hc.lt
  have t0 := there_newD w [.slice none 0 0, .slice none 0 0] 27
  simp only [List.length_cons, List.length_nil, Nat.zero_add, Nat.reduceAdd] at t0
  have k0 : Tp p w (w.alloc (.cells #[.slice none 0 0, .slice none 0 0] 27)) := Turn.of_kp ((Kp.refl w).alloc _)
  have c0 := hc.kp ((Kp.refl w).alloc (.cells #[.slice none 0 0, .slice none 0 0] 27))
  have hsz : Hid ((w.alloc (.cells #[.slice none 0 0, .slice none 0 0] 27)).heap.size = w.heap.size + 1) := by show _ = _; simp
  have CC := Lib.hid (fieldOf_any p m 7 (w.alloc (.cells #[.slice none 0 0, .slice none 0 0] 27)) c0 hm (by omega))
  go_enter Try.func23, Try.ntmps23
  go_wp2_with fail
  generalize w.alloc (.cells #[.slice none 0 0, .slice none 0 0] 27) = wa at *
  with_reducible refine Calls.mono CC.out ?_
  rintro e w3 ⟨v, rfl, hv, cv, kv⟩
  clear CC
  rw [hsz.out] at hv
  obtain ⟨A9, n9, c9, B9, k9, d9, rfl, _⟩ := hv.shape
  have ht9 := turn_thereD kv t0 (by show ¬ w.heap.size = p; omega)
  have HE := Lib.hid (fld_ret hv ht9 cv hp (k0.trans kv) (Nat.le_refl _))
  go_wp2_with (first | (refine wpList_store_mid rfl 27 (.tmp 2) (.tmp 4) rfl w.heap.size 0 #[.slice A9 n9 c9, .slice B9 k9 d9] rfl rfl ht9 (by kernel_rfl) (by simp [Value.oneCell']) ?_) | fail)
  obtain ⟨z0, z1, z2, z3, z4⟩ := HE.out
  exact bodyPost_ret (v := .agg #[.slice A9 n9 c9, .slice B9 k9 d9]) (by simp [results, Try.results23, go_sem, z0, z1]) rfl ⟨_, rfl, z2, z3.mono (by omega), z4⟩
set_option maxRecDepth 100000 in
set_option maxHeartbeats 1000000 in
theorem worth_any (p m : Nat) (w : World) (hc : Cur w p m) (hm : m < 100000000) :
    Calls Try.prog 24 #[.pointer (some ⟨p, 0, none⟩)] w fun e w' => ∃ r : Int, e = .returned (.int .i64 r) ∧ Cur w' p (m + 4) ∧ Tp p w w' := by
  have CP := Lib.hid (one_any p m 20 w hc (by omega) (by omega))
  go_enter Try.func24, Try.ntmps24
  go_wp2_with fail
  with_reducible refine Calls.mono CP.out ?_
  rintro e w1 ⟨b, rfl, c1, u1⟩
  clear CP
  cases b
  · have CC := amongLit_any p (m + 2) [3, 5, 8, 10, 15, 25, 40] w1 c1 (by omega) (by decide) (by decide)
    simp only [List.map_cons, List.map_nil, List.length_cons, List.length_nil, Nat.zero_add, Nat.reduceAdd] at CC
    replace CC := Lib.hid CC
    go_wp2_with fail
    with_reducible refine Calls.mono CC.out ?_
    rintro e w2 ⟨r, rfl, _, c2, u2⟩
    clear CC
    go_wp2_with fail
    go_ret
    exact ⟨r, rfl, c2, u1.trans u2⟩
  · have CC := amongLit_any p (m + 2) [-1, 1000, 999, 0] w1 c1 (by omega) (by decide) (by decide)
    simp only [List.map_cons, List.map_nil, List.length_cons, List.length_nil, Nat.zero_add, Nat.reduceAdd] at CC
    replace CC := Lib.hid CC
    go_wp2_with fail
    with_reducible refine Calls.mono CC.out ?_
    rintro e w2 ⟨r, rfl, _, c2, u2⟩
    clear CC
    go_wp2_with fail
    go_ret
    exact ⟨r, rfl, c2, u1.trans u2⟩
end Go.Proofs.Ytinpcfhgcilmoaa

namespace Go.Proofs.Ytinpcfhgcilmoaa
open Go.RowKit Go.Sort

/-- A list that has been drawn. -/
def DInts (w : World) (b : Nat) (v : Value) : Prop := ∃ xs : List Int, Own w b v xs ∧ xs.length ≤ 100
theorem DInts.mono {w : World} {b b' : Nat} {v : Value} (h : DInts w b v) (hb : b' ≤ b) : DInts w b' v := by
  obtain ⟨xs, h1, h2⟩ := h
  exact ⟨xs, h1.mono hb, h2⟩
theorem DInts.turn {S : Nat → Prop} {w w' : World} {b : Nat} {v : Value} (h : DInts w b v) (ht : Turn S w w') (hn : ∀ i, b ≤ i → ¬ S i) : DInts w' b v := by
  obtain ⟨xs, h1, h2⟩ := h
  exact ⟨xs, own_low h1 ht hn, h2⟩
theorem DInts.kp {w w' : World} {b : Nat} {v : Value} (h : DInts w b v) (hk : Kp w w') : DInts w' b v := h.turn (Turn.of_kp (S := fun _ => False) hk) (fun _ _ h => h)
theorem DInts.ints {w : World} {b : Nat} {v : Value} (h : DInts w b v) : ∃ A c xs, v = .slice A xs.length c ∧ IntsAt w A xs ∧ xs.length ≤ 100 ∧ xs.length ≤ c := by
  obtain ⟨xs, h1, h2⟩ := h
  obtain ⟨A, c, e, hi⟩ := h1.ints (by omega)
  exact ⟨A, c, xs, e, hi, h2, h1.capL e⟩
theorem own_oneD (w : World) (base : Nat) (a : Int) (hb : base ≤ w.heap.size) : Own (w.alloc (.cells #[.int .i64 a] 3)) base (.slice (some ⟨w.heap.size, 0, none⟩) 1 1) [a] :=
  World.ownsRow_lit w #[.int .i64 a] 1 hb (by unfold maxLen; omega) (by simp)
/-- Own memory has turned. -/
theorem tp_own {w w1 w2 : World} {p : Nat} {S : Nat → Prop} (k : Tp p w w1) (ht : Turn S w1 w2) (hs : ∀ i, S i → w.heap.size ≤ i) : Tp p w w2 :=
  ⟨ht.os.trans k.os, ht.tape.trans k.tape, ht.output.trans k.output, Nat.le_trans k.size ht.size, fun i hi hn => by
    rw [ht.block i (Nat.lt_of_lt_of_le hi k.size) (fun e => by have := hs i e; omega), k.block i hi hn]⟩
set_option maxRecDepth 100000 in
set_option maxHeartbeats 2000000 in
theorem sites_any (p m : Nat) (A : Option Addr) (n c : Nat) (B : Option Addr) (k d : Nat) (w : World) (hc : Cur w p m) (hm : m < 100000000) (hn : n ≤ 9223372036854775807) :
    Calls Try.prog 45 #[.pointer (some ⟨p, 0, none⟩), .agg #[.slice A n c, .slice B k d]] w fun e w' => ∃ v, e = .returned v ∧ DInts w' w.heap.size v ∧ Cur w' p (m + 30) ∧ Tp p w w' := by
  have hp := hc.lt
  have k0 : Kp w (w.alloc (.cells #[.slice A n c, .slice B k d] 27)) := (Kp.refl w).alloc _
  obtain ⟨d0, d1⟩ := box2 w (.slice A n c) (.slice B k d) 27
  obtain ⟨nn, hnn⟩ : ∃ nn : Nat, min (n : Int) 7 = (nn : Int) := ⟨min n 7, by omega⟩
  have hn7 : nn ≤ 7 := by omega
  have CL := Lib.hid (l1Least_any (n : Int) 7 (w.alloc (.cells #[.slice A n c, .slice B k d] 27)))
  rw [hnn] at CL
  obtain ⟨P, HP, hpw, hP⟩ := pow_wrap (nn : Int) (by omega) (by omega)
  rw [Int.toNat_natCast] at hpw
  have hP1 : 1 ≤ P := by rw [HP.out]; exact Nat.one_le_two_pow
  have c0 := hc.kp k0
  have t0 : Tp p w (w.alloc (.cells #[.slice A n c, .slice B k d] 27)) := Turn.of_kp k0
  have CP := Lib.hid (pick_any p m P (w.alloc (.cells #[.slice A n c, .slice B k d] 27)) c0 (by omega) (by omega))
  clear hnn
  go_enter Try.func45, Try.ntmps45
  go_wp2_with fail
  generalize w.alloc (.cells #[.slice A n c, .slice B k d] 27) = wa at *
  with_reducible refine Calls.mono CL.out ?_
  rintro e w1 ⟨rfl, hw⟩
  obtain rfl := hw
  clear CL
  go_wp2_with fail
  with_reducible refine Calls.mono CP.out ?_
  rintro e w2 ⟨r, rfl, hr, c2, u2⟩
  clear CP
  obtain ⟨q, rfl⟩ := Int.eq_ofNat_of_zero_le hr.1
  have hq : q < P := by have := hr.2.2 (by omega); omega
  have CB := Lib.hid (l2Bits_any nn (q + 1) w2 (by omega) (by omega))
  rw [show (((q + 1 : Nat)) : Int) = 1 + (q : Int) from by push_cast; omega] at CB
  have t2 := t0.trans u2
  clear hr c0 t0 u2
  go_wp2_with fail
  with_reducible refine Calls.mono CB.out ?_
  rintro e w3 ⟨v, rfl, ho, hk3⟩
  clear CB
  have hbl := bitsL_len nn (q + 1)
  obtain ⟨ys, hys⟩ : ∃ ys, bitsL nn (q + 1) = ys := ⟨_, rfl⟩
  rw [hys] at ho hbl
  have ho3 := ho.mono t2.size
  have t3 := t2.trans (Turn.of_kp hk3)
  have c3 := c2.kp hk3
  have CP := Lib.hid (one_any p (m + 2) 20 w3 c3 (by omega) (by omega))
  clear ho hys
  go_wp2_with fail
  with_reducible refine Calls.mono CP.out ?_
  rintro e w4 ⟨b, rfl, c4, u4⟩
  clear CP
  have ho4 := own_low ho3 u4 (fun i hi => by omega)
  have t4 := t3.trans u4
  clear ho3 t3 c3 hk3 c2 t2 u4
  cases b
  · obtain ⟨xs, rfl⟩ : ∃ xs, xs = ys := ⟨_, rfl⟩
    have hos := ho4
    have hcs := c4.mono (m' := m + 8) (by omega)
    have hts := t4
    clear ho4 c4 t4
    obtain ⟨As, cs, hvs⟩ := hos.shape
    obtain ⟨l, hl⟩ : ∃ l, xs.length = l := ⟨_, rfl⟩
    rw [hl] at hvs
    subst hvs
    have hl8 : l ≤ 8 := by omega
    by_cases hl0 : l = 0
    · subst hl0
      by_cases hn0 : nn = 0
      · subst hn0
        go_wp2_with fail
        go_ret
        exact ⟨_, rfl, ⟨xs, hos, by omega⟩, hcs.mono (by omega), hts⟩
      · have hnI : (0 : Int) < (nn : Int) := by omega
        have CP := Lib.hid (one_any p (m + 8) 6 w4 (hcs.mono (by omega)) (by omega) (by omega))
        go_wp2_with fail
        with_reducible refine Calls.mono CP.out ?_
        rintro e wz ⟨b, rfl, cz, uz⟩
        clear CP
        cases b
        · have CP := Lib.hid (pick_any p _ nn wz cz (by omega) (by omega))
          go_wp2_with fail
          with_reducible refine Calls.mono CP.out ?_
          rintro e wy ⟨r, rfl, _, cy, uy⟩
          clear CP
          have hwy : w.heap.size ≤ wy.heap.size := by have h1 := hts.size; have h2 := uz.size; have h3 := uy.size; omega
          have hone := own_oneD wy w.heap.size r hwy
          have hka : Kp wy (wy.alloc (.cells #[.int .i64 r] 3)) := (Kp.refl wy).alloc _
          go_wp2_with fail
          go_ret
          exact ⟨_, rfl, ⟨_, hone, by simp⟩, (cy.kp hka).mono (by omega), ((hts.trans uz).trans uy).trans (Turn.of_kp hka)⟩
        · have hos2 := own_low hos uz (fun i hi => by omega)
          go_wp2_with fail
          go_ret
          exact ⟨_, rfl, ⟨xs, hos2, by omega⟩, cz.mono (by omega), hts.trans uz⟩
    · have hlI : ((l : Int) == 0) = false := by simp; omega
      go_wp2_with fail
      go_ret
      exact ⟨_, rfl, ⟨xs, hos, by omega⟩, hcs.mono (by omega), hts⟩
  · have CC := amongLit_any p (m + 2 + 2) [-1, 0, (nn : Int)] w4 c4 (by omega) (by simp) (by simp)
    simp only [List.map_cons, List.map_nil, List.length_cons, List.length_nil, Nat.zero_add, Nat.reduceAdd] at CC
    replace CC := Lib.hid CC
    go_wp2_with fail
    with_reducible refine Calls.mono CC.out ?_
    rintro e w5 ⟨z, rfl, _, c5, u5⟩
    clear CC
    have ho5 := own_low ho4 u5 (fun i hi => by omega)
    have t5 := t4.trans u5
    have hys2 : ys.length < 1048576 := by omega
    have hbs : w.heap.size ≤ w5.heap.size := t5.size
    clear ho4 c4 t4 u5
    obtain ⟨N6, hN6⟩ : ∃ N6, ys.length + 1 = N6 := ⟨_, rfl⟩
    have hl6 : (ys ++ [z]).length = N6 := by rw [List.length_append, ← hN6]; rfl
    have hlI : ((N6 : Int) == 0) = false := by simp; omega
    go_wp2_with (at_builtin; go_loud (refine wpl_app rfl (.tmp 20) (.tmp 25) rfl w.heap.size _ ys z rfl rfl ho5 hbs hys2 ?_); intro v6 w6 ho6 ht6 h46; have hcs := c5.turn ht6 (fun i hi e => by have := (ho5.lt i e).1; omega); have hts := tp_own t5 ht6 (fun i e => (ho5.lt i e).1); have hos := ho6; obtain ⟨A6, c6, hv6⟩ := ho6.shape; rw [hl6] at hv6; subst hv6)
    go_ret
    exact ⟨_, rfl, ⟨_, hos, by omega⟩, hcs.mono (by omega), hts⟩
set_option maxRecDepth 100000 in
set_option maxHeartbeats 1000000 in
theorem any_any (p m : Nat) (A : Option Addr) (n c : Nat) (B : Option Addr) (k d : Nat) (w : World) (hc : Cur w p m) (hm : m < 90000000) (hn : n ≤ 9223372036854775807) :
    Calls Try.prog 34 #[.pointer (some ⟨p, 0, none⟩), .agg #[.slice A n c, .slice B k d]] w fun e w' => ∃ v, e = .returned v ∧ DInts w' w.heap.size v ∧ Cur w' p (m + 40) ∧ Tp p w w' := by
  have hp := hc.lt
  have k0 : Kp w (w.alloc (.cells #[.slice A n c, .slice B k d] 27)) := (Kp.refl w).alloc _
  obtain ⟨d0, d1⟩ := box2 w (.slice A n c) (.slice B k d) 27
  have hbx : w.heap.size ≠ p := by omega
  have CP := Lib.hid (one_any p m 6 (w.alloc (.cells #[.slice A n c, .slice B k d] 27)) (hc.kp k0) (by omega) (by omega))
  go_enter Try.func34, Try.ntmps34
  go_wp2_with fail
  generalize w.alloc (.cells #[.slice A n c, .slice B k d] 27) = wa at *
  with_reducible refine Calls.mono CP.out ?_
  rintro e w1 ⟨b, rfl, c1, u1⟩
  clear CP
  have t1 : Tp p w w1 := (Turn.of_kp k0).trans u1
  have e0 := turn_cellD u1 d0 hbx
  have e1 := turn_cellD u1 d1 hbx
  cases b
  · have CS := Lib.hid (sites_any p (m + 2) A n c B k d w1 c1 (by omega) hn)
    go_wp2_with fail
    with_reducible refine Calls.mono CS.out ?_
    rintro e w2 ⟨v, rfl, hv, c2, u2⟩
    clear CS
    go_wp2_with fail
    go_ret
    exact ⟨_, rfl, hv.mono t1.size, c2.mono (by omega), t1.trans u2⟩
  · have hk : Kp w1 (w1.alloc (.cells #[] 3)) := (Kp.refl w1).alloc _
    have ho := own_new0 w1 w.heap.size t1.size
    go_wp2_with fail
    go_ret
    exact ⟨_, rfl, ⟨[], ho, by simp⟩, (c1.kp hk).mono (by omega), t1.trans (Turn.of_kp hk)⟩
end Go.Proofs.Ytinpcfhgcilmoaa

/- Sets as binary numbers, and as rising lists: plain words; Contracts of the functions on sets as binary numbers, and of searches in lists; The program's sum of a list; The service of a set: reference and program; Sums of numbers of some places: reference and program; Flows of least cost: the least cost, when there is a haul: plain words; A slice of the call's own: one slot read and written; one that was made; A table of numbers of the call's own, read and written; What stands in memory as a number; function values that tell which pairs may be; slices.Repeat of one number; Cells that are kept. No condition. -/
import Derived.Test.YtgdicmeabppngaaQAc
import Derived.Test.YtgdicmeabppngaaQAa
import Derived.IntWalk
import Derived.Test.YtgdicmeabppngaaQAf
import Derived.Test.YtgdicmeabppngaaQAd
import Derived.Laws.CopyOwn
import Derived.Deep.RegionLaw
import Derived.Deep.RegionHeld3
namespace Go.Proofs.Ytgdicmeabppngaa
open Go.RowKit Go.Sort

/-- The members below n of the set with the number b, rising. -/
def bitsN (n b : Nat) : List Nat := (List.range n).filter (fun x => b.testBit x)
def bitsL (n b : Nat) : List Int := (bitsN n b).map fun (x : Nat) => (x : Int)
theorem bitsN_succ (n b : Nat) : bitsN (n + 1) b = bitsN n b ++ if b.testBit n then [n] else [] := by
  unfold bitsN
  rw [List.range_succ, List.filter_append]
  by_cases h : b.testBit n = true <;> simp [h]
theorem bitsL_yes {n b : Nat} (h : b.testBit n = true) : bitsL (n + 1) b = bitsL n b ++ [(n : Int)] := by simp [bitsL, bitsN_succ, h]
theorem bitsL_no {n b : Nat} (h : b.testBit n = false) : bitsL (n + 1) b = bitsL n b := by simp [bitsL, bitsN_succ, h]
theorem bitsL_len (n b : Nat) : (bitsL n b).length ≤ n := by
  unfold bitsL bitsN
  rw [List.length_map]
  exact Nat.le_trans (List.length_filter_le _ _) (by simp)
theorem mem_bitsL {n b : Nat} {x : Int} : x ∈ bitsL n b ↔ 0 ≤ x ∧ x < n ∧ b.testBit x.toNat = true := by
  simp only [bitsL, bitsN, List.mem_map, List.mem_filter, List.mem_range]
  constructor
  · rintro ⟨k, ⟨h1, h2⟩, rfl⟩
    exact ⟨by omega, by omega, by simpa using h2⟩
  · rintro ⟨h0, h1, h2⟩
    exact ⟨x.toNat, ⟨by omega, h2⟩, by omega⟩
theorem bitsL_more {n m b : Nat} (h : b < 2 ^ n) (hm : n ≤ m) : bitsL m b = bitsL n b := by
  obtain ⟨d, rfl⟩ := Nat.le.dest hm
  clear hm
  induction d with
  | zero => rfl
  | succ d ih =>
    have hb : b.testBit (n + d) = false := Nat.testBit_lt_two_pow (Nat.lt_of_lt_of_le h (Nat.pow_le_pow_right (by omega) (by omega)))
    rw [show n + (d + 1) = n + d + 1 from rfl, bitsL_no hb]
    exact ih
/-- Strictly rising. -/
theorem bitsN_sorted (n b : Nat) : (bitsN n b).Pairwise (· < ·) := List.Pairwise.filter _ List.pairwise_lt_range
theorem bitsL_sorted (n b : Nat) : (bitsL n b).Pairwise (· < ·) := by
  unfold bitsL
  rw [List.pairwise_map]
  exact (bitsN_sorted n b).imp (fun h => by omega)
/-- A rising list within bounds is a set, and the other way round. -/
theorem ris_iff {xs : List Int} {lo hi : Int} : risB xs lo hi = true ↔ xs.Pairwise (· < ·) ∧ ∀ x ∈ xs, lo ≤ x ∧ x ≤ hi := by
  constructor
  · intro h
    have hk : ∀ k, k < xs.length → okR xs lo hi k = true := fun k hk => List.all_eq_true.1 h k (by simpa using hk)
    refine ⟨?_, fun x hx => ?_⟩
    · rw [List.pairwise_iff_getElem]
      intro i j hi' hj hij
      have adj : ∀ k, (hd : k + 1 < xs.length) → xs[k] < xs[k + 1] := fun k hd => by
        have h1 := hk (k + 1) hd
        have hb : inB xs[k + 1] lo hi = true := by simp only [okR, Bool.and_eq_true] at h1; simpa [List.getD, hd] using h1.1
        rw [okR_succ hd (by omega) hb] at h1
        simpa using h1
      have step : ∀ d, (hd : i + d + 1 < xs.length) → xs[i] < xs[i + d + 1] := by
        intro d
        induction d with
        | zero => intro hd; exact adj i hd
        | succ d ih => intro hd; exact Int.lt_trans (ih (by omega)) (adj (i + d + 1) hd)
      obtain ⟨d, rfl⟩ : ∃ d, j = i + d + 1 := ⟨j - i - 1, by omega⟩
      exact step d hj
    · obtain ⟨k, hk', rfl⟩ := List.getElem_of_mem hx
      have h1 := hk k hk'
      simp only [okR, Bool.and_eq_true] at h1
      simpa [List.getD, hk', inB_iff] using h1.1
  · rintro ⟨h1, h2⟩
    rw [risB, List.all_eq_true]
    intro k hk
    have hk' : k < xs.length := by simpa using hk
    have hb := inB_iff.2 (h2 _ (List.getElem_mem hk'))
    by_cases h0 : 0 < k
    · rw [okR_succ hk' h0 hb]
      simpa using List.pairwise_iff_getElem.1 h1 (k - 1) k (by omega) hk' (by omega)
    · exact okR_zero hk' h0 hb
theorem bitsL_ris (n b : Nat) (hi : Int) (h : (n : Int) - 1 ≤ hi) : risB (bitsL n b) 0 hi = true := by
  rw [ris_iff]
  refine ⟨bitsL_sorted n b, fun x hx => ?_⟩
  obtain ⟨h0, h1, _⟩ := mem_bitsL.1 hx
  omega
theorem bitsL_set {F : Fld} (b : Nat) : setB F (bitsL F.op.length b) = true := bitsL_ris _ _ _ (Int.le_refl _)
/-- Two rising lists with the same members are the same. -/
theorem rising_ext : ∀ {xs ys : List Int}, xs.Pairwise (· < ·) → ys.Pairwise (· < ·) → (∀ x, x ∈ xs ↔ x ∈ ys) → xs = ys
  | [], [], _, _, _ => rfl
  | [], y :: ys, _, _, h => by have := (h y).2 (by simp); cases this
  | x :: xs, [], _, _, h => by have := (h x).1 (by simp); cases this
  | x :: xs, y :: ys, hx, hy, h => by
    rw [List.pairwise_cons] at hx hy
    have e : x = y := by
      have h1 := (h x).1 (by simp)
      have h2 := (h y).2 (by simp)
      rcases List.mem_cons.1 h1 with e | h1
      · exact e
      rcases List.mem_cons.1 h2 with e | h2
      · exact e.symm
      have := hx.1 y h2
      have := hy.1 x h1
      omega
    subst e
    refine congrArg (x :: ·) (rising_ext hx.2 hy.2 (fun z => ?_))
    constructor
    · intro hz
      rcases List.mem_cons.1 ((h z).1 (by simp [hz])) with e | hz'
      · subst e; have := hx.1 z hz; omega
      · exact hz'
    · intro hz
      rcases List.mem_cons.1 ((h z).2 (by simp [hz])) with e | hz'
      · subst e; have := hy.1 z hz; omega
      · exact hz'
/-- The number of a list. -/
def bagTo (b : Nat) (S : List Int) : Nat := S.foldl (fun b x => b ||| 2 ^ x.toNat) b
def bagN (S : List Int) : Nat := bagTo 0 S
theorem bagTo_bit (x : Nat) : ∀ (S : List Int) (b : Nat), (∀ y ∈ S, 0 ≤ y) → (bagTo b S).testBit x = (b.testBit x || decide ((x : Int) ∈ S))
  | [], b, _ => by simp [bagTo]
  | y :: S, b, h => by
    have ih := bagTo_bit x S (b ||| 2 ^ y.toNat) (fun z hz => h z (by simp [hz]))
    have h0 := h y (by simp)
    simp only [bagTo, List.foldl_cons] at ih ⊢
    rw [ih, Nat.testBit_or, Nat.testBit_two_pow]
    by_cases e : y.toNat = x
    · have : (x : Int) = y := by omega
      simp [e, this]
    · have : ¬ (x : Int) = y := by omega
      simp [e, this]
theorem bagN_bit {S : List Int} (h : ∀ y ∈ S, 0 ≤ y) (x : Nat) : (bagN S).testBit x = decide ((x : Int) ∈ S) := by
  rw [bagN, bagTo_bit x S 0 h]; simp
theorem bagTo_lt {n : Nat} : ∀ (S : List Int) (b : Nat), b < 2 ^ n → (∀ y ∈ S, 0 ≤ y ∧ y < n) → bagTo b S < 2 ^ n
  | [], b, hb, _ => hb
  | y :: S, b, hb, h => by
    have h0 := h y (by simp)
    exact bagTo_lt S _ (Nat.or_lt_two_pow hb (Nat.pow_lt_pow_right (by omega) (by omega))) (fun z hz => h z (by simp [hz]))
theorem bagN_lt {n : Nat} {S : List Int} (h : ∀ y ∈ S, 0 ≤ y ∧ y < n) : bagN S < 2 ^ n := bagTo_lt S 0 (Nat.two_pow_pos n) h
/-- A set's number leads back to it. -/
theorem bits_bag {n : Nat} {S : List Int} (hs : S.Pairwise (· < ·)) (h : ∀ y ∈ S, 0 ≤ y ∧ y < n) : bitsL n (bagN S) = S := by
  refine rising_ext (bitsL_sorted _ _) hs (fun x => ?_)
  rw [mem_bitsL]
  constructor
  · rintro ⟨h0, h1, h2⟩
    rw [bagN_bit (fun y hy => (h y hy).1)] at h2
    have e : ((x.toNat : Nat) : Int) = x := by omega
    rw [e] at h2
    simpa using h2
  · intro hx
    obtain ⟨h0, h1⟩ := h x hx
    refine ⟨h0, h1, ?_⟩
    rw [bagN_bit (fun y hy => (h y hy).1)]
    have e : ((x.toNat : Nat) : Int) = x := by omega
    rw [e]; simpa using hx
theorem set_bits {F : Fld} {S : List Int} (h : setB F S = true) : bitsL F.op.length (bagN S) = S := bits_bag (ris_iff.1 h).1 (set_mem h)

/-- A number put into a rising list. -/
def putL (S : List Int) (a : Int) : List Int := if a ∈ S then S else S.takeWhile (· < a) ++ a :: S.dropWhile (· < a)
end Go.Proofs.Ytgdicmeabppngaa

namespace Go.Proofs.Ytgdicmeabppngaa
open Go.RowKit Go.Sort

theorem ofInt_u64 (a : Nat) (ha : a < 18446744073709551616) : (BitVec.ofInt 64 (a : Int)).toNat = a := by
  rw [BitVec.ofInt_natCast, BitVec.toNat_ofNat]; exact Nat.mod_eq_of_lt ha
theorem u64_and_nat (a b : Nat) (ha : a < 18446744073709551616) (hb : b < 18446744073709551616) : bits .and .u64 (a : Int) (b : Int) = ((a &&& b : Nat) : Int) := by
  have hx : a &&& b < 2 ^ 64 := Nat.and_lt_two_pow _ (by omega)
  show IntKind.u64.wrap ((BitVec.ofInt 64 (a : Int) &&& BitVec.ofInt 64 (b : Int)).toNat : Int) = _
  rw [BitVec.toNat_and, ofInt_u64 a ha, ofInt_u64 b hb, IntKind.wrap_u64]
  omega
theorem u64_or_nat (a b : Nat) (ha : a < 18446744073709551616) (hb : b < 18446744073709551616) : bits .or .u64 (a : Int) (b : Int) = ((a ||| b : Nat) : Int) := by
  have hx : a ||| b < 2 ^ 64 := Nat.or_lt_two_pow (by omega) (by omega)
  show IntKind.u64.wrap ((BitVec.ofInt 64 (a : Int) ||| BitVec.ofInt 64 (b : Int)).toNat : Int) = _
  rw [BitVec.toNat_or, ofInt_u64 a ha, ofInt_u64 b hb, IntKind.wrap_u64]
  omega
theorem div_pow_nat (b x : Nat) : ((b : Int) / 2 ^ x) = ((b / 2 ^ x : Nat) : Int) := by
  rw [Int.natCast_ediv]; simp
theorem bit_one (b x : Nat) : (((b / 2 ^ x &&& 1 : Nat) : Int) == 1) = b.testBit x := by
  rw [Nat.testBit_eq_decide_div_mod_eq, Nat.and_one_is_mod]
  generalize b / 2 ^ x % 2 = r
  rw [Bool.eq_iff_iff, beq_iff_eq, decide_eq_true_eq]
  constructor <;> intro h <;> omega
theorem u64_has (b x : Nat) (hb : b < 18446744073709551616) : (bits BinOp.and IntKind.u64 ((b : Int) / 2 ^ x) 1 == 1) = b.testBit x := by
  have h : b / 2 ^ x < 18446744073709551616 := Nat.lt_of_le_of_lt (Nat.div_le_self _ _) hb
  have := u64_and_nat (b / 2 ^ x) 1 h (by omega)
  rw [div_pow_nat, show (1 : Int) = ((1 : Nat) : Int) from rfl, this]
  exact bit_one b x
theorem i64_has (b x : Nat) (hb : b < 9223372036854775808) : (bits BinOp.and IntKind.i64 ((b : Int) / 2 ^ x) 1 == 1) = b.testBit x := by
  have h : b / 2 ^ x < 9223372036854775808 := Nat.lt_of_le_of_lt (Nat.div_le_self _ _) hb
  have := i64_and_nat (b / 2 ^ x) 1 h (by omega)
  rw [div_pow_nat, show (1 : Int) = ((1 : Nat) : Int) from rfl, this]
  exact bit_one b x
theorem u64_one_shl (a : Int) (h0 : 0 ≤ a) (h1 : a < 32) : IntKind.u64.wrap (2 ^ a.toNat) = ((2 ^ a.toNat : Nat) : Int) := by
  have h : 2 ^ a.toNat ≤ 2 ^ 31 := Nat.pow_le_pow_right (by omega) (by omega)
  have h2 : ((2 ^ a.toNat : Nat) : Int) = 2 ^ a.toNat := by simp
  rw [← h2, IntKind.wrap_u64]
  generalize 2 ^ a.toNat = q at h
  omega
theorem bag_next {S : List Int} {k : Nat} (hk : k < S.length) : bagN (S.take (k + 1)) = bagN (S.take k) ||| 2 ^ (S[k]).toNat := by
  rw [List.take_succ_eq_append_getElem hk, bagN, bagTo, List.foldl_append]; rfl

theorem has_any (b x : Nat) (w : World) (hb : b < 18446744073709551616) (hx : x < 64) :
    Calls Try.prog 50 #[.int .u64 b, .int .i64 x] w fun e w' => e = .returned (.bool (b.testBit x)) ∧ w = w' := by
  go_enter Try.func50, Try.ntmps50
  have H := Lib.hid (u64_has b x hb)
  go_wp2_with fail
  go_ret
  exact ⟨ret_bool H.out, rfl⟩

theorem bagOf_any (A0 : Option Addr) (S : List Int) (n c0 : Nat) (w : World) (hS : IntsAt w A0 S) (hn : S.length = n) (hb : ∀ x ∈ S, 0 ≤ x ∧ x < 32) :
    Calls Try.prog 48 #[.slice A0 n c0] w fun e w' => e = .returned (.int .u64 (bagN S)) ∧ w = w' := by
  have hm : n ≤ 9223372036854775807 := hn ▸ hS.1
  have Hn := Lib.hid hn; clear hn
  have HB := Lib.hid hb; clear hb
  go_enter Try.func48, Try.ntmps48
  go_wp2_with fail
  go_loop [3, 8] (fun bv iv => ∃ k : Nat, k ≤ n ∧ iv = .int .i64 k ∧ bv = .int .u64 (bagN (S.take k))) (fun _ iv => n - (intOf iv).toNat)
  case atStart => exact ⟨0, by omega, rfl, rfl⟩
  case round =>
    obtain ⟨k, hk, rfl, rfl⟩ := hrel
    by_cases hlt : k < n
    · have lx : k < S.length := by rw [Hn.out]; exact hlt
      obtain ⟨ad, rfl, hc⟩ := hS.at_ lx
      obtain ⟨s0, s1⟩ := HB.out _ (List.getElem_mem lx)
      have hlt32 : bagN (S.take k) < 2 ^ 32 := bagN_lt (fun y hy => HB.out y (List.mem_of_mem_take hy))
      have hp : 2 ^ (S[k]).toNat < 2 ^ 32 := Nat.pow_lt_pow_right (by omega) (by omega)
      have HS := Lib.hid (show bits BinOp.or IntKind.u64 (bagN (S.take k) : Int) (IntKind.u64.wrap (2 ^ (S[k]).toNat)) = (bagN (S.take (k + 1)) : Int) from by
        rw [u64_one_shl _ s0 s1, u64_or_nat _ _ (by omega) (by omega), bag_next lx])
      go_wp2_with fail
      go_round
      case rel => exact ⟨k + 1, by omega, by go_num, by rw [HS.out]⟩
      case measure => simp [intOf]; omega
    · go_wp2_with fail
      go_ret
      exact ⟨ret_int (by rw [List.take_of_length_le (by rw [Hn.out]; omega)]), rfl⟩

set_option maxRecDepth 100000 in
set_option maxHeartbeats 1000000 in
theorem l2Bits_any (n b : Nat) (w : World) (hn : n ≤ 32) (hb : b < 4294967296) :
    Calls Try.prog 67 #[.int .i64 n, .int .i64 b] w fun e w' => ∃ v, e = .returned v ∧ Own w' w.heap.size v (bitsL n b) ∧ Kp w w' := by
  go_enter Try.func67, Try.ntmps67
  go_wp2_with fail
  go_loopw [5, 6] (fun ov iv wr => ∃ k : Nat, k ≤ n ∧ iv = .int .i64 k ∧ Own wr w.heap.size ov (bitsL k b) ∧ Kp w wr) (fun _ iv _ => n - (intOf iv).toNat)
  case atStart => exact ⟨0, by omega, rfl, own_new0 _ _ (Nat.le_refl _), (Kp.refl _).alloc _⟩
  case round =>
    obtain ⟨k, hk, rfl, ho, hkp⟩ := hrel
    by_cases hlt : k < n
    · have H := Lib.hid (i64_has b k (by omega))
      have hlen := bitsL_len k b
      have hlen2 : (bitsL k b).length < 1048576 := by omega
      cases ht : b.testBit k
      · have Ht := Lib.hid (H.out.trans ht)
        have Hno := Lib.hid (bitsL_no ht)
        have Hb2 := Ht.out
        clear ht H
        go_wp2_with fail
        go_roundw
        case rel => exact ⟨k + 1, by omega, by go_num, by rw [Hno.out]; exact ho, hkp⟩
        case measure => simp [intOf]; omega
      · have Ht := Lib.hid (H.out.trans ht)
        have Hyes := Lib.hid (bitsL_yes ht)
        have Hb2 := Ht.out
        clear ht H
        go_wp2_with (at_builtin; refine wpl_app rfl (.tmp 18) (.tmp 20) rfl w.heap.size _ (bitsL k b) k rfl rfl ho hkp.le hlen2 ?_; intro v' w' ho' ht' _; have hk4 := ho.kp_turn hkp (Nat.le_refl _) ht')
        go_roundw
        case rel => exact ⟨k + 1, by omega, by go_num, by rw [Hyes.out]; exact ho', hk4⟩
        case measure => simp [intOf]; omega
    · obtain rfl : k = n := by omega
      go_wp2_with fail
      go_ret
      exact ⟨_, rfl, ho, hkp⟩

/-- The members of a set, rising. -/
theorem div_pow_pos {b x n : Nat} (h : 0 < b / 2 ^ x) (hb : b < 2 ^ n) : x < n := by
  rcases Nat.lt_or_ge x n with h1 | h1
  · exact h1
  · have h2 : 2 ^ n ≤ 2 ^ x := Nat.pow_le_pow_right (by omega) h1
    rw [Nat.div_eq_of_lt (by omega)] at h; omega
theorem div_pow_zero {b x : Nat} (h : ¬ 0 < b / 2 ^ x) : b < 2 ^ x := by
  rcases Nat.lt_or_ge b (2 ^ x) with h1 | h1
  · exact h1
  · have := Nat.div_pos h1 (Nat.two_pow_pos x); omega

/-- A number sought in a list. -/
def idxTo (S : List Int) (a : Int) (k : Nat) : Bool := (S.take k).any (fun x => x == a)
set_option maxHeartbeats 400000 in
theorem l1Has_any (A0 : Option Addr) (S : List Int) (n c0 : Nat) (a : Int) (w : World) (hS : IntsAt w A0 S) (hn : S.length = n) :
    Calls Try.prog 46 #[.slice A0 n c0, .int .i64 a] w fun e w' => e = .returned (.bool (S.any (fun x => x == a))) ∧ w = w' := by
  have hm : n ≤ 9223372036854775807 := hn ▸ hS.1
  have Hn := Lib.hid hn; clear hn
  go_enter Try.func46, Try.ntmps46
  go_wp2_with fail
  go_loop [5] (fun iv => ∃ k : Nat, k ≤ n ∧ iv = .int .i64 k ∧ Hid ((S.take k).any (fun x => x == a) = false)) (fun iv => n - (intOf iv).toNat)
  case atStart => exact ⟨0, by omega, rfl, rfl⟩
  case round =>
    obtain ⟨k, hk, rfl, Hp⟩ := hrel
    by_cases hlt : k < n
    · have lx : k < S.length := by rw [Hn.out]; exact hlt
      obtain ⟨ad, rfl, hc⟩ := hS.at_ lx
      cases ht : (S[k] == a)
      · have Ht := Lib.hid ht
        go_wp2_with fail
        go_round
        case rel => exact ⟨k + 1, by omega, by go_num, any_take_succ Hp.out lx Ht.out⟩
        case measure => simp [intOf]; omega
      · have Ht := Lib.hid ht
        go_wp2_with fail
        go_ret
        exact ⟨ret_bool (any_of (p := fun x => x == a) lx Ht.out).symm, rfl⟩
    · go_wp2_with fail
      go_ret
      refine ⟨ret_bool ?_, rfl⟩
      have hp := Hp.out
      rw [List.take_of_length_le (by rw [Hn.out]; omega)] at hp
      exact hp.symm
end Go.Proofs.Ytgdicmeabppngaa

namespace Go.Proofs.Ytgdicmeabppngaa
open Go.RowKit Go.Sort

end Go.Proofs.Ytgdicmeabppngaa

namespace Go.Proofs.Ytgdicmeabppngaa
open Go.RowKit Go.Sort

/-- The service of a set. -/
def serveF (F : Fld) (T : List Int) : Int := sumTo (fun i => nearF F i T) F.di.length
theorem serveF_bd {F : Fld} (h : goodF F = true) (T : List Int) : 0 ≤ serveF F T ∧ serveF F T ≤ 693 := by
  have h1 := sumTo_bd (g := fun i => nearF F i T) (b := 99) (fun i => nearF_bd h T i) F.di.length
  have h7 := (goodF_iff.1 h).2.2.1
  unfold serveF; omega
theorem mapTo_take (g : Nat → Int) (n k : Nat) (h : k ≤ n) : (mapTo g n).take k = mapTo g k := by
  induction n with
  | zero => obtain rfl : k = 0 := by omega
            rfl
  | succ n ih =>
    by_cases e : k = n + 1
    · subst e; rw [List.take_of_length_le (by rw [mapTo_len]; omega)]
    · rw [mapTo_succ, List.take_append_of_le_length (by rw [mapTo_len]; omega)]
      exact ih (by omega)
theorem mem_mapTo {g : Nat → Int} {x : Int} : ∀ {n : Nat}, x ∈ mapTo g n → ∃ i, i < n ∧ x = g i
  | 0, h => by cases h
  | n + 1, h => by
    rw [mapTo_succ, List.mem_append] at h
    rcases h with h | h
    · obtain ⟨i, hi, e⟩ := mem_mapTo h
      exact ⟨i, by omega, e⟩
    · exact ⟨n, by omega, by simpa using h⟩
end Go.Proofs.Ytgdicmeabppngaa

namespace Go.Proofs.Ytgdicmeabppngaa
open Go.RowKit Go.Sort

def numAt (xs : List Int) (a : Int) : Int := xs.getD a.toNat 0
def roomTo (xs C : List Int) (k : Nat) : Int := ((C.take k).map (numAt xs)).sum
def roomS (xs C : List Int) : Int := (C.map (numAt xs)).sum
theorem roomTo_succ {xs C : List Int} {k : Nat} (hk : k < C.length) : roomTo xs C (k + 1) = roomTo xs C k + numAt xs C[k] := by
  unfold roomTo
  rw [List.take_succ_eq_append_getElem hk, List.map_append, List.sum_append]; simp
theorem roomTo_all {xs C : List Int} {k : Nat} (hk : C.length ≤ k) : roomTo xs C k = roomS xs C := by
  unfold roomTo roomS
  rw [List.take_of_length_le hk]
theorem numAt_bd {xs : List Int} {M : Int} (hM : 0 ≤ M) (h : ∀ x ∈ xs, -M ≤ x ∧ x ≤ M) (a : Int) : -M ≤ numAt xs a ∧ numAt xs a ≤ M := by
  unfold numAt
  by_cases hk : a.toNat < xs.length
  · have e : xs.getD a.toNat 0 = xs[a.toNat] := by simp [List.getD, hk]
    rw [e]; exact h _ (List.getElem_mem hk)
  · rw [List.getD_eq_getElem?_getD, List.getElem?_eq_none (by omega)]; simp; omega
theorem roomTo_bd {xs C : List Int} {M : Int} (hM : 0 ≤ M) (hM9 : M ≤ 100000) (h : ∀ x ∈ xs, -M ≤ x ∧ x ≤ M) : ∀ k, k ≤ C.length → -(k * 100000) ≤ roomTo xs C k ∧ roomTo xs C k ≤ k * 100000
  | 0, _ => by simp [roomTo]
  | k + 1, hk => by
    have h1 := roomTo_bd (C := C) hM hM9 h k (by omega)
    have h2 := numAt_bd hM h (C[k]'(by omega))
    rw [roomTo_succ (show k < C.length by omega)]; omega
theorem roomS_bd {xs C : List Int} {M : Int} (hM : 0 ≤ M) (hM9 : M ≤ 100000) (h : ∀ x ∈ xs, -M ≤ x ∧ x ≤ M) (hl : C.length ≤ 7) : -700000 ≤ roomS xs C ∧ roomS xs C ≤ 700000 := by
  have := roomTo_bd (C := C) hM hM9 h C.length (Nat.le_refl _)
  rw [roomTo_all (Nat.le_refl _)] at this
  omega
theorem numCell {w : World} {ad : Addr} {xs : List Int} {a : Int} (h : IntsAt w (some ad) xs) (h0 : 0 ≤ a) (h1 : a < xs.length) : w.cell? (ad.add a.toNat) = some (.int .i64 (numAt xs a)) := by
  have hk : a.toNat < xs.length := by omega
  rw [h.some_ hk]
  simp [numAt, List.getD, hk]
theorem l7Room_any (A1 : Option Addr) (xs : List Int) (n1 c1 : Nat) (A2 : Option Addr) (C : List Int) (n c0 : Nat) (M : Int) (w : World) (h1 : IntsAt w A1 xs) (hn1 : xs.length = n1) (h2 : IntsAt w A2 C) (hn : C.length = n) (hc : ∀ x ∈ C, 0 ≤ x ∧ x < n1) (hl : n ≤ 7) (hM : 0 ≤ M) (hM9 : M ≤ 100000) (hb : ∀ x ∈ xs, -M ≤ x ∧ x ≤ M) :
    Calls Try.prog 44 #[.slice A1 n1 c1, .slice A2 n c0] w fun e w' => e = .returned (.int .i64 (roomS xs C)) ∧ w = w' := by
  have hm1 : n1 ≤ 9223372036854775807 := hn1 ▸ h1.1
  have Hn1 := Lib.hid hn1; have Hn := Lib.hid hn
  have HC := Lib.hid hc
  have HB := Lib.hid (fun k (hk : k ≤ C.length) => roomTo_bd (C := C) hM hM9 hb k hk)
  have HN := Lib.hid (fun a => numAt_bd hM hb a)
  clear hn1 hn hc hb
  go_enter Try.func44, Try.ntmps44
  go_wp2_with fail
  go_loop [5, 6] (fun sv iv => ∃ k : Nat, k ≤ n ∧ iv = .int .i64 k ∧ sv = .int .i64 (roomTo xs C k)) (fun _ iv => n - (intOf iv).toNat)
  case atStart => exact ⟨0, by omega, rfl, rfl⟩
  case round =>
    obtain ⟨k, hk, rfl, rfl⟩ := hrel
    by_cases hlt : k < n
    · have lx : k < C.length := by rw [Hn.out]; exact hlt
      obtain ⟨sd, rfl, hck⟩ := h2.at_ lx
      obtain ⟨ha0, ha1⟩ := HC.out _ (List.getElem_mem lx)
      obtain ⟨rd, rfl, _⟩ := h1.at_ (k := 0) (by rw [Hn1.out]; omega)
      have hnc := numCell h1 ha0 (by rw [Hn1.out]; exact ha1)
      have hsu := Lib.hid (roomTo_succ (xs := xs) lx)
      obtain ⟨b1, b2⟩ := HB.out k (Nat.le_of_lt lx)
      obtain ⟨b3, b4⟩ := HN.out C[k]
      generalize numAt xs C[k] = q at *
      generalize roomTo xs C k = p at *
      go_wp2_with fail
      go_round
      case rel => exact ⟨k + 1, by omega, by go_num, by rw [hsu.out] <;> go_num⟩
      case measure => simp [intOf]; omega
    · go_wp2_with fail
      go_ret
      exact ⟨ret_int (by rw [roomTo_all (by rw [Hn.out]; omega)]), rfl⟩
end Go.Proofs.Ytgdicmeabppngaa

namespace Go.Proofs.Ytgdicmeabppngaa
open Go.RowKit Go.Sort

structure IsLst (J M : Nat) (d : Nat → Nat → Int) (may : Nat → Nat → Bool) (nd rm : Nat → Int) (c : Int) : Prop where
  some_ : ∃ x, Haul J M may nd rm x ∧ costT J M d x = c
  all_ : ∀ x, Haul J M may nd rm x → c ≤ costT J M d x
theorem IsLst.uniq {J M : Nat} {d : Nat → Nat → Int} {may : Nat → Nat → Bool} {nd rm : Nat → Int} {c c' : Int} (h : IsLst J M d may nd rm c) (h' : IsLst J M d may nd rm c') : c = c' := by
  obtain ⟨x, hx, rfl⟩ := h.some_
  obtain ⟨y, hy, rfl⟩ := h'.some_
  have := h.all_ y hy; have := h'.all_ x hx
  omega
open Classical in
/-- The least cost, if there is one. -/
noncomputable def lstC (J M : Nat) (d : Nat → Nat → Int) (may : Nat → Nat → Bool) (nd rm : Nat → Int) : Int := if h : ∃ c, IsLst J M d may nd rm c then Classical.choose h else 0
theorem lst_eq {J M : Nat} {d : Nat → Nat → Int} {may : Nat → Nat → Bool} {nd rm : Nat → Int} {c : Int} (h : IsLst J M d may nd rm c) : lstC J M d may nd rm = c := by
  have he : ∃ c, IsLst J M d may nd rm c := ⟨c, h⟩
  rw [lstC, dif_pos he]
  exact (Classical.choose_spec he).uniq h
/-- Is there a haul. -/
def CanH (J M : Nat) (may : Nat → Nat → Bool) (nd rm : Nat → Int) : Prop := ∃ x, Haul J M may nd rm x
theorem haul_congr {J M : Nat} {may may' : Nat → Nat → Bool} {nd nd' rm rm' : Nat → Int} (hm : ∀ j a, j < J → a < M → may j a = may' j a) (hn : ∀ j, j < J → nd j = nd' j) (hr : ∀ a, a < M → (∀ j, j < J → may j a = false) ∨ rm a = rm' a) (h0 : ∀ a, a < M → 0 ≤ rm' a) {x : Nat → Nat → Int} (h : Haul J M may nd rm x) : Haul J M may' nd' rm' x := by
  refine ⟨h.nn, fun j a hj ha hp => by rw [← hm j a hj ha]; exact h.may j a hj ha hp, fun j hj => by rw [← hn j hj]; exact h.row j hj, fun a ha => ?_⟩
  rcases hr a ha with h1 | h1
  · have : colT J x a = 0 := by
      have e : colT J x a = sumTo (fun _ => 0) J := sumTo_congr (fun j hj => by
        have := h.nn j a hj ha
        by_cases hp : 0 < x j a
        · have := h.may j a hj ha hp; rw [h1 j hj] at this; cases this
        · omega)
      rw [e, sumTo_c0]
    rw [this]; exact h0 a ha
  · rw [← h1]; exact h.col a ha
theorem lst_congr {J M : Nat} {d d' : Nat → Nat → Int} {may may' : Nat → Nat → Bool} {nd nd' rm rm' : Nat → Int} (hd : ∀ j a, j < J → a < M → d j a = d' j a) (hm : ∀ j a, j < J → a < M → may j a = may' j a) (hn : ∀ j, j < J → nd j = nd' j) (hr : ∀ a, a < M → (∀ j, j < J → may j a = false) ∨ rm a = rm' a) (h0 : ∀ a, a < M → 0 ≤ rm a) (h0' : ∀ a, a < M → 0 ≤ rm' a) {c : Int} (h : IsLst J M d may nd rm c) : IsLst J M d' may' nd' rm' c := by
  have e : ∀ x, costT J M d x = costT J M d' x := fun x => sumTo_congr (fun j hj => sumTo_congr (fun a ha => by rw [hd j a hj ha]))
  have hb : ∀ a, a < M → (∀ j, j < J → may' j a = false) ∨ rm' a = rm a := fun a ha => by
    rcases hr a ha with h1 | h1
    · exact .inl fun j hj => by rw [← hm j a hj ha]; exact h1 j hj
    · exact .inr h1.symm
  constructor
  · obtain ⟨x, hx, h1⟩ := h.some_
    exact ⟨x, haul_congr hm hn hr h0' hx, by rw [← e]; exact h1⟩
  · intro x hx
    rw [← e]
    exact h.all_ x (haul_congr (fun j a hj ha => (hm j a hj ha).symm) (fun j hj => (hn j hj).symm) hb h0 hx)
/-- A haul needs room for all needs. -/
theorem haul_room {J M : Nat} {may : Nat → Nat → Bool} {nd rm : Nat → Int} {x : Nat → Nat → Int} (h : Haul J M may nd rm x) (sA : Nat → Bool) (hs : ∀ j a, j < J → a < M → may j a = true → sA a = true) : sumTo nd J ≤ sumTo (fun a => if sA a = true then rm a else 0) M := by
  have e1 : sumTo nd J = sumTo (colT J x) M := by rw [tot]; exact sumTo_congr (fun j hj => (h.row j hj).symm)
  rw [e1]
  refine sumTo_mono' (fun a ha => ?_)
  by_cases hA : sA a = true
  · rw [if_pos hA]; exact h.col a ha
  · rw [if_neg hA]
    have e : colT J x a = sumTo (fun _ => 0) J := sumTo_congr (fun j hj => by
      have := h.nn j a hj ha
      by_cases hp : 0 < x j a
      · exact absurd (hs j a hj ha (h.may j a hj ha hp)) hA
      · omega)
    rw [e, sumTo_c0]; exact Int.le_refl _
/-- Where every site of a set is full, no more than its rooms are sent. -/
theorem full_no {J M : Nat} {d : Nat → Nat → Int} {may : Nat → Nat → Bool} {rm lf nd : Nat → Int} {f : Nat → Nat → Int} {j0 : Nat} (hn : Net J M d may rm f lf) (sA : Nat → Bool) (hful : ∀ a, a < M → sA a = true → lf a = 0) (hr : ∀ j, j < J → rowS M f j ≤ nd j) (hj0 : j0 < J) (h0 : rowS M f j0 < nd j0) :
    sumTo (fun a => if sA a = true then rm a else 0) M < sumTo nd J := by
  have h1 : sumTo (fun a => if sA a = true then rm a else 0) M ≤ sumTo (colT J f) M := sumTo_mono' (fun a ha => by
    by_cases hA : sA a = true
    · rw [if_pos hA]; have := hn.col a ha; have := hful a ha hA; omega
    · rw [if_neg hA]; exact sumTo_nn (fun j hj => hn.nn j a hj ha))
  have h2 : sumTo (rowS M f) J < sumTo nd J := sumTo_lt hr hj0 h0
  rw [tot] at h1
  omega
end Go.Proofs.Ytgdicmeabppngaa

namespace Go.Proofs.Ytgdicmeabppngaa
open Go.RowKit Go.Sort

/-- A slot of a slice of the call's own: read and written. -/
theorem Own.slot {w : World} {base g n cap j : Nat} {xs : List Int} (h : Own w base (.slice (some ⟨g, 0, none⟩) n cap) xs) (hn : xs.length = n) (hj : j < n) :
    w.cell? ⟨g, j, none⟩ = some (.int .i64 (xs.getD j 0)) ∧ w.frozen? ⟨g, j, none⟩ = false ∧
    ∀ z : Int, Own (w.setCell ⟨g, j, none⟩ (.int .i64 z)) base (.slice (some ⟨g, 0, none⟩) n cap) (xs.set j z) ∧ Turn (fun i => i = g) w (w.setCell ⟨g, j, none⟩ (.int .i64 z)) := by
  have h' : w.ownsRow base 3 1 (.slice (some ⟨g, 0, none⟩) n cap) n (xs.map (Value.int .i64)) := by
    have := h; unfold Own at this; rw [hn] at this; exact this
  refine ⟨?_, h'.frozenAt j, fun z => ?_⟩
  · rw [h'.cellAt j (by omega), List.getElem?_map]
    have : j < xs.length := by omega
    simp [List.getD, this]
  · have hs := h'.stored j (.int .i64 z)
    refine ⟨?_, (Turn.of_grown hs.2).mono (fun i hi => by simpa using hi.symm)⟩
    have h2 := hs.1
    rw [← List.map_set] at h2
    unfold Own
    rw [List.length_set, hn]; exact h2
/-- A slot of a slice of the call's own: read, written, and written while another such slice stays. -/
theorem Own.slotL {w : World} {base g n cap j : Nat} {xs : List Int} (h : Own w base (.slice (some ⟨g, 0, none⟩) n cap) xs) (hn : xs.length = n) (hj : j < n) :
    w.cell? ⟨g, j, none⟩ = some (.int .i64 (lget xs j)) ∧ w.frozen? ⟨g, j, none⟩ = false ∧
    ∀ z : Int, Own (w.setCell ⟨g, j, none⟩ (.int .i64 z)) base (.slice (some ⟨g, 0, none⟩) n cap) (xs.set j z) ∧ Turn (fun i => i = g) w (w.setCell ⟨g, j, none⟩ (.int .i64 z)) := h.slot hn hj
theorem Own.not_block {w w' : World} {base g n cap : Nat} {v : Value} {xs : List Int} (h : Own w base v xs) (ha : Apart v (.slice (some ⟨g, 0, none⟩) n cap)) (ht : Turn (fun i => i = g) w w') : Own w' base v xs :=
  h.turn ht (fun k hk e => ha k hk (by subst e; rfl))
theorem Own.at0 {w : World} {base n : Nat} {v : Value} {xs : List Int} (h : Own w base v xs) (hn : xs.length = n) (hp : 0 < n) : ∃ g cap, v = .slice (some ⟨g, 0, none⟩) n cap := by
  rcases h.2 with ⟨_, h0⟩ | ⟨g, cap, cur, e, _⟩
  · omega
  · exact ⟨g, cap, by rw [e, hn]⟩
def sLen : Value → Nat
  | .slice _ n _ => n
  | _ => 0
theorem own_made (w : World) (base n : Nat) (hb : base ≤ w.heap.size) (hn : n ≤ 1048576) : Own (w.alloc (.cells (madeCells #[.int .i64 0] n) 3)) base (.slice (some ⟨w.heap.size, 0, none⟩) n n) (List.replicate n 0) := by
  have hr : IntRow (w.alloc (.cells (madeCells #[.int .i64 0] n) 3)) w.heap.size (List.replicate n 0) := by
    unfold IntRow
    rw [List.length_replicate]
    exact (World.rowIs_made w (.int .i64 0) n 3).congr (fun i hi => by simp [List.getD, hi])
  have := Own.of_row hr hb (by simp; omega)
  rw [List.length_replicate] at this
  exact this
end Go.Proofs.Ytgdicmeabppngaa

namespace Go.Proofs.Ytgdicmeabppngaa
open Go.RowKit Go.Sort

/-- Block g holds J headers; row j lies in block B j and reads as f j. -/
structure Mat (w : World) (base g cap J M : Nat) (B Cp : Nat → Nat) (f : Nat → Nat → Int) : Prop where
  hd : w.ownsRow base 24 1 (.slice (some ⟨g, 0, none⟩) J cap) J ((List.range J).map fun j => Value.slice (some ⟨B j, 0, none⟩) M (Cp j))
  row : ∀ j, j < J → Own w base (.slice (some ⟨B j, 0, none⟩) M (Cp j)) (mapTo (f j) M)
  apart : ∀ i j, i < J → j < J → i ≠ j → B i ≠ B j
theorem Mat.kp {w w' : World} {base g cap J M : Nat} {B Cp : Nat → Nat} {f : Nat → Nat → Int} (h : Mat w base g cap J M B Cp f) (hk : Kp w w') : Mat w' base g cap J M B Cp f :=
  ⟨hk.own h.hd, fun j hj => (h.row j hj).kp hk, h.apart⟩
theorem Mat.turn {S : Nat → Prop} {w w' : World} {base g cap J M : Nat} {B Cp : Nat → Nat} {f : Nat → Nat → Int} (h : Mat w base g cap J M B Cp f) (ht : Turn S w w') (h1 : ¬ S g) (h2 : ∀ j, j < J → ¬ S (B j)) : Mat w' base g cap J M B Cp f :=
  ⟨own_turn h.hd ht (fun k hk hs => by have : g = k := by simpa [Value.ownBlock] using hk
                                       subst this; exact h1 hs),
   fun j hj => (h.row j hj).turn ht (fun k hk hs => by have : B j = k := by simpa [Value.ownBlock] using hk
                                                       subst this; exact h2 j hj hs), h.apart⟩
theorem Mat.congr {w : World} {base g cap J M : Nat} {B Cp : Nat → Nat} {f f' : Nat → Nat → Int} (h : Mat w base g cap J M B Cp f) (e : ∀ j a, j < J → a < M → f j a = f' j a) : Mat w base g cap J M B Cp f' :=
  ⟨h.hd, fun j hj => by
    have : mapTo (f j) M = mapTo (f' j) M := by unfold mapTo; exact List.map_congr_left (fun a ha => e j a hj (List.mem_range.1 ha))
    rw [← this]; exact h.row j hj, h.apart⟩
theorem Mat.lt {w : World} {base g cap J M : Nat} {B Cp : Nat → Nat} {f : Nat → Nat → Int} (h : Mat w base g cap J M B Cp f) {j : Nat} (hj : j < J) : base ≤ B j ∧ B j < w.heap.size := (h.row j hj).lt (B j) rfl
theorem Mat.glt {w : World} {base g cap J M : Nat} {B Cp : Nat → Nat} {f : Nat → Nat → Int} (h : Mat w base g cap J M B Cp f) : base ≤ g ∧ g < w.heap.size := World.ownsRow.lt h.hd g rfl
theorem Mat.gne {w : World} {base g cap J M : Nat} {B Cp : Nat → Nat} {f : Nat → Nat → Int} (h : Mat w base g cap J M B Cp f) {j : Nat} (hj : j < J) : B j ≠ g := fun e =>
  own_blocks_ne (h.row j hj) h.hd (by decide) (g := B j) rfl (by rw [e]; rfl)
theorem own_ne_hd {w : World} {base base' g n cap J : Nat} {A : Value} {xs : List Int} {hs : List Value} (h : Own w base A xs) (h2 : w.ownsRow base' 24 1 (.slice (some ⟨g, 0, none⟩) n cap) J hs) {k : Nat} (hk : A.ownBlock = some k) : k ≠ g := fun e =>
  own_blocks_ne h h2 (by decide) hk (by subst e; rfl)
theorem Mat.hcell {w : World} {base g cap J M : Nat} {B Cp : Nat → Nat} {f : Nat → Nat → Int} (h : Mat w base g cap J M B Cp f) {j : Nat} (hj : j < J) : w.cell? ⟨g, j, none⟩ = some (.slice (some ⟨B j, 0, none⟩) M (Cp j)) := by
  have := World.ownsRow.cells h.hd (g := g) rfl j (Value.slice (some ⟨B j, 0, none⟩) M (Cp j)) (by simp [hj])
  rwa [add0] at this
theorem mapTo_lget {g : Nat → Int} {M a : Nat} (h : a < M) : lget (mapTo g M) a = g a := by
  rw [lget_at (by rw [mapTo_len]; exact h), mapTo_get h]
theorem mapTo_set {g : Nat → Int} {M a : Nat} {z : Int} : (mapTo g M).set a z = mapTo (upd g a z) M := by
  unfold mapTo
  apply List.ext_getElem
  · simp
  · intro i h1 h2
    rw [List.getElem_set]
    by_cases e : a = i
    · subst e; simp [upd]
    · have e2 : ¬ i = a := fun h => e h.symm
      simp [e, upd, e2]
theorem Mat.cell {w : World} {base g cap J M : Nat} {B Cp : Nat → Nat} {f : Nat → Nat → Int} (h : Mat w base g cap J M B Cp f) {j a : Nat} (hj : j < J) (ha : a < M) :
    w.cell? ⟨B j, a, none⟩ = some (.int .i64 (f j a)) ∧ w.frozen? ⟨B j, a, none⟩ = false ∧
    ∀ z : Int, Mat (w.setCell ⟨B j, a, none⟩ (.int .i64 z)) base g cap J M B Cp (upd2 f j a z) ∧ Turn (fun i => i = B j) w (w.setCell ⟨B j, a, none⟩ (.int .i64 z)) := by
  obtain ⟨c1, c2, c3⟩ := (h.row j hj).slotL (mapTo_len _ _) ha
  rw [mapTo_lget ha] at c1
  refine ⟨c1, c2, fun z => ?_⟩
  obtain ⟨o1, t1⟩ := c3 z
  refine ⟨⟨own_turn h.hd t1 (fun k hk hs => ?_), fun i hi => ?_, h.apart⟩, t1⟩
  · have e : g = k := by simpa [Value.ownBlock] using hk
    subst e; exact h.gne hj hs.symm
  · by_cases e : i = j
    · subst e
      rw [mapTo_set] at o1
      have : upd2 f i a z i = upd (f i) a z := by funext b; unfold upd2; rw [if_pos rfl]
      rw [this]; exact o1
    · have : upd2 f j a z i = f i := by funext b; unfold upd2; rw [if_neg e]
      rw [this]
      exact (h.row i hi).turn t1 (fun k hk hs => by
        have e2 : B i = k := by simpa [Value.ownBlock] using hk
        subst e2; exact h.apart i j hi hj e hs)
theorem Mat.ints {w : World} {base g cap J M : Nat} {B Cp : Nat → Nat} {f : Nat → Nat → Int} (h : Mat w base g cap J M B Cp f) (hM : M ≤ 1048576) {j : Nat} (hj : j < J) : IntsAt w (some ⟨B j, 0, none⟩) (mapTo (f j) M) := by
  obtain ⟨A, c, e, hi⟩ := (h.row j hj).ints (by rw [mapTo_len]; omega)
  rw [mapTo_len] at e
  simp only [Value.slice.injEq] at e
  rw [e.1]; exact hi
/-- The rows of it. -/
def matL (J M : Nat) (f : Nat → Nat → Int) : List (List Int) := (List.range J).map fun j => mapTo (f j) M
theorem matL_len (J M : Nat) (f : Nat → Nat → Int) : (matL J M f).length = J := by simp [matL]
theorem matL_at {J M : Nat} {f : Nat → Nat → Int} {j : Nat} (hj : j < J) : (matL J M f).getD j [] = mapTo (f j) M := by simp [matL, List.getD, hj]
theorem Mat.grid {w : World} {base g cap J M : Nat} {B Cp : Nat → Nat} {f : Nat → Nat → Int} (h : Mat w base g cap J M B Cp f) (hJ : J ≤ 1048576) (hM : M ≤ 1048576) : GridAt w (some ⟨g, 0, none⟩) (matL J M f) :=
  ⟨by rw [matL_len]; omega, fun k hk => by
    rw [matL_len] at hk
    rw [matL_at hk]
    exact ⟨_, _, _, rfl, by rw [add0, mapTo_len]; exact h.hcell hk, h.ints hM hk⟩⟩
theorem Mat.ownGrid {w : World} {base g cap J M : Nat} {B Cp : Nat → Nat} {f : Nat → Nat → Int} (h : Mat w base g cap J M B Cp f) : OwnGrid w base (.slice (some ⟨g, 0, none⟩) J cap) J (fun j => mapTo (f j) M) :=
  ⟨fun j => Value.slice (some ⟨B j, 0, none⟩) M (Cp j), h.hd, h.row, fun i j k hij hj e1 e2 => by
    have e3 : B i = k := by simpa [Value.ownBlock] using e1
    have e4 : B j = k := by simpa [Value.ownBlock] using e2
    exact h.apart i j (by omega) hj (by omega) (by omega)⟩
end Go.Proofs.Ytgdicmeabppngaa

namespace Go.Proofs.Ytgdicmeabppngaa
open Go.RowKit Go.Sort

theorem matL_fl {J M : Nat} {f : Nat → Nat → Int} {j a : Nat} (hj : j < J) (ha : a < M) : flAt (matL J M f) j a = f j a := by
  unfold flAt; rw [matL_at hj, mapTo_lget ha]
/-- What stands in memory, read as a number. -/
def cellI (w : World) (a : Addr) : Int := match w.cell? a with
  | some (.int _ x) => x
  | _ => 0
def memSum (w : World) (g n : Nat) : Int := sumTo (fun k => cellI w ⟨g, k, none⟩) n
theorem memSum_ints {w : World} {g n : Nat} {xs : List Int} (h : IntsAt w (some ⟨g, 0, none⟩) xs) (hn : xs.length = n) : memSum w g n = sumTo (lget xs) n := by
  refine sumTo_congr (fun k hk => ?_)
  have := h.some_ (k := k) (by omega)
  rw [add0] at this
  unfold cellI
  rw [this, lget_at (by omega)]
theorem sum_set {xs : List Int} {n k : Nat} {z : Int} (hn : xs.length = n) (hk : k < n) : sumTo (lget (xs.set k z)) n = sumTo (lget xs) n + (z - lget xs k) := by
  have e : lget (xs.set k z) = upd (lget xs) k z := by funext i; rw [lget_set (by omega)]; rfl
  rw [e, sumTo_upd, if_pos hk]
def dF (F : Fld) (j a : Nat) : Int := dAt F j (a : Int)
theorem dF_bd {F : Fld} (hg : goodF F = true) (j a : Nat) : 0 ≤ dF F j a ∧ dF F j a ≤ 99 := by
  by_cases hj : j < F.di.length
  · exact dAt_bd hg hj _
  · unfold dF dAt
    rw [List.getD_eq_getElem?_getD (l := F.di), List.getElem?_eq_none (by omega)]; simp
/-- A function value that tells which pairs may be. -/
def Can (FN : FuncId) (caps : Array Value) (J M : Nat) (may : Nat → Nat → Bool) (w : World) : Prop :=
  (∀ (args : Array Value) (w : World), Sem.run Try.prog (callFunc FN args) w = .ok (.enter FN args) w) ∧
  ∀ (i a : Nat) (w' : World), Kp w w' → i < J → a < M → Calls Try.prog FN (#[.int .i64 (i : Int), .int .i64 (a : Int)] ++ caps) w' fun e w'' => e = .returned (.bool (may i a)) ∧ Dr w' w''
theorem Can.kp {FN : FuncId} {caps : Array Value} {J M : Nat} {may : Nat → Nat → Bool} {w w' : World} (h : Can FN caps J M may w) (hk : Kp w w') : Can FN caps J M may w' :=
  ⟨h.1, fun i a w2 h2 => h.2 i a w2 (hk.trans h2)⟩
theorem Can.run {FN : FuncId} {caps : Array Value} {J M : Nat} {may : Nat → Nat → Bool} {w : World} (h : Can FN caps J M may w) : ∀ (args : Array Value) (w : World), Sem.run Try.prog (callFunc FN args) w = .ok (.enter FN args) w := h.1
theorem Can.at_ {FN : FuncId} {caps : Array Value} {J M : Nat} {may : Nat → Nat → Bool} {w : World} (h : Can FN caps J M may w) (i a : Nat) (w' : World) (hk : Kp w w') (hi : i < J) (ha : a < M) :
    Calls Try.prog FN (#[.int .i64 (i : Int), .int .i64 (a : Int)] ++ caps) w' fun e w'' => e = .returned (.bool (may i a)) ∧ Dr w' w'' := h.2 i a w' hk hi ha
end Go.Proofs.Ytgdicmeabppngaa

namespace Go.Proofs.Ytgdicmeabppngaa
open Go.RowKit

theorem u64_low (m : Nat) (h : m < 4294967296) : bits .and .u64 (m : Int) 4294967295 = (m : Int) := by
  have h0 : bits .and .u64 (m : Int) ((4294967295 : Nat) : Int) = ((m &&& 4294967295 : Nat) : Int) := by
    show IntKind.u64.wrap ((BitVec.ofInt 64 (m : Int) &&& BitVec.ofInt 64 ((4294967295 : Nat) : Int)).toNat : Int) = _
    rw [BitVec.toNat_and, ofInt_u64 m (by omega), ofInt_u64 4294967295 (by omega), IntKind.wrap_u64]
    have : m &&& 4294967295 ≤ m := Nat.and_le_left
    omega
  rw [show ((4294967295 : Int)) = ((4294967295 : Nat) : Int) from rfl, h0, show (4294967295 : Nat) = 2 ^ 32 - 1 from rfl, Nat.and_two_pow_sub_one_eq_mod, Nat.mod_eq_of_lt (by omega)]
theorem mul64_one (m : Nat) (w : World) (h : m < 4294967296) :
    Calls Try.prog 93 #[.int .u64 1, .int .u64 (m : Int)] w fun e w' => e = .returned (.tuple #[.int .u64 0, .int .u64 (m : Int)]) ∧ w = w' := by
  have h1 := u64_low m h
  have h2 : bits .and .u64 1 4294967295 = 1 := by decide
  have h3 : (m : Int) / 4294967296 = 0 := by omega
  have h4 : bits .and .u64 0 4294967295 = 0 := by decide
  go_enter Try.func93, Try.ntmps93
  go_wp2_with fail
  go_ret2
  exact ⟨rfl, rfl⟩
theorem mul_one (m : Nat) (w : World) (h : m < 4294967296) :
    Calls Try.prog 84 #[.int .u64 1, .int .u64 (m : Int)] w fun e w' => e = .returned (.tuple #[.int .u64 0, .int .u64 (m : Int)]) ∧ w = w' := by
  go_enter Try.func84, Try.ntmps84
  go_wp2_with fail
  with_reducible refine Calls.mono (mul64_one m _ h) ?_
  rintro e w' ⟨rfl, hw⟩
  obtain rfl := hw
  go_wp2_with fail
  go_ret2
  exact ⟨rfl, rfl⟩
/-- A row that is filled from its head on. -/
def repL (m k : Nat) (v : Int) : List Int := List.replicate k v ++ List.replicate (m - k) 0
theorem repL_len {m k : Nat} {v : Int} (h : k ≤ m) : (repL m k v).length = m := by simp [repL]; omega
theorem repL_full (m : Nat) (v : Int) : repL m m v = List.replicate m v := by simp [repL]
theorem repL_splice {m k c : Nat} {v : Int} (h : k + c ≤ m) : splice ((repL m k v).map (Value.int .i64)) k (List.replicate c (Value.int .i64 v)) = (repL m (k + c) v).map (Value.int .i64) := by
  unfold splice repL
  rw [List.length_replicate, ← List.map_take, ← List.map_drop, List.take_append_of_le_length (by simp), List.take_of_length_le (by simp)]
  rw [List.drop_append, List.drop_eq_nil_of_le (by simp), List.length_replicate, List.drop_replicate]
  rw [List.map_append, show m - k - (k + c - k) = m - (k + c) from by omega]
  simp only [List.map_append, List.map_replicate, List.map_nil, List.nil_append]
  rw [← List.replicate_append_replicate, List.append_assoc]
set_option maxHeartbeats 1000000 in
set_option maxRecDepth 100000 in
theorem rep_any (v : Int) (m b0 : Nat) (w : World) (hv : w.cell? ⟨b0, 0, none⟩ = some (.int .i64 v)) (h0 : 1 ≤ m) (h : m ≤ 1000) :
    Calls Try.prog 70 #[.slice (some ⟨b0, 0, none⟩) 1 1, .int .i64 (m : Int)] w fun e w' => ∃ g, e = .returned (.slice (some ⟨g, 0, none⟩) m m) ∧ w.heap.size ≤ g ∧ Own w' w.heap.size (.slice (some ⟨g, 0, none⟩) m m) (List.replicate m v) ∧ Kp w w' := by
  have hmk := run_make_row' (P := Try.prog) 24 3 (.int .i64 0) 8 Try.underlying24 infoInt rfl .i64 .i64 m (by omega) (by omega)
  go_enter Try.func70, Try.ntmps70
  go_wp2_with fail
  with_reducible refine Calls.mono (mul_one m _ (by omega)) ?_
  rintro e w' ⟨rfl, hw⟩
  obtain rfl := hw
  have hk0 := (Kp.refl w).alloc (.cells (madeCells #[.int .i64 0] m) 3)
  have hr : Hid ((w.alloc (.cells (madeCells #[.int .i64 0] m) 3)).heap[w.heap.size]? = some (.cells ((repL m 0 v).map (Value.int .i64)).toArray 3 (0, 0))) := by
    show _ = _
    obtain ⟨c, hg, hs, hc⟩ := World.rowIs_made w (.int .i64 0) m 3
    rw [hg]
    congr 2
    apply Array.ext
    · simp [hs, repL]
    · intro i h1 h2
      have := hc i (by omega)
      rw [Array.getElem?_eq_getElem h1] at this
      simp only [Option.some.injEq] at this
      rw [this]; simp [repL]
  have hv1 : Hid ((w.alloc (.cells (madeCells #[.int .i64 0] m) 3)).cell? ⟨b0, 0, none⟩ = some (.int .i64 v)) := hk0.get hv
  have h1m : Nat.min 1 m = 1 := Nat.min_eq_left h0
  have hsrc : Hid (∀ (j : Nat) (x : Value), [Value.int .i64 v][j]? = some x → (w.alloc (.cells (madeCells #[.int .i64 0] m) 3)).cell? ((⟨b0, 0, none⟩ : Addr).add j) = some x) := by
    intro j x hx
    cases j with
    | zero => simp at hx; subst hx; exact hv1.out
    | succ j => simp at hx
  have hfit : 0 + [Value.int .i64 v].length ≤ ((repL m 0 v).map (Value.int .i64)).length := by simp [repL]; omega
  have h11 : ∀ x ∈ [Value.int .i64 v], x.oneCell' = true := by intro x hx; simp at hx; subst hx; rfl
  go_wp2_with (refine wpList_copy_splice (o := ⟨some 33, _, _, _, _, _⟩) rfl (.tmp 31) (.tmp 32) 24 24 (by rfl) 3 Try.underlying24 (by kernel_rfl) (some ⟨w.heap.size, 0, none⟩) (some ⟨b0, 0, none⟩) m m 1 1 (by rfl) (by rfl) w.heap.size 0 ((repL m 0 v).map (Value.int .i64)) 3 hr.out [.int .i64 v] (by rw [h1m]; rfl) (fun _ => ⟨rfl, _, rfl, hsrc.out⟩) hfit h11 w.heap.size w hk0 (Nat.le_refl _) ?_; intro w2 hg2 hb2)
  have hk2 : Kp w w2 := hb2
  replace hg2 : Hid (w2.heap[w.heap.size]? = some (.cells ((repL m 1 v).map (Value.int .i64)).toArray 3 (0, 0))) := by
    show _ = _
    have e := repL_splice (m := m) (k := 0) (c := 1) (v := v) (by omega)
    rw [← e]; exact hg2.out
  clear hb2 hr hv1 hsrc hfit h11 hv hk0
  go_loopw [8] (fun nv wr => ∃ k : Nat, 1 ≤ k ∧ k ≤ m ∧ nv = .int .i64 k ∧ Hid (wr.heap[w.heap.size]? = some (.cells ((repL m k v).map (Value.int .i64)).toArray 3 (0, 0))) ∧ Kp w wr) (fun nv _ => m - (intOf nv).toNat)
  case atStart => exact ⟨1, by omega, by omega, rfl, hg2, hk2⟩
  case round =>
    clear hg2 hk2
    obtain ⟨k, hk1, hkm, rfl, hg, hkr⟩ := hrel
    by_cases hlt : k < m
    · obtain ⟨c, hc⟩ : ∃ c, c = Nat.min k (m - k) := ⟨_, rfl⟩
      have hc1 : 1 ≤ c := by rw [hc]; exact Nat.le_min.2 ⟨hk1, by omega⟩
      have h9 : c ≤ m - k := hc ▸ Nat.min_le_right k (m - k)
      have hc2 : k + c ≤ m := by omega
      have hc3 : c ≤ k := by rw [hc]; exact Nat.min_le_left _ _
      have Hc : Hid ((List.replicate c (Value.int .i64 v)).length = Nat.min k (m - k)) := by show _ = _; rw [List.length_replicate]; exact hc
      clear hc
      have hfit : k + (List.replicate c (Value.int .i64 v)).length ≤ ((repL m k v).map (Value.int .i64)).length := by simp [repL]; omega
      have h11 : ∀ x ∈ List.replicate c (Value.int .i64 v), x.oneCell' = true := by intro x hx; rw [(List.mem_replicate.1 hx).2]; rfl
      have hcc : Hid (∀ (j : Nat) (x : Value), (List.replicate c (Value.int .i64 v))[j]? = some x → wr.cell? ((⟨w.heap.size, 0, none⟩ : Addr).add j) = some x) := by
        intro j x hx
        have hj : j < c := by
          rcases Nat.lt_or_ge j c with h | h
          · exact h
          · rw [List.getElem?_eq_none (by simp; omega)] at hx; cases hx
        rw [List.getElem?_replicate, if_pos hj] at hx
        rw [add0]
        unfold World.cell?
        rw [hg.out]
        have hjk : j < k := by omega
        have hx' := Option.some.inj hx
        subst hx'
        have he : ((repL m k v).map (Value.int .i64)).toArray[j]? = some (Value.int .i64 v) := by
          rw [List.getElem?_toArray, List.getElem?_map, repL, List.getElem?_append_left (by simpa using hjk), List.getElem?_replicate, if_pos hjk]; rfl
        simp only [Option.bind_some, he]
        rfl
      have hkI : (k : Int) ≤ (m : Int) := by omega
      have hadd : (⟨w.heap.size, 0, none⟩ : Addr).add k = ⟨w.heap.size, k, none⟩ := add0 _ _
      have hmk' : ¬ m = k := by omega
      have hrun := run_copy_row (P := Try.prog) wr.drew 24 24 3 3 w.heap.size k (m - k) (m - k) ⟨w.heap.size, 0, none⟩ k m ((repL m k v).map (Value.int .i64)).toArray 3 (List.replicate c (Value.int .i64 v)) Try.underlying24 (by kernel_rfl) hg.out Hc.out hcc.out (by simpa using hfit) h11
      have hkd := below_setRow (g := w.heap.size) (show RowKit.Below w.heap.size w wr.drew from hkr.drew) (Nat.le_refl _) (((repL m k v).map (Value.int .i64)).toArray.toList.take k ++ List.replicate c (Value.int .i64 v) ++ ((repL m k v).map (Value.int .i64)).toArray.toList.drop (k + (List.replicate c (Value.int .i64 v)).length)).toArray
      have hgd := setRow_heap wr.drew w.heap.size ((repL m k v).map (Value.int .i64)).toArray (((repL m k v).map (Value.int .i64)).toArray.toList.take k ++ List.replicate c (Value.int .i64 v) ++ ((repL m k v).map (Value.int .i64)).toArray.toList.drop (k + (List.replicate c (Value.int .i64 v)).length)).toArray 3 (0, 0) hg.out
      rw [List.length_replicate] at hrun hkd hgd
      have hsp := repL_splice (v := v) hc2
      unfold splice at hsp
      rw [List.length_replicate] at hsp
      rw [List.append_assoc, List.toList_toArray, hsp] at hrun hkd hgd
      obtain ⟨w4, hw4⟩ : ∃ w4, w4 = wr.drew.setRow w.heap.size ((repL m (k + c) v).map (Value.int .i64)).toArray := ⟨_, rfl⟩
      rw [← hw4] at hrun hkd hgd
      have Hg4 := Lib.hid hgd
      have hk4 : Kp w w4 := hkd
      clear hsp hw4 hgd hkd hcc Hc hfit h11 hg
      go_wp2_with fail
      go_region
      all_goals
        (try go_wp2_with fail)
        go_roundw
        case rel => exact ⟨k + c, by omega, hc2, by simp, Hg4, hk4⟩
        case measure => simp [intOf]; omega
    · obtain rfl : k = m := by omega
      have hfin : Hid (Own wr w.heap.size (.slice (some ⟨w.heap.size, 0, none⟩) k k) (List.replicate k v)) := by
        refine ⟨by simp, .inr ⟨w.heap.size, k, _, by rw [List.length_replicate], Nat.le_refl _, hg.out, by simp, by unfold maxLen; omega, by simp [repL], ?_⟩⟩
        simp [repL]
      go_wp2_with fail
      go_ret
      exact ⟨_, rfl, Nat.le_refl _, hfin.out, hkr⟩
end Go.Proofs.Ytgdicmeabppngaa

namespace Go.Proofs.Ytgdicmeabppngaa
open Go.RowKit

theorem keepc1 {wv w' : World} {p : Addr} {a : Value} (h1 : wv.cell? p = some a) (h : Kp wv w') : w'.cell? p = some a ∧ Kp wv w' := ⟨h.get h1, h⟩
theorem keepc2 {wv w' : World} {p q : Addr} {a b : Value} (h1 : wv.cell? p = some a) (h2 : wv.cell? q = some b) (h : Kp wv w') : w'.cell? p = some a ∧ w'.cell? q = some b ∧ Kp wv w' := ⟨h.get h1, h.get h2, h⟩
theorem keepc3 {wv w' : World} {p q r : Addr} {a b c : Value} (h1 : wv.cell? p = some a) (h2 : wv.cell? q = some b) (h3 : wv.cell? r = some c) (h : Kp wv w') : w'.cell? p = some a ∧ w'.cell? q = some b ∧ w'.cell? r = some c ∧ Kp wv w' := ⟨h.get h1, h.get h2, h.get h3, h⟩
theorem keepc4 {wv w' : World} {p q r s : Addr} {a b c d : Value} (h1 : wv.cell? p = some a) (h2 : wv.cell? q = some b) (h3 : wv.cell? r = some c) (h4 : wv.cell? s = some d) (h : Kp wv w') : w'.cell? p = some a ∧ w'.cell? q = some b ∧ w'.cell? r = some c ∧ w'.cell? s = some d ∧ Kp wv w' := ⟨h.get h1, h.get h2, h.get h3, h.get h4, h⟩
theorem keepc5 {wv w' : World} {p q r s t : Addr} {a b c d e : Value} (h1 : wv.cell? p = some a) (h2 : wv.cell? q = some b) (h3 : wv.cell? r = some c) (h4 : wv.cell? s = some d) (h5 : wv.cell? t = some e) (h : Kp wv w') : w'.cell? p = some a ∧ w'.cell? q = some b ∧ w'.cell? r = some c ∧ w'.cell? s = some d ∧ w'.cell? t = some e ∧ Kp wv w' := ⟨h.get h1, h.get h2, h.get h3, h.get h4, h.get h5, h⟩
theorem keepc6 {wv w' : World} {p q r s t u : Addr} {a b c d e f : Value} (h1 : wv.cell? p = some a) (h2 : wv.cell? q = some b) (h3 : wv.cell? r = some c) (h4 : wv.cell? s = some d) (h5 : wv.cell? t = some e) (h6 : wv.cell? u = some f) (h : Kp wv w') : w'.cell? p = some a ∧ w'.cell? q = some b ∧ w'.cell? r = some c ∧ w'.cell? s = some d ∧ w'.cell? t = some e ∧ w'.cell? u = some f ∧ Kp wv w' := ⟨h.get h1, h.get h2, h.get h3, h.get h4, h.get h5, h.get h6, h⟩
theorem keepc7 {wv w' : World} {p0 p1 p2 p3 p4 p5 p6 : Addr} {v0 v1 v2 v3 v4 v5 v6 : Value} (h0 : wv.cell? p0 = some v0) (h1 : wv.cell? p1 = some v1) (h2 : wv.cell? p2 = some v2) (h3 : wv.cell? p3 = some v3) (h4 : wv.cell? p4 = some v4) (h5 : wv.cell? p5 = some v5) (h6 : wv.cell? p6 = some v6) (h : Kp wv w') : w'.cell? p0 = some v0 ∧ w'.cell? p1 = some v1 ∧ w'.cell? p2 = some v2 ∧ w'.cell? p3 = some v3 ∧ w'.cell? p4 = some v4 ∧ w'.cell? p5 = some v5 ∧ w'.cell? p6 = some v6 ∧ Kp wv w' := ⟨h.get h0, h.get h1, h.get h2, h.get h3, h.get h4, h.get h5, h.get h6, h⟩
theorem keepc8 {wv w' : World} {p0 p1 p2 p3 p4 p5 p6 p7 : Addr} {v0 v1 v2 v3 v4 v5 v6 v7 : Value} (h0 : wv.cell? p0 = some v0) (h1 : wv.cell? p1 = some v1) (h2 : wv.cell? p2 = some v2) (h3 : wv.cell? p3 = some v3) (h4 : wv.cell? p4 = some v4) (h5 : wv.cell? p5 = some v5) (h6 : wv.cell? p6 = some v6) (h7 : wv.cell? p7 = some v7) (h : Kp wv w') : w'.cell? p0 = some v0 ∧ w'.cell? p1 = some v1 ∧ w'.cell? p2 = some v2 ∧ w'.cell? p3 = some v3 ∧ w'.cell? p4 = some v4 ∧ w'.cell? p5 = some v5 ∧ w'.cell? p6 = some v6 ∧ w'.cell? p7 = some v7 ∧ Kp wv w' := ⟨h.get h0, h.get h1, h.get h2, h.get h3, h.get h4, h.get h5, h.get h6, h.get h7, h⟩
theorem keepc9 {wv w' : World} {p0 p1 p2 p3 p4 p5 p6 p7 p8 : Addr} {v0 v1 v2 v3 v4 v5 v6 v7 v8 : Value} (h0 : wv.cell? p0 = some v0) (h1 : wv.cell? p1 = some v1) (h2 : wv.cell? p2 = some v2) (h3 : wv.cell? p3 = some v3) (h4 : wv.cell? p4 = some v4) (h5 : wv.cell? p5 = some v5) (h6 : wv.cell? p6 = some v6) (h7 : wv.cell? p7 = some v7) (h8 : wv.cell? p8 = some v8) (h : Kp wv w') : w'.cell? p0 = some v0 ∧ w'.cell? p1 = some v1 ∧ w'.cell? p2 = some v2 ∧ w'.cell? p3 = some v3 ∧ w'.cell? p4 = some v4 ∧ w'.cell? p5 = some v5 ∧ w'.cell? p6 = some v6 ∧ w'.cell? p7 = some v7 ∧ w'.cell? p8 = some v8 ∧ Kp wv w' := ⟨h.get h0, h.get h1, h.get h2, h.get h3, h.get h4, h.get h5, h.get h6, h.get h7, h.get h8, h⟩
theorem keepc10 {wv w' : World} {p0 p1 p2 p3 p4 p5 p6 p7 p8 p9 : Addr} {v0 v1 v2 v3 v4 v5 v6 v7 v8 v9 : Value} (h0 : wv.cell? p0 = some v0) (h1 : wv.cell? p1 = some v1) (h2 : wv.cell? p2 = some v2) (h3 : wv.cell? p3 = some v3) (h4 : wv.cell? p4 = some v4) (h5 : wv.cell? p5 = some v5) (h6 : wv.cell? p6 = some v6) (h7 : wv.cell? p7 = some v7) (h8 : wv.cell? p8 = some v8) (h9 : wv.cell? p9 = some v9) (h : Kp wv w') : w'.cell? p0 = some v0 ∧ w'.cell? p1 = some v1 ∧ w'.cell? p2 = some v2 ∧ w'.cell? p3 = some v3 ∧ w'.cell? p4 = some v4 ∧ w'.cell? p5 = some v5 ∧ w'.cell? p6 = some v6 ∧ w'.cell? p7 = some v7 ∧ w'.cell? p8 = some v8 ∧ w'.cell? p9 = some v9 ∧ Kp wv w' := ⟨h.get h0, h.get h1, h.get h2, h.get h3, h.get h4, h.get h5, h.get h6, h.get h7, h.get h8, h.get h9, h⟩
end Go.Proofs.Ytgdicmeabppngaa

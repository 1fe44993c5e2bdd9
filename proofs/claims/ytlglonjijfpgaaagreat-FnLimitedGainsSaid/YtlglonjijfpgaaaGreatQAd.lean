/- Contracts of the functions on sets as binary numbers, and of searches in lists; l1Put: a number put into a rising list; Marginal gains and greedy choices: plain words; How near the nearest site is; The gain of a set goes by its members alone; more sites, no less gain; Greedy sites, plain words: what a set of sites adds at most, and the share of the best that the greedy ones reach; A number of a list, 0 behind its end; A slice of the call's own: one slot read and written; one that was made; slices.Clone, slices.Min over lists of integers. No condition. -/
import Derived.Test.YtlglonjijfpgaaaGreatQAc
import Derived.Test.YtlglonjijfpgaaaGreatQAa
import Derived.Test.YtlglonjijfpgaaaGreatQAb
import Derived.WalkSpells
namespace Go.Proofs.YtlglonjijfpgaaaGreat
open Go.RowKit Go.Sort

theorem ofInt_u64 (a : Nat) (ha : a < 18446744073709551616) : (BitVec.ofInt 64 (a : Int)).toNat = a := by
  rw [BitVec.ofInt_natCast, BitVec.toNat_ofNat]; exact Nat.mod_eq_of_lt ha
theorem u64_and_nat (a b : Nat) (ha : a < 18446744073709551616) (hb : b < 18446744073709551616) : bits .and .u64 (a : Int) (b : Int) = ((a &&& b : Nat) : Int) := by
  have hx : a &&& b < 2 ^ 64 := Nat.and_lt_two_pow _ (by omega)
  show IntKind.u64.wrap ((BitVec.ofInt 64 (a : Int) &&& BitVec.ofInt 64 (b : Int)).toNat : Int) = _
  rw [BitVec.toNat_and, ofInt_u64 a ha, ofInt_u64 b hb, IntKind.wrap_u64]
  omega
theorem u64_or_nat (a b : Nat) (ha : a < 18446744073709551616) (hb : b < 18446744073709551616) : bits .or .u64 (a : Int) (b : Int) = ((a ||| b : Nat) : Int) := by
  have hx : a ||| b < 2 ^ 64 := Nat.or_lt_two_pow (by omega) (by omega)
  show IntKind.u64.wrap ((BitVec.ofInt 64 (a : Int) ||| BitVec.ofInt 64 (b : Int)).toNat : Int) = _
  rw [BitVec.toNat_or, ofInt_u64 a ha, ofInt_u64 b hb, IntKind.wrap_u64]
  omega
theorem div_pow_nat (b x : Nat) : ((b : Int) / 2 ^ x) = ((b / 2 ^ x : Nat) : Int) := by
  rw [Int.natCast_ediv]; simp
theorem bit_one (b x : Nat) : (((b / 2 ^ x &&& 1 : Nat) : Int) == 1) = b.testBit x := by
  rw [Nat.testBit_eq_decide_div_mod_eq, Nat.and_one_is_mod]
  generalize b / 2 ^ x % 2 = r
  rw [Bool.eq_iff_iff, beq_iff_eq, decide_eq_true_eq]
  constructor <;> intro h <;> omega
theorem u64_has (b x : Nat) (hb : b < 18446744073709551616) : (bits BinOp.and IntKind.u64 ((b : Int) / 2 ^ x) 1 == 1) = b.testBit x := by
  have h : b / 2 ^ x < 18446744073709551616 := Nat.lt_of_le_of_lt (Nat.div_le_self _ _) hb
  have := u64_and_nat (b / 2 ^ x) 1 h (by omega)
  rw [div_pow_nat, show (1 : Int) = ((1 : Nat) : Int) from rfl, this]
  exact bit_one b x
theorem i64_has (b x : Nat) (hb : b < 9223372036854775808) : (bits BinOp.and IntKind.i64 ((b : Int) / 2 ^ x) 1 == 1) = b.testBit x := by
  have h : b / 2 ^ x < 9223372036854775808 := Nat.lt_of_le_of_lt (Nat.div_le_self _ _) hb
  have := i64_and_nat (b / 2 ^ x) 1 h (by omega)
  rw [div_pow_nat, show (1 : Int) = ((1 : Nat) : Int) from rfl, this]
  exact bit_one b x
theorem u64_one_shl (a : Int) (h0 : 0 ≤ a) (h1 : a < 32) : IntKind.u64.wrap (2 ^ a.toNat) = ((2 ^ a.toNat : Nat) : Int) := by
  have h : 2 ^ a.toNat ≤ 2 ^ 31 := Nat.pow_le_pow_right (by omega) (by omega)
  have h2 : ((2 ^ a.toNat : Nat) : Int) = 2 ^ a.toNat := by simp
  rw [← h2, IntKind.wrap_u64]
  generalize 2 ^ a.toNat = q at h
  omega
theorem bag_next {S : List Int} {k : Nat} (hk : k < S.length) : bagN (S.take (k + 1)) = bagN (S.take k) ||| 2 ^ (S[k]).toNat := by
  rw [List.take_succ_eq_append_getElem hk, bagN, bagTo, List.foldl_append]; rfl

theorem has_any (b x : Nat) (w : World) (hb : b < 18446744073709551616) (hx : x < 64) :
    Calls Tryz.prog 46 #[.int .u64 b, .int .i64 x] w fun e w' => e = .returned (.bool (b.testBit x)) ∧ w = w' := by
  go_enter Tryz.func46, Tryz.ntmps46
  have H := Lib.hid (u64_has b x hb)
  go_wp2_with fail
  go_ret
  exact ⟨ret_bool H.out, rfl⟩

set_option maxRecDepth 100000 in
set_option maxHeartbeats 1000000 in
theorem l2Bits_any (n b : Nat) (w : World) (hn : n ≤ 32) (hb : b < 4294967296) :
    Calls Tryz.prog 79 #[.int .i64 n, .int .i64 b] w fun e w' => ∃ v, e = .returned v ∧ Own w' w.heap.size v (bitsL n b) ∧ Kp w w' := by
  go_enter Tryz.func79, Tryz.ntmps79
  go_wp2_with fail
  go_loopw [5, 6] (fun ov iv wr => ∃ k : Nat, k ≤ n ∧ iv = .int .i64 k ∧ Own wr w.heap.size ov (bitsL k b) ∧ Kp w wr) (fun _ iv _ => n - (intOf iv).toNat)
  case atStart => exact ⟨0, by omega, rfl, own_new0 _ _ (Nat.le_refl _), (Kp.refl _).alloc _⟩
  case round =>
    obtain ⟨k, hk, rfl, ho, hkp⟩ := hrel
    by_cases hlt : k < n
    · have H := Lib.hid (i64_has b k (by omega))
      have hlen := bitsL_len k b
      have hlen2 : (bitsL k b).length < 1048576 := by omega
      cases ht : b.testBit k
      · have Ht := Lib.hid (H.out.trans ht)
        have Hno := Lib.hid (bitsL_no ht)
        have Hb2 := Ht.out
        clear ht H
        go_wp2_with fail
        go_roundw
        case rel => exact ⟨k + 1, by omega, by go_num, by rw [Hno.out]; exact ho, hkp⟩
        case measure => simp [intOf]; omega
      · have Ht := Lib.hid (H.out.trans ht)
        have Hyes := Lib.hid (bitsL_yes ht)
        have Hb2 := Ht.out
        clear ht H
        go_wp2_with (at_builtin; refine wpl_app rfl (.tmp 18) (.tmp 20) rfl w.heap.size _ (bitsL k b) k rfl rfl ho hkp.le hlen2 ?_; intro v' w' ho' ht' _; have hk4 := ho.kp_turn hkp (Nat.le_refl _) ht')
        go_roundw
        case rel => exact ⟨k + 1, by omega, by go_num, by rw [Hyes.out]; exact ho', hk4⟩
        case measure => simp [intOf]; omega
    · obtain rfl : k = n := by omega
      go_wp2_with fail
      go_ret
      exact ⟨_, rfl, ho, hkp⟩

/-- The members of a set, rising. -/
theorem div_pow_pos {b x n : Nat} (h : 0 < b / 2 ^ x) (hb : b < 2 ^ n) : x < n := by
  rcases Nat.lt_or_ge x n with h1 | h1
  · exact h1
  · have h2 : 2 ^ n ≤ 2 ^ x := Nat.pow_le_pow_right (by omega) h1
    rw [Nat.div_eq_of_lt (by omega)] at h; omega
theorem div_pow_zero {b x : Nat} (h : ¬ 0 < b / 2 ^ x) : b < 2 ^ x := by
  rcases Nat.lt_or_ge b (2 ^ x) with h1 | h1
  · exact h1
  · have := Nat.div_pos h1 (Nat.two_pow_pos x); omega

set_option maxRecDepth 100000 in
set_option maxHeartbeats 1000000 in
theorem list_any (b n : Nat) (w : World) (hb : b < 2 ^ n) (hn : n ≤ 32) :
    Calls Tryz.prog 50 #[.int .u64 b] w fun e w' => ∃ v, e = .returned v ∧ Own w' w.heap.size v (bitsL n b) ∧ Kp w w' := by
  have hb32 : b < 4294967296 := Nat.lt_of_lt_of_le hb (Nat.le_trans (Nat.pow_le_pow_right (by omega) hn) (by decide))
  have Hb := Lib.hid hb
  clear hb
  go_enter Tryz.func50, Tryz.ntmps50
  go_wp2_with fail
  go_loopw [3, 4] (fun ov iv wr => ∃ k : Nat, k ≤ n ∧ iv = .int .i64 k ∧ Own wr w.heap.size ov (bitsL k b) ∧ Kp w wr) (fun _ iv _ => n + 1 - (intOf iv).toNat)
  case atStart => exact ⟨0, by omega, rfl, own_new0 _ _ (Nat.le_refl _), (Kp.refl _).alloc _⟩
  case round =>
    obtain ⟨k, hk, rfl, ho, hkp⟩ := hrel
    have hq := Lib.hid (div_pow_nat b k)
    by_cases hlt : 0 < b / 2 ^ k
    · have hkn := div_pow_pos hlt Hb.out
      have t0 : (0 : Int) < (b : Int) / 2 ^ k := by rw [hq.out]; omega
      have t1 : decide ((0 : Int) < (b : Int) / 2 ^ k) = true := by simpa using t0
      have hlen := bitsL_len k b
      have hlen2 : (bitsL k b).length < 1048576 := by omega
      clear hlt
      go_wp2_with fail
      have CC := Lib.hid (has_any b k wr (by omega) (by omega))
      with_reducible refine Calls.mono CC.out ?_
      rintro e w1 ⟨rfl, hw⟩
      obtain rfl := hw
      clear CC t0 t1
      cases ht : b.testBit k
      · have Hno := Lib.hid (bitsL_no ht)
        clear ht
        go_wp2_with fail
        go_roundw
        case rel => exact ⟨k + 1, by omega, by go_num, by rw [Hno.out]; exact ho, hkp⟩
        case measure => simp [intOf]; omega
      · have Hyes := Lib.hid (bitsL_yes ht)
        clear ht
        go_wp2_with (at_builtin; refine wpl_app rfl (.tmp 15) (.tmp 17) rfl w.heap.size _ (bitsL k b) k rfl rfl ho hkp.le hlen2 ?_; intro v' w' ho' ht' _; have hk4 := ho.kp_turn hkp (Nat.le_refl _) ht')
        go_roundw
        case rel => exact ⟨k + 1, by omega, by go_num, by rw [Hyes.out]; exact ho', hk4⟩
        case measure => simp [intOf]; omega
    · have hz := Lib.hid (div_pow_zero hlt)
      have t0 : ¬ (0 : Int) < (b : Int) / 2 ^ k := by rw [hq.out]; omega
      have t1 : decide ((0 : Int) < (b : Int) / 2 ^ k) = false := by simpa using t0
      clear hlt
      go_wp2_with fail
      go_ret
      exact ⟨_, rfl, by rw [bitsL_more hz.out hk]; exact ho, hkp⟩

/-- A number sought in a list. -/
def idxTo (S : List Int) (a : Int) (k : Nat) : Bool := (S.take k).any (fun x => x == a)
set_option maxHeartbeats 400000 in
theorem l1Has_any (A0 : Option Addr) (S : List Int) (n c0 : Nat) (a : Int) (w : World) (hS : IntsAt w A0 S) (hn : S.length = n) :
    Calls Tryz.prog 29 #[.slice A0 n c0, .int .i64 a] w fun e w' => e = .returned (.bool (S.any (fun x => x == a))) ∧ w = w' := by
  have hm : n ≤ 9223372036854775807 := hn ▸ hS.1
  have Hn := Lib.hid hn; clear hn
  go_enter Tryz.func29, Tryz.ntmps29
  go_wp2_with fail
  go_loop [5] (fun iv => ∃ k : Nat, k ≤ n ∧ iv = .int .i64 k ∧ Hid ((S.take k).any (fun x => x == a) = false)) (fun iv => n - (intOf iv).toNat)
  case atStart => exact ⟨0, by omega, rfl, rfl⟩
  case round =>
    obtain ⟨k, hk, rfl, Hp⟩ := hrel
    by_cases hlt : k < n
    · have lx : k < S.length := by rw [Hn.out]; exact hlt
      obtain ⟨ad, rfl, hc⟩ := hS.at_ lx
      cases ht : (S[k] == a)
      · have Ht := Lib.hid ht
        go_wp2_with fail
        go_round
        case rel => exact ⟨k + 1, by omega, by go_num, any_take_succ Hp.out lx Ht.out⟩
        case measure => simp [intOf]; omega
      · have Ht := Lib.hid ht
        go_wp2_with fail
        go_ret
        exact ⟨ret_bool (any_of (p := fun x => x == a) lx Ht.out).symm, rfl⟩
    · go_wp2_with fail
      go_ret
      refine ⟨ret_bool ?_, rfl⟩
      have hp := Hp.out
      rw [List.take_of_length_le (by rw [Hn.out]; omega)] at hp
      exact hp.symm
end Go.Proofs.YtlglonjijfpgaaaGreat

namespace Go.Proofs.YtlglonjijfpgaaaGreat
open Go.RowKit Go.Sort

theorem put_has {S : List Int} {a : Int} {k : Nat} (hk : k < S.length) (h : S[k] = a) : putL S a = S := if_pos (h ▸ List.getElem_mem hk)
theorem put_at {S : List Int} {a : Int} {k : Nat} (hs : S.Pairwise (· < ·)) (h1 : ∀ x ∈ S.take k, x < a) (h2 : ∀ h : k < S.length, a < S[k]) : putL S a = S.take k ++ a :: S.drop k := by
  have hd : ∀ x ∈ S.drop k, a < x := by
    intro x hx
    obtain ⟨i, hi, rfl⟩ := List.getElem_of_mem hx
    have hi' : k + i < S.length := by simp at hi; omega
    have hk : k < S.length := by omega
    rw [List.getElem_drop]
    rcases Nat.eq_zero_or_pos i with rfl | hp
    · exact h2 hk
    · exact Int.lt_trans (h2 hk) (List.pairwise_iff_getElem.1 hs k (k + i) hk hi' (by omega))
  have hn : a ∉ S := by
    intro h
    rw [← List.take_append_drop k S, List.mem_append] at h
    rcases h with h | h
    · exact absurd (h1 a h) (by omega)
    · exact absurd (hd a h) (by omega)
  unfold putL
  rw [if_neg hn]
  have hw : S.takeWhile (· < a) = S.take k ∧ S.dropWhile (· < a) = S.drop k := by
    have e : S = S.take k ++ S.drop k := (List.take_append_drop k S).symm
    constructor
    · conv => lhs; rw [e]
      rw [List.takeWhile_append_of_pos (by intro x hx; simpa using h1 x hx)]
      cases hc : S.drop k with
      | nil => simp
      | cons y t => have := hd y (by rw [hc]; simp); rw [List.takeWhile_cons, if_neg (by simp; omega), List.append_nil]
    · conv => lhs; rw [e]
      rw [List.dropWhile_append_of_pos (by intro x hx; simpa using h1 x hx)]
      cases hc : S.drop k with
      | nil => simp
      | cons y t => have := hd y (by rw [hc]; simp); rw [List.dropWhile_cons, if_neg (by simp; omega)]
  rw [hw.1, hw.2]
end Go.Proofs.YtlglonjijfpgaaaGreat

namespace Go.Proofs.YtlglonjijfpgaaaGreat
open Go.RowKit Go.Sort

theorem mem_putL {S : List Int} {a x : Int} : x ∈ putL S a ↔ x ∈ S ∨ x = a := by
  unfold putL
  by_cases h : a ∈ S
  · rw [if_pos h]
    constructor
    · exact .inl
    · rintro (h' | rfl)
      · exact h'
      · exact h
  · rw [if_neg h]
    have e : x ∈ S ↔ x ∈ S.takeWhile (· < a) ∨ x ∈ S.dropWhile (· < a) := by
      conv => lhs; rw [← List.takeWhile_append_dropWhile (p := fun y => decide (y < a)) (l := S)]
      rw [List.mem_append]
    rw [List.mem_append, List.mem_cons, e]
    constructor
    · rintro (h | h | h)
      · exact .inl (.inl h)
      · exact .inr h
      · exact .inl (.inr h)
    · rintro ((h | h) | h)
      · exact .inl h
      · exact .inr (.inr h)
      · exact .inr (.inl h)
theorem drop_gt : ∀ {S : List Int} {a : Int}, S.Pairwise (· < ·) → a ∉ S → ∀ x ∈ S.dropWhile (· < a), a < x
  | [], _, _, _, x, hx => by simp at hx
  | y :: t, a, hs, hn, x, hx => by
    rw [List.pairwise_cons] at hs
    simp only [List.mem_cons, not_or] at hn
    rw [List.dropWhile_cons] at hx
    by_cases h : y < a
    · rw [if_pos (by simpa using h)] at hx
      exact drop_gt hs.2 hn.2 x hx
    · rw [if_neg (by simpa using h)] at hx
      rcases List.mem_cons.1 hx with rfl | hx
      · omega
      · have := hs.1 x hx; omega
theorem take_lt {S : List Int} {a : Int} : ∀ x ∈ S.takeWhile (· < a), x < a := by
  induction S with
  | nil => intro x hx; simp at hx
  | cons y t ih =>
    intro x hx
    rw [List.takeWhile_cons] at hx
    by_cases h : y < a
    · rw [if_pos (by simpa using h)] at hx
      rcases List.mem_cons.1 hx with rfl | hx
      · exact h
      · exact ih x hx
    · rw [if_neg (by simpa using h)] at hx
      simp at hx
theorem putL_sorted {S : List Int} (hs : S.Pairwise (· < ·)) (a : Int) : (putL S a).Pairwise (· < ·) := by
  unfold putL
  by_cases h : a ∈ S
  · rw [if_pos h]; exact hs
  · rw [if_neg h, List.pairwise_append, List.pairwise_cons]
    have hd := drop_gt hs h
    refine ⟨hs.sublist (List.takeWhile_sublist _), ⟨hd, hs.sublist (List.dropWhile_sublist _)⟩, fun x hx y hy => ?_⟩
    have h1 := take_lt x hx
    rcases List.mem_cons.1 hy with rfl | hy
    · exact h1
    · have := hd y hy; omega
theorem putL_len (S : List Int) (a : Int) : (putL S a).length ≤ S.length + 1 := by
  unfold putL
  by_cases h : a ∈ S
  · rw [if_pos h]; omega
  · rw [if_neg h, List.length_append, List.length_cons]
    have : S.length = (S.takeWhile (· < a)).length + (S.dropWhile (· < a)).length := by
      conv => lhs; rw [← List.takeWhile_append_dropWhile (p := fun y => decide (y < a)) (l := S), List.length_append]
    omega
theorem putL_new {S : List Int} {a : Int} (h : a ∉ S) : (putL S a).length = S.length + 1 := by
  unfold putL
  rw [if_neg h, List.length_append, List.length_cons]
  have : S.length = (S.takeWhile (· < a)).length + (S.dropWhile (· < a)).length := by
    conv => lhs; rw [← List.takeWhile_append_dropWhile (p := fun y => decide (y < a)) (l := S), List.length_append]
  omega
theorem setB_nil (F : Fld) : setB F [] = true := rfl
theorem setB_put {F : Fld} {S : List Int} {a : Int} (h : setB F S = true) (h0 : 0 ≤ a) (h1 : a < F.op.length) : setB F (putL S a) = true := by
  have hr := ris_iff.1 h
  refine ris_iff.2 ⟨putL_sorted hr.1 a, fun x hx => ?_⟩
  rcases mem_putL.1 hx with hx | rfl
  · exact hr.2 x hx
  · omega
theorem setB_len {F : Fld} {S : List Int} (h : setB F S = true) : S.length ≤ F.op.length := by
  rw [← set_bits h]; exact bitsL_len _ _
theorem bits_any {n b a : Nat} (ha : a < n) : (bitsL n b).any (fun x => x == (a : Int)) = b.testBit a := by
  rw [Bool.eq_iff_iff, List.any_eq_true]
  constructor
  · rintro ⟨x, hx, e⟩
    obtain ⟨h0, h1, h2⟩ := mem_bitsL.1 hx
    have e' : x = a := by simpa using e
    subst e'
    simpa using h2
  · intro h
    exact ⟨a, mem_bitsL.2 ⟨by omega, by omega, by simpa using h⟩, by simp⟩
theorem bits_put {n b a : Nat} (ha : a < n) : bitsL n (b ||| 2 ^ a) = putL (bitsL n b) a := by
  refine rising_ext (bitsL_sorted _ _) (putL_sorted (bitsL_sorted _ _) _) (fun x => ?_)
  rw [mem_putL, mem_bitsL, mem_bitsL, Nat.testBit_or, Nat.testBit_two_pow, Bool.or_eq_true, decide_eq_true_eq]
  constructor
  · rintro ⟨h0, h1, h2 | h2⟩
    · exact .inl ⟨h0, h1, h2⟩
    · exact .inr (by omega)
  · rintro (⟨h0, h1, h2⟩ | rfl)
    · exact ⟨h0, h1, .inl h2⟩
    · exact ⟨by omega, by omega, .inr (by omega)⟩
theorem bits_zero (n : Nat) : bitsL n 0 = [] := by
  have : ∀ x, x ∉ bitsL n 0 := fun x hx => by have := (mem_bitsL.1 hx).2.2; simp at this
  exact List.eq_nil_iff_forall_not_mem.2 this

/-- What a site adds to the gain of a set. -/
def moreF (F : Fld) (worth : Int) (S : List Int) (a : Int) : Int := gainF F worth (putL S a) - gainF F worth S
theorem gainF_bd {F : Fld} (hg : goodF F = true) {worth : Int} (h0 : 0 ≤ worth) (h1 : worth ≤ 999) (S : List Int) : 0 ≤ gainF F worth S ∧ gainF F worth S ≤ 6993 := by
  by_cases h : S = []
  · subst h; rw [gainF_nil]; omega
  · rw [gainF_cons h]
    have := sumTo_bd (gainAt_bd (F := F) (S := S) h0 h1 (fun i => (nearF_bd hg S i).1)) F.di.length
    have h7 := (goodF_iff.1 hg).2.2.1
    omega
theorem moreF_bd {F : Fld} (hg : goodF F = true) {worth : Int} (h0 : 0 ≤ worth) (h1 : worth ≤ 999) (S : List Int) (a : Int) : -6993 ≤ moreF F worth S a ∧ moreF F worth S a ≤ 6993 := by
  have := gainF_bd hg h0 h1 S
  have := gainF_bd hg h0 h1 (putL S a)
  unfold moreF; omega

/-- The first one of the numbers below k that may be taken with the greatest value of more than 0, and this value. -/
def pickTo (ok : Nat → Bool) (val : Nat → Int) : Nat → Int × Int
  | 0 => (-1, 0)
  | k + 1 => if ok k && decide ((pickTo ok val k).2 < val k) then ((k : Int), val k) else pickTo ok val k
theorem pick_yes {ok : Nat → Bool} {val : Nat → Int} {k : Nat} (h1 : ok k = true) (h2 : (pickTo ok val k).2 < val k) : pickTo ok val (k + 1) = ((k : Int), val k) := by
  show (if _ then _ else _) = _
  rw [if_pos (by simp [h1, h2])]
theorem pick_no {ok : Nat → Bool} {val : Nat → Int} {k : Nat} (h : ok k = false) : pickTo ok val (k + 1) = pickTo ok val k := by
  show (if _ then _ else _) = _
  rw [if_neg (by simp [h])]
theorem pick_less {ok : Nat → Bool} {val : Nat → Int} {k : Nat} (h2 : ¬ (pickTo ok val k).2 < val k) : pickTo ok val (k + 1) = pickTo ok val k := by
  show (if _ then _ else _) = _
  rw [if_neg (by simp [h2])]
theorem pick_inv (ok : Nat → Bool) (val : Nat → Int) : ∀ k, pickTo ok val k = (-1, 0) ∨ ∃ a, a < k ∧ ok a = true ∧ 0 < val a ∧ pickTo ok val k = ((a : Int), val a)
  | 0 => .inl rfl
  | k + 1 => by
    have ih := pick_inv ok val k
    by_cases h : ok k = true
    · by_cases h2 : (pickTo ok val k).2 < val k
      · refine .inr ⟨k, by omega, h, ?_, pick_yes h h2⟩
        rcases ih with e | ⟨a, _, _, h3, e⟩ <;> rw [e] at h2 <;> simp at h2 <;> omega
      · rw [pick_less h2]
        rcases ih with e | ⟨a, h1, h3⟩
        · exact .inl e
        · exact .inr ⟨a, by omega, h3⟩
    · rw [pick_no (by simpa using h)]
      rcases ih with e | ⟨a, h1, h3⟩
      · exact .inl e
      · exact .inr ⟨a, by omega, h3⟩
theorem pick_bd (ok : Nat → Bool) (val : Nat → Int) (k : Nat) : -1 ≤ (pickTo ok val k).1 ∧ (pickTo ok val k).1 < k ∧ 0 ≤ (pickTo ok val k).2 := by
  rcases pick_inv ok val k with e | ⟨a, h1, _, h3, e⟩ <;> rw [e] <;> simp <;> omega
theorem pick_neg (ok : Nat → Bool) (val : Nat → Int) (k : Nat) : (pickTo ok val k).1 < 0 ↔ (pickTo ok val k).2 = 0 := by
  rcases pick_inv ok val k with e | ⟨a, h1, _, h3, e⟩ <;> rw [e] <;> simp <;> omega
theorem pick_congr {ok ok' : Nat → Bool} {val val' : Nat → Int} : ∀ k, (∀ a, a < k → ok a = ok' a) → (∀ a, a < k → ok a = true → val a = val' a) → pickTo ok val k = pickTo ok' val' k
  | 0, _, _ => rfl
  | k + 1, h1, h2 => by
    have ih := pick_congr k (fun a ha => h1 a (by omega)) (fun a ha => h2 a (by omega))
    show (if _ then _ else _) = (if _ then _ else _)
    rw [ih, ← h1 k (by omega)]
    by_cases h : ok k = true
    · rw [h2 k (by omega) h]
    · have : ok k = false := by simpa using h
      simp [this]

/-- Which sites may be put into a set. -/
def okF (may : List Int → Bool) (S : List Int) (a : Nat) : Bool := !(S.any fun x => x == (a : Int)) && may (putL S a)
/-- The site that is taken next, and what it adds. -/
def nextTo (F : Fld) (worth : Int) (may : List Int → Bool) (S : List Int) (k : Nat) : Int × Int := pickTo (okF may S) (fun a => moreF F worth S a) k
def nextF (F : Fld) (worth : Int) (may : List Int → Bool) (S : List Int) : Int × Int := nextTo F worth may S F.op.length
/-- At most j more sites, each one with the greatest marginal gain. -/
def grd (F : Fld) (worth : Int) (may : List Int → Bool) : Nat → List Int → List Int → List Int
  | 0, out, _ => out
  | j + 1, out, S => if (nextF F worth may S).1 < 0 then out else grd F worth may j (out ++ [(nextF F worth may S).1]) (putL S (nextF F worth may S).1)
theorem grd_zero {F : Fld} {worth : Int} {may : List Int → Bool} {out S : List Int} : grd F worth may 0 out S = out := rfl
theorem grd_stop {F : Fld} {worth : Int} {may : List Int → Bool} {j : Nat} {out S : List Int} (h : (nextF F worth may S).1 < 0) : grd F worth may j out S = out := by
  cases j with
  | zero => rfl
  | succ j => exact if_pos h
theorem grd_go {F : Fld} {worth : Int} {may : List Int → Bool} {j : Nat} {out S : List Int} (h : ¬ (nextF F worth may S).1 < 0) : grd F worth may (j + 1) out S = grd F worth may j (out ++ [(nextF F worth may S).1]) (putL S (nextF F worth may S).1) := if_neg h
theorem okF_out {may : List Int → Bool} {S : List Int} {a : Nat} (h : okF may S a = true) : (a : Int) ∉ S := by
  simp only [okF, Bool.and_eq_true] at h
  intro hm
  have h1 := h.1
  rw [List.any_eq_true.2 ⟨_, hm, by simp⟩] at h1
  simp at h1
theorem next_new {F : Fld} {worth : Int} {may : List Int → Bool} {S : List Int} (h : ¬ (nextF F worth may S).1 < 0) : (nextF F worth may S).1 ∉ S ∧ (nextF F worth may S).1 < F.op.length := by
  rcases pick_inv (okF may S) (fun a => moreF F worth S a) F.op.length with e | ⟨a, h1, h2, _, e⟩
  · refine absurd ?_ h
    show (pickTo _ _ _).1 < 0
    rw [e]; simp
  · show (pickTo _ _ _).1 ∉ S ∧ (pickTo _ _ _).1 < _
    rw [e]
    exact ⟨okF_out h2, by simpa using h1⟩
theorem grd_len {F : Fld} {worth : Int} {may : List Int → Bool} : ∀ (j : Nat) (out S : List Int), (grd F worth may j out S).length ≤ out.length + j
  | 0, out, S => Nat.le_refl _
  | j + 1, out, S => by
    by_cases h : (nextF F worth may S).1 < 0
    · rw [grd_stop h]; omega
    · rw [grd_go h]
      have := grd_len (F := F) (worth := worth) (may := may) j (out ++ [(nextF F worth may S).1]) (putL S (nextF F worth may S).1)
      simp at this; omega
/-- A set of all sites has no next one. -/
theorem next_full {F : Fld} {worth : Int} {may : List Int → Bool} {S : List Int} (hs : setB F S = true) (hl : S.length = F.op.length) : (nextF F worth may S).1 < 0 := by
  by_cases h : (nextF F worth may S).1 < 0
  · exact h
  · obtain ⟨h1, h2⟩ := next_new h
    have h3 := setB_len (setB_put hs (by omega) h2)
    rw [putL_new h1] at h3
    omega
end Go.Proofs.YtlglonjijfpgaaaGreat

namespace Go.Proofs.YtlglonjijfpgaaaGreat
open Go.RowKit Go.Sort

theorem fold_min {F : Fld} {i : Nat} : ∀ (L : List Int) (b : Int), dAt F i (L.foldl (stepS F i) b) ≤ dAt F i b ∧ ∀ a ∈ L, dAt F i (L.foldl (stepS F i) b) ≤ dAt F i a
  | [], b => ⟨Int.le_refl _, by simp⟩
  | x :: L, b => by
    have h := fold_min (F := F) (i := i) L (stepS F i b x)
    have hb : dAt F i (stepS F i b x) ≤ dAt F i b ∧ dAt F i (stepS F i b x) ≤ dAt F i x := by
      unfold stepS; split <;> constructor <;> omega
    refine ⟨Int.le_trans h.1 hb.1, fun a ha => ?_⟩
    rcases List.mem_cons.1 ha with rfl | ha
    · exact Int.le_trans h.1 hb.2
    · exact h.2 a ha
theorem near_le {F : Fld} {i : Nat} {S : List Int} {x : Int} (hx : x ∈ S) : nearF F i S ≤ dAt F i x := by
  cases S with
  | nil => cases hx
  | cons y t =>
    have h := fold_min (F := F) (i := i) (y :: t) y
    exact h.2 x hx
theorem near_is {F : Fld} {i : Nat} {S : List Int} (hne : S ≠ []) : ∃ x ∈ S, nearF F i S = dAt F i x := ⟨siteF F i S, siteF_mem hne, rfl⟩
end Go.Proofs.YtlglonjijfpgaaaGreat

namespace Go.Proofs.YtlglonjijfpgaaaGreat
open Go.RowKit Go.Sort

/-- What a client is worth for a set, 0 for the set without sites. -/
def topF (F : Fld) (worth : Int) (S : List Int) (i : Nat) : Int := if S = [] then 0 else gainAt F worth S i
theorem gainF_top (F : Fld) (worth : Int) (S : List Int) : gainF F worth S = sumTo (topF F worth S) F.di.length := by
  by_cases h : S = []
  · subst h
    rw [gainF_nil]
    have : ∀ k, sumTo (topF F worth []) k = 0 := fun k => by
      induction k with
      | zero => rfl
      | succ k ih => rw [sumTo_succ, ih]; simp [topF]
    exact (this _).symm
  · rw [gainF_cons h]
    have : topF F worth S = gainAt F worth S := by funext i; simp [topF, h]
    rw [this]
theorem top_le {F : Fld} {worth c : Int} {S : List Int} {i : Nat} : topF F worth S i ≤ c ↔ (S = [] → 0 ≤ c) ∧ (S ≠ [] → 0 ≤ c) ∧ ∀ x ∈ S, worth - dAt F i x ≤ c := by
  by_cases h : S = []
  · subst h
    simp [topF]
  · have e : topF F worth S i = max 0 (worth - nearF F i S) := by simp [topF, h, gainAt]
    rw [e]
    constructor
    · intro h1
      refine ⟨fun h2 => absurd h2 h, fun _ => by omega, fun x hx => ?_⟩
      have := near_le (F := F) (i := i) hx
      omega
    · rintro ⟨_, h2, h3⟩
      obtain ⟨x, hx, e2⟩ := near_is (F := F) (i := i) h
      have := h3 x hx
      have := h2 h
      omega
theorem top_le' {F : Fld} {worth c : Int} {S : List Int} {i : Nat} (h0 : 0 ≤ c) (h : ∀ x ∈ S, worth - dAt F i x ≤ c) : topF F worth S i ≤ c := top_le.2 ⟨fun _ => h0, fun _ => h0, h⟩
theorem top_nn (F : Fld) (worth : Int) (S : List Int) (i : Nat) : 0 ≤ topF F worth S i := by
  by_cases h : S = []
  · simp [topF, h]
  · simp [topF, h, gainAt]; omega
theorem le_top {F : Fld} {worth : Int} {S : List Int} {i : Nat} {x : Int} (hx : x ∈ S) : worth - dAt F i x ≤ topF F worth S i := (top_le.1 (Int.le_refl _)).2.2 x hx
theorem top_mono {F : Fld} {worth : Int} {S T : List Int} (h : ∀ x ∈ S, x ∈ T) (i : Nat) : topF F worth S i ≤ topF F worth T i :=
  top_le' (top_nn _ _ _ _) (fun x hx => le_top (h x hx))
theorem sumTo_mono {g h : Nat → Int} (e : ∀ i, g i ≤ h i) : ∀ k, sumTo g k ≤ sumTo h k
  | 0 => by simp [sumTo_zero]
  | k + 1 => by rw [sumTo_succ, sumTo_succ]; have := sumTo_mono e k; have := e k; omega
theorem sumTo_add (g h : Nat → Int) : ∀ k, sumTo (fun i => g i + h i) k = sumTo g k + sumTo h k
  | 0 => by simp [sumTo_zero]
  | k + 1 => by rw [sumTo_succ, sumTo_succ, sumTo_succ, sumTo_add g h k]; omega
/-- More sites do not make the gain less. -/
theorem gain_mono {F : Fld} {worth : Int} {S T : List Int} (h : ∀ x ∈ S, x ∈ T) : gainF F worth S ≤ gainF F worth T := by
  rw [gainF_top, gainF_top]
  exact sumTo_mono (top_mono h) _
/-- Two sets have at least the gain of what is in both and of what is in one of them. -/
theorem gain_submod {F : Fld} {worth : Int} {S T U V : List Int} (hU : ∀ x ∈ U, x ∈ S ∧ x ∈ T) (hV : ∀ x ∈ V, x ∈ S ∨ x ∈ T) : gainF F worth U + gainF F worth V ≤ gainF F worth S + gainF F worth T := by
  rw [gainF_top, gainF_top, gainF_top, gainF_top, ← sumTo_add, ← sumTo_add]
  refine sumTo_mono (fun i => ?_) _
  have h1 := top_mono (F := F) (worth := worth) (fun x hx => (hU x hx).1) i
  have h2 := top_mono (F := F) (worth := worth) (fun x hx => (hU x hx).2) i
  have n1 := top_nn F worth S i
  have n2 := top_nn F worth T i
  have h3 : topF F worth V i ≤ max (topF F worth S i) (topF F worth T i) := top_le' (by omega) (fun x hx => by
    rcases hV x hx with h | h
    · have := le_top (F := F) (worth := worth) (i := i) h; omega
    · have := le_top (F := F) (worth := worth) (i := i) h; omega)
  omega
end Go.Proofs.YtlglonjijfpgaaaGreat

namespace Go.Proofs.YtlglonjijfpgaaaGreat
open Go.RowKit Go.Sort

theorem gain_eq {F : Fld} {worth : Int} {S T : List Int} (h : ∀ x, x ∈ S ↔ x ∈ T) : gainF F worth S = gainF F worth T :=
  Int.le_antisymm (gain_mono fun x hx => (h x).1 hx) (gain_mono fun x hx => (h x).2 hx)
theorem more_nn (F : Fld) (worth : Int) (S : List Int) (a : Int) : 0 ≤ moreF F worth S a := by
  have := gain_mono (F := F) (worth := worth) (S := S) (T := putL S a) (fun x hx => mem_putL.2 (.inl hx))
  unfold moreF; omega
theorem more_in {F : Fld} {worth : Int} {S : List Int} {a : Int} (h : a ∈ S) : moreF F worth S a = 0 := by
  have := gain_eq (F := F) (worth := worth) (S := putL S a) (T := S) (fun x => by
    rw [mem_putL]
    exact ⟨fun hx => by rcases hx with hx | rfl; exact hx; exact h, .inl⟩)
  unfold moreF; omega
/-- What a site adds does not grow with the set. -/
theorem more_anti {F : Fld} {worth : Int} {S S' : List Int} {a : Int} (h : ∀ x ∈ S, x ∈ S') : moreF F worth S' a ≤ moreF F worth S a := by
  by_cases ha : a ∈ S'
  · rw [more_in ha]; exact more_nn _ _ _ _
  · have := gain_submod (F := F) (worth := worth) (S := putL S a) (T := S') (U := S) (V := putL S' a) (fun x hx => ⟨mem_putL.2 (.inl hx), h x hx⟩) (fun x hx => by
      rcases mem_putL.1 hx with hx | rfl
      · exact .inr hx
      · exact .inl (mem_putL.2 (.inr rfl)))
    unfold moreF; omega
theorem gain_put {F : Fld} {worth : Int} {S : List Int} {a : Int} : gainF F worth (putL S a) = gainF F worth S + moreF F worth S a := by unfold moreF; omega
/-- A list of sites adds at most what its sites add. -/
theorem gain_app {F : Fld} {worth : Int} (S : List Int) : ∀ T : List Int, gainF F worth (S ++ T) ≤ gainF F worth S + (T.map (moreF F worth S)).sum
  | [] => by simp
  | x :: t => by
    have ih := gain_app (F := F) (worth := worth) S t
    have h := gain_submod (F := F) (worth := worth) (S := S ++ t) (T := putL S x) (U := S) (V := S ++ x :: t) (fun y hy => ⟨List.mem_append.2 (.inl hy), mem_putL.2 (.inl hy)⟩) (fun y hy => by
      rcases List.mem_append.1 hy with hy | hy
      · exact .inl (List.mem_append.2 (.inl hy))
      · rcases List.mem_cons.1 hy with rfl | hy
        · exact .inr (mem_putL.2 (.inr rfl))
        · exact .inl (List.mem_append.2 (.inr hy)))
    rw [gain_put] at h
    rw [List.map_cons, List.sum_cons]
    omega
theorem gain_more {F : Fld} {worth : Int} (S T : List Int) : gainF F worth T ≤ gainF F worth S + (T.map (moreF F worth S)).sum := by
  have h1 := gain_mono (F := F) (worth := worth) (S := T) (T := S ++ T) (fun x hx => List.mem_append.2 (.inr hx))
  have h2 := gain_app (F := F) (worth := worth) S T
  omega
theorem pick_max (ok : Nat → Bool) (val : Nat → Int) : ∀ k b : Nat, b < k → ok b = true → val b ≤ (pickTo ok val k).2
  | 0, b, hb, _ => by omega
  | k + 1, b, hb, ho => by
    have ih := pick_max ok val k
    by_cases h : ok k = true
    · by_cases h2 : (pickTo ok val k).2 < val k
      · rw [pick_yes h h2]
        by_cases hk : b = k
        · subst hk; exact Int.le_refl _
        · have := ih b (by omega) ho; show val b ≤ val k; omega
      · rw [pick_less h2]
        by_cases hk : b = k
        · subst hk; omega
        · exact ih b (by omega) ho
    · rw [pick_no (by simpa using h)]
      by_cases hk : b = k
      · subst hk; exact absurd ho h
      · exact ih b (by omega) ho
theorem pick_first (ok : Nat → Bool) (val : Nat → Int) : ∀ k b : Nat, b < k → (b : Int) < (pickTo ok val k).1 → ok b = true → val b < (pickTo ok val k).2
  | 0, b, hb, _, _ => by omega
  | k + 1, b, hb, hl, ho => by
    have ih := pick_first ok val k
    have hbd := pick_bd ok val k
    by_cases h : ok k = true
    · by_cases h2 : (pickTo ok val k).2 < val k
      · rw [pick_yes h h2] at hl ⊢
        have h3 : (b : Int) < (k : Int) := hl
        have := pick_max ok val k b (by omega) ho
        show val b < val k
        omega
      · rw [pick_less h2] at hl ⊢
        exact ih b (by omega) hl ho
    · rw [pick_no (by simpa using h)] at hl ⊢
      exact ih b (by omega) hl ho
/-- The one that has the greatest value, the first such, is picked. -/
theorem pick_is {ok : Nat → Bool} {val : Nat → Int} {n a : Nat} (ha : a < n) (ho : ok a = true) (hp : 0 < val a) (h1 : ∀ b, b < n → ok b = true → val b ≤ val a) (h2 : ∀ b, b < a → ok b = true → val b < val a) : pickTo ok val n = ((a : Int), val a) := by
  have hm := pick_max ok val n a ha ho
  rcases pick_inv ok val n with e | ⟨c, hc, hco, _, e⟩
  · rw [e] at hm; exact absurd hm (by show ¬ val a ≤ 0; omega)
  · rw [e] at hm
    have hm2 : val a ≤ val c := hm
    have h3 := h1 c hc hco
    by_cases hca : c = a
    · subst hca; exact e
    · rcases Nat.lt_or_gt_of_ne hca with h4 | h4
      · have := h2 c h4 hco; omega
      · have h5 := pick_first ok val n a ha (by rw [e]; show (a : Int) < (c : Int); omega) ho
        rw [e] at h5
        have h6 : val a < val c := h5
        omega
theorem pick_none {ok : Nat → Bool} {val : Nat → Int} {n : Nat} (h : ∀ b, b < n → ok b = true → val b ≤ 0) : pickTo ok val n = (-1, 0) := by
  rcases pick_inv ok val n with e | ⟨c, hc, hco, h3, e⟩
  · exact e
  · have := h c hc hco; omega
theorem sum_le_len {g : Int → Int} {m : Int} : ∀ {T : List Int}, (∀ x ∈ T, g x ≤ m) → (T.map g).sum ≤ T.length * m
  | [], _ => by simp
  | x :: t, h => by
    have h1 := sum_le_len (T := t) (fun y hy => h y (List.mem_cons_of_mem _ hy))
    have h2 := h x List.mem_cons_self
    rw [List.map_cons, List.sum_cons, List.length_cons, Int.natCast_add, Int.add_mul]
    omega
theorem anyS_ok {S : List Int} {a : Nat} (h : (a : Int) ∉ S) {may : List Int → Bool} (hm : may (putL S a) = true) : okF may S a = true := by
  unfold okF
  rw [hm, Bool.and_true, Bool.not_eq_true', List.any_eq_false]
  intro x hx e
  have : x = (a : Int) := by simpa using e
  subst this
  exact h hx
/-- The next site adds as much as any that may be put in. -/
theorem next_max {F : Fld} {worth : Int} {may : List Int → Bool} {S : List Int} {x : Int} (h0 : 0 ≤ x) (h1 : x < F.op.length) (hm : may (putL S x) = true ∨ x ∈ S) : moreF F worth S x ≤ (nextF F worth may S).2 := by
  by_cases hx : x ∈ S
  · rw [more_in hx]; exact (pick_bd _ _ _).2.2
  · obtain ⟨a, rfl⟩ := Int.eq_ofNat_of_zero_le h0
    have hm : may (putL S a) = true := hm.resolve_right hx
    exact pick_max (okF may S) (fun a => moreF F worth S a) F.op.length a (by omega) (anyS_ok hx hm)
theorem next_more {F : Fld} {worth : Int} {may : List Int → Bool} {S : List Int} (h : ¬ (nextF F worth may S).1 < 0) : (nextF F worth may S).2 = moreF F worth S (nextF F worth may S).1 := by
  rcases pick_inv (okF may S) (fun a => moreF F worth S a) F.op.length with e | ⟨a, _, _, _, e⟩
  · exact absurd (show (pickTo _ _ _).1 < 0 by rw [e]; decide) h
  · show (pickTo _ _ _).2 = moreF F worth S (pickTo _ _ _).1
    rw [e]
theorem mul_step {K A B u m : Int} (hK : 1 ≤ K) (hA : 0 ≤ A) (h1 : A * u ≤ B) (h2 : u ≤ K * m) : K * A * (u - m) ≤ (K - 1) * B := by
  have e1 : K * A * (u - m) = K * (A * u) - A * (K * m) := by
    rw [Int.mul_sub, Int.mul_assoc, Int.mul_comm K A, Int.mul_assoc]
  have h3 : A * u ≤ A * (K * m) := Int.mul_le_mul_of_nonneg_left h2 hA
  have h4 : (K - 1) * (A * u) ≤ (K - 1) * B := Int.mul_le_mul_of_nonneg_left h1 (by omega)
  have e2 : (K - 1) * (A * u) = K * (A * u) - A * u := by rw [Int.sub_mul, Int.one_mul]
  rw [e1]; omega
/-- The share that greedy sites reach of the gain of any set of at most K sites. -/
theorem grd_share {F : Fld} {worth : Int} {K : Nat} (hK : 1 ≤ K) {T : List Int} (hT : ∀ x ∈ T, 0 ≤ x ∧ x < (F.op.length : Int)) (hl : T.length ≤ K) : ∀ (j : Nat) (out S : List Int) (A B : Int), (∀ x, x ∈ out ↔ x ∈ S) → 0 ≤ A → 0 ≤ B → A * (gainF F worth T - gainF F worth S) ≤ B →
    (K : Int) ^ j * A * (gainF F worth T - gainF F worth (grd F worth (fun _ => true) j out S)) ≤ ((K : Int) - 1) ^ j * B
  | 0, out, S, A, B, hm, hA, hB, h => by
    rw [grd_zero, gain_eq hm, Int.pow_zero, Int.pow_zero, Int.one_mul, Int.one_mul]
    exact h
  | j + 1, out, S, A, B, hm, hA, hB, h => by
    have hsum := gain_more (F := F) (worth := worth) S T
    have hle := sum_le_len (g := moreF F worth S) (m := (nextF F worth (fun _ => true) S).2) (T := T) (fun x hx => next_max (hT x hx).1 (hT x hx).2 (.inl rfl))
    have hnn : 0 ≤ (nextF F worth (fun _ => true) S).2 := (pick_bd _ _ _).2.2
    have hlK : (T.length : Int) * (nextF F worth (fun _ => true) S).2 ≤ (K : Int) * (nextF F worth (fun _ => true) S).2 := Int.mul_le_mul_of_nonneg_right (by omega) hnn
    by_cases hs : (nextF F worth (fun _ => true) S).1 < 0
    · rw [grd_stop hs, gain_eq hm]
      have h0 : (nextF F worth (fun _ => true) S).2 = 0 := (pick_neg _ _ _).1 hs
      rw [h0, Int.mul_zero] at hle
      have h1 : gainF F worth T - gainF F worth S ≤ 0 := by omega
      have h2 : 0 ≤ (K : Int) ^ (j + 1) * A := Int.mul_nonneg (Int.pow_nonneg (by omega)) hA
      have h3 : (K : Int) ^ (j + 1) * A * (gainF F worth T - gainF F worth S) ≤ 0 := Int.mul_nonpos_of_nonneg_of_nonpos h2 h1
      have h4 : 0 ≤ ((K : Int) - 1) ^ (j + 1) * B := Int.mul_nonneg (Int.pow_nonneg (by omega)) hB
      omega
    · rw [grd_go hs]
      obtain ⟨a, ha⟩ : ∃ a, a = (nextF F worth (fun _ => true) S).1 := ⟨_, rfl⟩
      have hmo := next_more hs
      rw [← ha] at hmo ⊢
      have hu : gainF F worth T - gainF F worth S ≤ (K : Int) * moreF F worth S a := by rw [← hmo]; omega
      have hstep := mul_step (K := (K : Int)) (by omega) hA h hu
      have e1 : gainF F worth T - gainF F worth S - moreF F worth S a = gainF F worth T - gainF F worth (putL S a) := by rw [gain_put]; omega
      rw [e1] at hstep
      have ih := grd_share hK hT hl j (out ++ [a]) (putL S a) ((K : Int) * A) (((K : Int) - 1) * B) (fun x => by
        rw [mem_putL, List.mem_append, hm x]; simp) (Int.mul_nonneg (by omega) hA) (Int.mul_nonneg (by omega) hB) hstep
      have e2 : (K : Int) ^ (j + 1) * A = (K : Int) ^ j * ((K : Int) * A) := by rw [Int.pow_succ, Int.mul_assoc]
      have e3 : ((K : Int) - 1) ^ (j + 1) * B = ((K : Int) - 1) ^ j * (((K : Int) - 1) * B) := by rw [Int.pow_succ, Int.mul_assoc]
      rw [e2, e3]
      exact ih
end Go.Proofs.YtlglonjijfpgaaaGreat

namespace Go.Proofs.YtlglonjijfpgaaaGreat
def lget (xs : List Int) (k : Nat) : Int := xs.getD k 0
theorem lget_at {xs : List Int} {k : Nat} (h : k < xs.length) : lget xs k = xs[k] := by simp [lget, List.getD, h]
end Go.Proofs.YtlglonjijfpgaaaGreat

namespace Go.Proofs.YtlglonjijfpgaaaGreat
open Go.RowKit Go.Sort

/-- A slot of a slice of the call's own: read and written. -/
theorem Own.slot {w : World} {base g n cap j : Nat} {xs : List Int} (h : Own w base (.slice (some ⟨g, 0, none⟩) n cap) xs) (hn : xs.length = n) (hj : j < n) :
    w.cell? ⟨g, j, none⟩ = some (.int .i64 (xs.getD j 0)) ∧ w.frozen? ⟨g, j, none⟩ = false ∧
    ∀ z : Int, Own (w.setCell ⟨g, j, none⟩ (.int .i64 z)) base (.slice (some ⟨g, 0, none⟩) n cap) (xs.set j z) ∧ Turn (fun i => i = g) w (w.setCell ⟨g, j, none⟩ (.int .i64 z)) := by
  have h' : w.ownsRow base 3 1 (.slice (some ⟨g, 0, none⟩) n cap) n (xs.map (Value.int .i64)) := by
    have := h; unfold Own at this; rw [hn] at this; exact this
  refine ⟨?_, h'.frozenAt j, fun z => ?_⟩
  · rw [h'.cellAt j (by omega), List.getElem?_map]
    have : j < xs.length := by omega
    simp [List.getD, this]
  · have hs := h'.stored j (.int .i64 z)
    refine ⟨?_, (Turn.of_grown hs.2).mono (fun i hi => by simpa using hi.symm)⟩
    have h2 := hs.1
    rw [← List.map_set] at h2
    unfold Own
    rw [List.length_set, hn]; exact h2
/-- A slot of a slice of the call's own: read, written, and written while another such slice stays. -/
theorem Own.slotL {w : World} {base g n cap j : Nat} {xs : List Int} (h : Own w base (.slice (some ⟨g, 0, none⟩) n cap) xs) (hn : xs.length = n) (hj : j < n) :
    w.cell? ⟨g, j, none⟩ = some (.int .i64 (lget xs j)) ∧ w.frozen? ⟨g, j, none⟩ = false ∧
    ∀ z : Int, Own (w.setCell ⟨g, j, none⟩ (.int .i64 z)) base (.slice (some ⟨g, 0, none⟩) n cap) (xs.set j z) ∧ Turn (fun i => i = g) w (w.setCell ⟨g, j, none⟩ (.int .i64 z)) := h.slot hn hj
theorem Own.not_block {w w' : World} {base g n cap : Nat} {v : Value} {xs : List Int} (h : Own w base v xs) (ha : Apart v (.slice (some ⟨g, 0, none⟩) n cap)) (ht : Turn (fun i => i = g) w w') : Own w' base v xs :=
  h.turn ht (fun k hk e => ha k hk (by subst e; rfl))
theorem Own.at0 {w : World} {base n : Nat} {v : Value} {xs : List Int} (h : Own w base v xs) (hn : xs.length = n) (hp : 0 < n) : ∃ g cap, v = .slice (some ⟨g, 0, none⟩) n cap := by
  rcases h.2 with ⟨_, h0⟩ | ⟨g, cap, cur, e, _⟩
  · omega
  · exact ⟨g, cap, by rw [e, hn]⟩
def sLen : Value → Nat
  | .slice _ n _ => n
  | _ => 0
theorem own_made (w : World) (base n : Nat) (hb : base ≤ w.heap.size) (hn : n ≤ 1048576) : Own (w.alloc (.cells (madeCells #[.int .i64 0] n) 3)) base (.slice (some ⟨w.heap.size, 0, none⟩) n n) (List.replicate n 0) := by
  have hr : IntRow (w.alloc (.cells (madeCells #[.int .i64 0] n) 3)) w.heap.size (List.replicate n 0) := by
    unfold IntRow
    rw [List.length_replicate]
    exact (World.rowIs_made w (.int .i64 0) n 3).congr (fun i hi => by simp [List.getD, hi])
  have := Own.of_row hr hb (by simp; omega)
  rw [List.length_replicate] at this
  exact this
end Go.Proofs.YtlglonjijfpgaaaGreat

namespace Go.Proofs.YtlglonjijfpgaaaGreat
open Go.RowKit Go.Sort

/-- append of a whole list of numbers to a slice of the call's own. -/
theorem wpl_appAll {ops : Array Oper} {rest : List Oper} {o : Oper} {a : Act} {Q : Exit → Act → World → Prop} {W : World} (hgd : o.guard = none) (s x : Operand)
    (ho : o.op = .call { callee := .builtin .append, args := #[s, x], argTypes := #[24, 24] }) (base : Nat) (v : Value) (xs ys : List Int) (ad : Addr) (m c : Nat)
    (hs : a.eval s = v) (hx : a.eval x = .slice (some ad) m c) (hown : Own W base v xs) (hy : IntsAt W (some ad) ys) (hym : ys.length = m) (hbase : base ≤ W.heap.size) (hlen : xs.length + ys.length ≤ 4194304)
    (h : ∀ v' w', Own w' base v' (xs ++ ys) → Turn (fun i => v.ownBlock = some i) W w' → (v'.ownBlock = v.ownBlock ∨ ∀ g, v'.ownBlock = some g → W.heap.size ≤ g) → wpList Tryz.prog ops Q rest (a.put o.dst v') w') :
    wpList Tryz.prog ops Q (o :: rest) a W := by
  obtain ⟨i0, hi, hz0, hz1, hz2⟩ := info_parts infoInt
  refine wpList_append_own_at _ hgd s x 24 ho base 3 i0 (.int .i64 0) 1 8 Tryz.underlying24 hi hz0 hz1 hz2 rfl (by decide) v xs.length (xs.map (Value.int .i64)) hs hown ad m c (ys.map (Value.int .i64)) hx (by simp [hym]) ?_ (ints_oneCell _ _) ?_ ?_ hbase ?_
  · intro j u hj
    by_cases hlt : j < ys.length
    · rw [List.getElem?_map, List.getElem?_eq_getElem hlt] at hj
      have e : u = .int .i64 ys[j] := by simpa using hj.symm
      rw [e]; exact hy.some_ hlt
    · rw [List.getElem?_eq_none (by simpa using hlt)] at hj; cases hj
  · unfold maxLen; omega
  · omega
  · intro v' w' h2 h3 _ h4
    refine h v' w' ?_ (Turn.of_grown h3) ?_
    · unfold Own
      rw [List.length_append, List.map_append, hym]
      exact h2
    · rcases h4 with e | e
      · exact .inl e
      · exact .inr (fun g hg => by rw [e] at hg; simp at hg; omega)

theorem clone_some (ad : Addr) (xs : List Int) (n c : Nat) (w : World) (hx : IntsAt w (some ad) xs) (hn : xs.length = n) (hb : n ≤ 1048576) :
    Calls Tryz.prog 61 #[.slice (some ad) n c] w fun e w' => ∃ v, e = .returned v ∧ Own w' w.heap.size v xs ∧ Kp w w' := by
  have Hn := Lib.hid hn; clear hn
  have hq := fun (w : World) (a : Option Addr) (n c : Nat) => Lib.run_eql_slice_nil (P := Tryz.prog) w 24 3 a n c 0 0 Tryz.underlying24
  have hlen : ([] : List Int).length + xs.length ≤ 4194304 := by rw [Hn.out]; simp; omega
  have ho0 := own_new0 w w.heap.size (Nat.le_refl _)
  have hk0 := (Kp.refl w).alloc (.cells #[] 3)
  go_enter Tryz.func61, Tryz.ntmps61
  go_wp2_with (at_builtin; refine wpl_appAll rfl (.tmp 5) (.tmp 6) rfl w.heap.size _ [] xs ad n c rfl rfl ho0 (hx.kp hk0) Hn.out hk0.le hlen ?_; intro v' w' ho' ht' _; have hk4 := ho0.kp_turn hk0 (Nat.le_refl _) ht')
  go_ret
  exact ⟨_, rfl, by simpa using ho', hk4⟩

theorem min_any (A : Option Addr) (xs : List Int) (n c : Nat) (w : World) (hx : IntsAt w A xs) (hn : xs.length = n) (hp : 0 < n) :
    Calls Tryz.prog 62 #[.slice A n c] w fun e w' => ∃ r : Int, e = .returned (.int .i64 r) ∧ r ∈ xs ∧ (∀ x ∈ xs, r ≤ x) ∧ w = w' := by
  have hm : n ≤ 9223372036854775807 := hn ▸ hx.1
  have Hn := Lib.hid hn; clear hn
  have lx0 : 0 < xs.length := by rw [Hn.out]; exact hp
  obtain ⟨ad, rfl, hc0⟩ := hx.at_ lx0
  rw [show ad.add 0 = ad from rfl] at hc0
  have hp1 : (0 : Int) < n := by omega
  have hp2 : ¬ (n : Int) < 1 := by omega
  go_enter Tryz.func62, Tryz.ntmps62
  go_wp2_with fail
  go_loop [3, 4] (fun mv ix => ∃ (k : Nat) (r : Int), 1 ≤ k ∧ k ≤ n ∧ ix = .int .i64 k ∧ mv = .int .i64 r ∧ Hid (r ∈ xs) ∧ Hid (∀ x ∈ xs.take k, r ≤ x)) (fun _ ix => n - (intOf ix).toNat)
  case atStart =>
    refine ⟨1, xs[0], by omega, by omega, rfl, rfl, List.getElem_mem lx0, ?_⟩
    intro x hx'
    rw [List.take_succ_eq_append_getElem lx0] at hx'
    simp at hx'
    omega
  case round =>
    obtain ⟨k, r, hk1, hk, rfl, rfl, Hr, Hall⟩ := hrel
    by_cases hlt : k < n
    · have lx : k < xs.length := by rw [Hn.out]; exact hlt
      have hck := hx.some_ lx
      go_wp2_with fail
      go_round
      case rel =>
        refine ⟨k + 1, min r xs[k], by omega, by omega, by go_num, ?_, ?_, ?_⟩
        · first
            | rfl
            | (congr 1; split <;> omega)
            | (congr 1; omega)
        · show min r xs[k] ∈ xs
          by_cases hle : r ≤ xs[k]
          · rw [Int.min_eq_left hle]; exact Hr
          · rw [Int.min_eq_right (by omega)]; exact List.getElem_mem lx
        · show ∀ x ∈ xs.take (k + 1), min r xs[k] ≤ x
          intro x hx'
          rw [List.take_succ_eq_append_getElem lx, List.mem_append] at hx'
          rcases hx' with h | h
          · have := Hall.out x h
            omega
          · simp at h
            omega
      case measure => simp [intOf]; omega
    · obtain rfl : k = n := by omega
      go_wp2_with fail
      go_ret
      refine ⟨r, rfl, Hr, ?_, rfl⟩
      have := Hall.out
      rw [List.take_of_length_le (by rw [Hn.out]; omega)] at this
      exact this
end Go.Proofs.YtlglonjijfpgaaaGreat

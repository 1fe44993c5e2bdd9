/- Sets as binary numbers, and as rising lists: plain words. No condition. -/
import Derived.Test.YtjoebikljmkhfaaServe
namespace Go.Proofs.Ytjoebikljmkhfaa
open Go.RowKit Go.Sort

/-- The members below n of the set with the number b, rising. -/
def bitsN (n b : Nat) : List Nat := (List.range n).filter (fun x => b.testBit x)
def bitsL (n b : Nat) : List Int := (bitsN n b).map fun (x : Nat) => (x : Int)
theorem bitsN_succ (n b : Nat) : bitsN (n + 1) b = bitsN n b ++ if b.testBit n then [n] else [] := by
  unfold bitsN
  rw [List.range_succ, List.filter_append]
  by_cases h : b.testBit n = true <;> simp [h]
theorem bitsL_yes {n b : Nat} (h : b.testBit n = true) : bitsL (n + 1) b = bitsL n b ++ [(n : Int)] := by simp [bitsL, bitsN_succ, h]
theorem bitsL_no {n b : Nat} (h : b.testBit n = false) : bitsL (n + 1) b = bitsL n b := by simp [bitsL, bitsN_succ, h]
theorem bitsL_len (n b : Nat) : (bitsL n b).length ≤ n := by
  unfold bitsL bitsN
  rw [List.length_map]
  exact Nat.le_trans (List.length_filter_le _ _) (by simp)
theorem mem_bitsL {n b : Nat} {x : Int} : x ∈ bitsL n b ↔ 0 ≤ x ∧ x < n ∧ b.testBit x.toNat = true := by
  simp only [bitsL, bitsN, List.mem_map, List.mem_filter, List.mem_range]
  constructor
  · rintro ⟨k, ⟨h1, h2⟩, rfl⟩
    exact ⟨by omega, by omega, by simpa using h2⟩
  · rintro ⟨h0, h1, h2⟩
    exact ⟨x.toNat, ⟨by omega, h2⟩, by omega⟩
theorem bitsL_more {n m b : Nat} (h : b < 2 ^ n) (hm : n ≤ m) : bitsL m b = bitsL n b := by
  obtain ⟨d, rfl⟩ := Nat.le.dest hm
  clear hm
  induction d with
  | zero => rfl
  | succ d ih =>
    have hb : b.testBit (n + d) = false := Nat.testBit_lt_two_pow (Nat.lt_of_lt_of_le h (Nat.pow_le_pow_right (by omega) (by omega)))
    rw [show n + (d + 1) = n + d + 1 from rfl, bitsL_no hb]
    exact ih
/-- Strictly rising. -/
theorem bitsN_sorted (n b : Nat) : (bitsN n b).Pairwise (· < ·) := List.Pairwise.filter _ List.pairwise_lt_range
theorem bitsL_sorted (n b : Nat) : (bitsL n b).Pairwise (· < ·) := by
  unfold bitsL
  rw [List.pairwise_map]
  exact (bitsN_sorted n b).imp (fun h => by omega)
/-- A rising list within bounds is a set, and the other way round. -/
theorem ris_iff {xs : List Int} {lo hi : Int} : risB xs lo hi = true ↔ xs.Pairwise (· < ·) ∧ ∀ x ∈ xs, lo ≤ x ∧ x ≤ hi := by
  constructor
  · intro h
    have hk : ∀ k, k < xs.length → okR xs lo hi k = true := fun k hk => List.all_eq_true.1 h k (by simpa using hk)
    refine ⟨?_, fun x hx => ?_⟩
    · rw [List.pairwise_iff_getElem]
      intro i j hi' hj hij
      have adj : ∀ k, (hd : k + 1 < xs.length) → xs[k] < xs[k + 1] := fun k hd => by
        have h1 := hk (k + 1) hd
        have hb : inB xs[k + 1] lo hi = true := by simp only [okR, Bool.and_eq_true] at h1; simpa [List.getD, hd] using h1.1
        rw [okR_succ hd (by omega) hb] at h1
        simpa using h1
      have step : ∀ d, (hd : i + d + 1 < xs.length) → xs[i] < xs[i + d + 1] := by
        intro d
        induction d with
        | zero => intro hd; exact adj i hd
        | succ d ih => intro hd; exact Int.lt_trans (ih (by omega)) (adj (i + d + 1) hd)
      obtain ⟨d, rfl⟩ : ∃ d, j = i + d + 1 := ⟨j - i - 1, by omega⟩
      exact step d hj
    · obtain ⟨k, hk', rfl⟩ := List.getElem_of_mem hx
      have h1 := hk k hk'
      simp only [okR, Bool.and_eq_true] at h1
      simpa [List.getD, hk', inB_iff] using h1.1
  · rintro ⟨h1, h2⟩
    rw [risB, List.all_eq_true]
    intro k hk
    have hk' : k < xs.length := by simpa using hk
    have hb := inB_iff.2 (h2 _ (List.getElem_mem hk'))
    by_cases h0 : 0 < k
    · rw [okR_succ hk' h0 hb]
      simpa using List.pairwise_iff_getElem.1 h1 (k - 1) k (by omega) hk' (by omega)
    · exact okR_zero hk' h0 hb
theorem bitsL_ris (n b : Nat) (hi : Int) (h : (n : Int) - 1 ≤ hi) : risB (bitsL n b) 0 hi = true := by
  rw [ris_iff]
  refine ⟨bitsL_sorted n b, fun x hx => ?_⟩
  obtain ⟨h0, h1, _⟩ := mem_bitsL.1 hx
  omega
theorem bitsL_set {F : Fld} (b : Nat) : setB F (bitsL F.op.length b) = true := bitsL_ris _ _ _ (Int.le_refl _)
/-- Two rising lists with the same members are the same. -/
theorem rising_ext : ∀ {xs ys : List Int}, xs.Pairwise (· < ·) → ys.Pairwise (· < ·) → (∀ x, x ∈ xs ↔ x ∈ ys) → xs = ys
  | [], [], _, _, _ => rfl
  | [], y :: ys, _, _, h => by have := (h y).2 (by simp); cases this
  | x :: xs, [], _, _, h => by have := (h x).1 (by simp); cases this
  | x :: xs, y :: ys, hx, hy, h => by
    rw [List.pairwise_cons] at hx hy
    have e : x = y := by
      have h1 := (h x).1 (by simp)
      have h2 := (h y).2 (by simp)
      rcases List.mem_cons.1 h1 with e | h1
      · exact e
      rcases List.mem_cons.1 h2 with e | h2
      · exact e.symm
      have := hx.1 y h2
      have := hy.1 x h1
      omega
    subst e
    refine congrArg (x :: ·) (rising_ext hx.2 hy.2 (fun z => ?_))
    constructor
    · intro hz
      rcases List.mem_cons.1 ((h z).1 (by simp [hz])) with e | hz'
      · subst e; have := hx.1 z hz; omega
      · exact hz'
    · intro hz
      rcases List.mem_cons.1 ((h z).2 (by simp [hz])) with e | hz'
      · subst e; have := hy.1 z hz; omega
      · exact hz'
/-- The number of a list. -/
def bagTo (b : Nat) (S : List Int) : Nat := S.foldl (fun b x => b ||| 2 ^ x.toNat) b
def bagN (S : List Int) : Nat := bagTo 0 S
theorem bagTo_bit (x : Nat) : ∀ (S : List Int) (b : Nat), (∀ y ∈ S, 0 ≤ y) → (bagTo b S).testBit x = (b.testBit x || decide ((x : Int) ∈ S))
  | [], b, _ => by simp [bagTo]
  | y :: S, b, h => by
    have ih := bagTo_bit x S (b ||| 2 ^ y.toNat) (fun z hz => h z (by simp [hz]))
    have h0 := h y (by simp)
    simp only [bagTo, List.foldl_cons] at ih ⊢
    rw [ih, Nat.testBit_or, Nat.testBit_two_pow]
    by_cases e : y.toNat = x
    · have : (x : Int) = y := by omega
      simp [e, this]
    · have : ¬ (x : Int) = y := by omega
      simp [e, this]
theorem bagN_bit {S : List Int} (h : ∀ y ∈ S, 0 ≤ y) (x : Nat) : (bagN S).testBit x = decide ((x : Int) ∈ S) := by
  rw [bagN, bagTo_bit x S 0 h]; simp
theorem bagTo_lt {n : Nat} : ∀ (S : List Int) (b : Nat), b < 2 ^ n → (∀ y ∈ S, 0 ≤ y ∧ y < n) → bagTo b S < 2 ^ n
  | [], b, hb, _ => hb
  | y :: S, b, hb, h => by
    have h0 := h y (by simp)
    exact bagTo_lt S _ (Nat.or_lt_two_pow hb (Nat.pow_lt_pow_right (by omega) (by omega))) (fun z hz => h z (by simp [hz]))
theorem bagN_lt {n : Nat} {S : List Int} (h : ∀ y ∈ S, 0 ≤ y ∧ y < n) : bagN S < 2 ^ n := bagTo_lt S 0 (Nat.two_pow_pos n) h
/-- A set's number leads back to it. -/
theorem bits_bag {n : Nat} {S : List Int} (hs : S.Pairwise (· < ·)) (h : ∀ y ∈ S, 0 ≤ y ∧ y < n) : bitsL n (bagN S) = S := by
  refine rising_ext (bitsL_sorted _ _) hs (fun x => ?_)
  rw [mem_bitsL]
  constructor
  · rintro ⟨h0, h1, h2⟩
    rw [bagN_bit (fun y hy => (h y hy).1)] at h2
    have e : ((x.toNat : Nat) : Int) = x := by omega
    rw [e] at h2
    simpa using h2
  · intro hx
    obtain ⟨h0, h1⟩ := h x hx
    refine ⟨h0, h1, ?_⟩
    rw [bagN_bit (fun y hy => (h y hy).1)]
    have e : ((x.toNat : Nat) : Int) = x := by omega
    rw [e]; simpa using hx
theorem set_bits {F : Fld} {S : List Int} (h : setB F S = true) : bitsL F.op.length (bagN S) = S := bits_bag (ris_iff.1 h).1 (set_mem h)

/-- A number put into a rising list. -/
def putL (S : List Int) (a : Int) : List Int := if a ∈ S then S else S.takeWhile (· < a) ++ a :: S.dropWhile (· < a)
end Go.Proofs.Ytjoebikljmkhfaa

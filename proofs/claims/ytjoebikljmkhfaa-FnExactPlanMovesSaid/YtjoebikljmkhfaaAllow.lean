/- Which sets are allowed: the program's answer and the reference's. No condition. -/
import Derived.Test.YtjoebikljmkhfaaSlot
import Derived.Test.YtjoebikljmkhfaaGain
import Derived.Test.YtjoebikljmkhfaaClone
import Derived.Test.YtjoebikljmkhfaaMono
namespace Go.Proofs.Ytjoebikljmkhfaa
open Go.RowKit Go.Sort

/-- How many of the first k sites are of class c. -/
def cntC (cl : List Int) (S : List Int) (c : Nat) : Nat := S.countP fun a => cl.getD a.toNat 0 == (c : Int)
def allowB (cl li S : List Int) : Bool := (List.range li.length).all fun c => decide ((cntC cl S c : Int) ≤ li.getD c 0)
def clsB (F : Fld) (cl li : List Int) : Bool := (cl.length == F.op.length) && allB cl 0 6 && (li.length == 7) && allB li 0 7
def allowOk (F : Fld) (cl li S : List Int) : Bool := goodF F && setB F S && clsB F cl li
theorem clsB_iff {F : Fld} {cl li : List Int} : clsB F cl li = true ↔ cl.length = F.op.length ∧ (∀ x ∈ cl, 0 ≤ x ∧ x ≤ 6) ∧ li.length = 7 ∧ ∀ x ∈ li, 0 ≤ x ∧ x ≤ 7 := by
  simp only [clsB, Bool.and_eq_true, beq_iff_eq, allB_iff]
  constructor
  · rintro ⟨⟨⟨h1, h2⟩, h3⟩, h4⟩; exact ⟨h1, h2, h3, h4⟩
  · rintro ⟨h1, h2, h3, h4⟩; exact ⟨⟨⟨h1, h2⟩, h3⟩, h4⟩
theorem row6_iff {n : Nat} {r : List Int} {hi : Int} : (allB r 0 hi && (r.length == n)) = true ↔ (∀ x ∈ r, 0 ≤ x ∧ x ≤ hi) ∧ r.length = n := by simp [allB_iff]

/- The reference's row check at any bound. -/
set_option maxHeartbeats 400000 in
theorem l2RowH_any (A : Option Addr) (xs : List Int) (m c n : Nat) (hi : Int) (w : World) (hx : IntsAt w A xs) (hnx : xs.length = m) :
    Calls Try.prog 28 #[.slice A m c, .int .i64 n, .int .i64 hi] w fun e w' => e = .returned (.bool (allB xs 0 hi && (xs.length == n))) ∧ w = w' := by
  have hm : m ≤ 9223372036854775807 := hnx ▸ hx.1
  have Hx := Lib.hid hnx; clear hnx
  go_enter Try.func28, Try.ntmps28
  go_wp2_with fail
  go_loop [7] (fun i => ∃ k : Nat, k ≤ m ∧ i = .int .i64 k ∧ Hid ((xs.take k).all (fun x => inB x 0 hi) = true)) (fun i => m - (intOf i).toNat)
  case atStart => exact ⟨0, by omega, rfl, rfl⟩
  case round =>
    obtain ⟨k, hk, rfl, Hp⟩ := hrel
    by_cases hlt : k < m
    · have lx : k < xs.length := by rw [Hx.out]; exact hlt
      obtain ⟨ad, rfl, hc⟩ := hx.at_ lx
      go_wp2_with fail
      refine (l1In_any _ _ _ _).mono ?_
      rintro e w' ⟨rfl, rfl⟩
      cases hpk : inB xs[k] 0 hi
      · go_wp2_with fail
        go_ret
        refine ⟨ret_bool ?_, rfl⟩
        have : allB xs 0 hi = false := all_false_of (p := fun x => inB x 0 hi) lx hpk
        simp [this, Array.getD]
      · go_wp2_with fail
        go_round
        case rel => exact ⟨k + 1, by omega, by go_num, all_take_succ Hp.out lx hpk⟩
        case measure => simp [intOf]; omega
    · go_wp2_with fail
      go_ret
      refine ⟨ret_bool ?_, rfl⟩
      have hp := Hp.out
      have e := Hx.out
      rw [List.take_of_length_le (by omega)] at hp
      have : allB xs 0 hi = true := hp
      rw [this, e, Bool.true_and, Bool.eq_iff_iff]
      simp [Array.getD]
      try omega

theorem cnt_succ {cl S : List Int} {c k : Nat} (hk : k < S.length) : cntC cl (S.take (k + 1)) c = cntC cl (S.take k) c + if (cl.getD (S[k]).toNat 0 == (c : Int)) = true then 1 else 0 := count_take_succ hk
theorem cnt_le (cl S : List Int) (c k : Nat) : cntC cl (S.take k) c ≤ k := count_le_len _ _ _
def leftTo (cl li S : List Int) (k : Nat) : List Int := (List.range li.length).map fun c => li.getD c 0 - (cntC cl (S.take k) c : Int)
theorem leftTo_len (cl li S : List Int) (k : Nat) : (leftTo cl li S k).length = li.length := by simp [leftTo]
theorem leftTo_zero (cl li S : List Int) : leftTo cl li S 0 = li := by
  apply List.ext_getElem (by simp [leftTo])
  intro i h1 h2
  simp [leftTo, cntC, List.getD, h2]
theorem leftTo_get {cl li S : List Int} {k c : Nat} (h : c < li.length) : (leftTo cl li S k).getD c 0 = li.getD c 0 - (cntC cl (S.take k) c : Int) := by
  simp [leftTo, List.getD, h]
theorem leftTo_succ {cl li S : List Int} {k : Nat} (hk : k < S.length) (h0 : 0 ≤ cl.getD (S[k]).toNat 0) :
    (leftTo cl li S k).set (cl.getD (S[k]).toNat 0).toNat ((leftTo cl li S k).getD (cl.getD (S[k]).toNat 0).toNat 0 - 1) = leftTo cl li S (k + 1) := by
  apply List.ext_getElem (by simp [leftTo])
  intro c h1 h2
  have hc : c < li.length := by simpa [leftTo] using h2
  rw [List.getElem_set]
  by_cases e : (cl.getD (S[k]).toNat 0).toNat = c
  · rw [if_pos e, e, leftTo_get hc]
    have e2 : (cl.getD (S[k]).toNat 0 == (c : Int)) = true := by rw [beq_iff_eq]; omega
    simp only [leftTo, List.getElem_map, List.getElem_range]
    rw [cnt_succ hk, e2]
    simp; omega
  · rw [if_neg e]
    have e2 : (cl.getD (S[k]).toNat 0 == (c : Int)) = false := by rw [beq_eq_false_iff_ne]; omega
    simp only [leftTo, List.getElem_map, List.getElem_range]
    rw [cnt_succ hk, e2]
    simp

def allowR (F : Fld) (cl li S : List Int) : Bool := allowOk F cl li S && allowB cl li S
theorem allow_no {F : Fld} {cl li S : List Int} (h : allowOk F cl li S = false) : Ending.returned (.tuple #[.bool (allowR F cl li S), .bool (allowOk F cl li S)]) = .returned (.tuple #[.bool false, .bool false]) := by simp [allowR, h]
theorem allow_yes {F : Fld} {cl li S : List Int} (h : allowOk F cl li S = true) : Ending.returned (.tuple #[.bool (allowR F cl li S), .bool (allowOk F cl li S)]) = .returned (.tuple #[.bool (allowB cl li S), .bool true]) := by simp [allowR, h]
theorem allowOk_parts {F : Fld} {cl li S : List Int} (h : allowOk F cl li S = true) : goodF F = true ∧ (∀ x ∈ S, 0 ≤ x ∧ x < cl.length) ∧ (∀ x ∈ cl, 0 ≤ x ∧ x < li.length) ∧ (∀ x ∈ li, 0 ≤ x ∧ x ≤ 7) ∧ li.length = 7 ∧ cl.length = F.op.length := by
  simp only [allowOk, Bool.and_eq_true] at h
  obtain ⟨⟨h1, h2⟩, h3⟩ := h
  obtain ⟨a, b, c, d⟩ := clsB_iff.1 h3
  exact ⟨h1, fun x hx => by rw [a]; exact set_mem h2 x hx, fun x hx => by have := b x hx; omega, d, c, a⟩

end Go.Proofs.Ytjoebikljmkhfaa

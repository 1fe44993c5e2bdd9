/- Contracts of the small helpers: bounds, copies and comparisons of lists of integers. No condition. -/
import Derived.Test.YtjoebikljmkhfaaProg
import Derived.Test.YtjoebikljmkhfaaMem
namespace Go.Proofs.Ytjoebikljmkhfaa
open Go.RowKit

theorem infoInt : (Try.prog.info? 3).map (fun i => (i.zero, i.size, i.bytes)) = some (some (.int .i64 0), 1, 8) := by kernel_rfl

def inB (a b c : Int) : Bool := decide (b ≤ a) && decide (a ≤ c)
theorem inB_iff {a b c : Int} : inB a b c = true ↔ b ≤ a ∧ a ≤ c := by simp [inB]
theorem l1In_any (a b c : Int) (w : World) :
    Calls Try.prog 29 #[.int .i64 a, .int .i64 b, .int .i64 c] w fun e w' => e = .returned (.bool (inB a b c)) ∧ w = w' := by
  go_enter Try.func29, Try.ntmps29
  go_wp2
  all_goals go_ret
  all_goals refine ⟨ret_bool ?_, rfl⟩
  all_goals (simp [Array.getD, inB]; try omega)
theorem between_any (a b c : Int) (w : World) :
    Calls Try.prog 38 #[.int .i64 a, .int .i64 b, .int .i64 c] w fun e w' => e = .returned (.bool (inB a b c)) ∧ w = w' := by
  go_enter Try.func38, Try.ntmps38
  go_wp2
  all_goals go_ret
  all_goals refine ⟨ret_bool ?_, rfl⟩
  all_goals (simp [Array.getD, inB]; try omega)

theorem eqIntS_ne (A B : Option Addr) (n m : Nat) (c d : Nat) (w : World) (h : n ≠ m) :
    Calls Try.prog 10 #[.slice A n c, .slice B m d] w fun e w' => e = .returned (.bool false) ∧ w = w' := by
  have h1 : ((n : Int) != (m : Int)) = true := by simp; omega
  go_enter Try.func10, Try.ntmps10
  go_wp2
  go_ret
  exact ⟨rfl, rfl⟩

theorem take_eq_succ {xs ys : List Int} {k : Nat} (h : xs.take k = ys.take k) (hx : k < xs.length) (hy : k < ys.length) (e : xs[k] = ys[k]) : xs.take (k + 1) = ys.take (k + 1) := by
  rw [List.take_succ_eq_append_getElem hx, List.take_succ_eq_append_getElem hy, h, e]

set_option maxHeartbeats 400000 in
theorem eqIntS_eq (A B : Option Addr) (xs ys : List Int) (n m c d : Nat) (w : World) (hx : IntsAt w A xs) (hy : IntsAt w B ys) (hnx : xs.length = n) (hny : ys.length = m) (hnm : n = m) :
    Calls Try.prog 10 #[.slice A n c, .slice B m d] w fun e w' => e = .returned (.bool (decide (xs = ys))) ∧ Dr w w' := by
  subst hnm
  have hn : n ≤ 9223372036854775807 := hnx ▸ hx.1
  have Hx := Lib.hid hnx; have Hy := Lib.hid hny; clear hnx hny
  have h1 : ((n : Int) != (n : Int)) = false := by simp
  go_enter Try.func10, Try.ntmps10
  go_wp2
  go_loopw [5] (fun i wr => ∃ k : Nat, k ≤ n ∧ i = .int .i64 k ∧ Hid (xs.take k = ys.take k) ∧ Dr w wr) (fun i _ => n - (intOf i).toNat)
  case atStart => exact ⟨0, by omega, rfl, rfl, Dr.refl w⟩
  case round =>
    obtain ⟨k, hk, rfl, Hp, hdr⟩ := hrel
    by_cases hlt : k < n
    · have lx : k < xs.length := by rw [Hx.out]; exact hlt
      have ly : k < ys.length := by rw [Hy.out]; exact hlt
      obtain ⟨ad, rfl, hc⟩ := (hx.kp hdr.kp).at_ lx
      obtain ⟨bd, rfl, hd⟩ := (hy.kp hdr.kp).at_ ly
      go_wp2
      go_quiet (fail)
      go_wp2
      · have hne : (xs[k] != ys[k]) = true := by assumption
        go_ret
        refine ⟨ret_bool ?_, hdr.drewN nq⟩
        rw [decide_eq_false]
        rintro rfl; simp at hne
      · have he : (xs[k] != ys[k]) = false := by assumption
        go_roundw
        case rel => exact ⟨k + 1, by omega, by go_num, take_eq_succ Hp.out lx ly (by simpa using he), hdr.drewN nq⟩
        case measure => simp [intOf]; omega
    · go_wp2
      go_ret
      refine ⟨ret_bool ?_, hdr⟩
      have hp := Hp.out
      rw [List.take_of_length_le (by rw [Hx.out]; omega), List.take_of_length_le (by rw [Hy.out]; omega)] at hp
      simp [hp, Array.getD]
/-- Two lists of integers compared. -/
theorem eqIntS_dr (A B : Option Addr) (xs ys : List Int) (n m c d : Nat) (w : World) (hx : IntsAt w A xs) (hy : IntsAt w B ys) (hnx : xs.length = n) (hny : ys.length = m) :
    Calls Try.prog 10 #[.slice A n c, .slice B m d] w fun e w' => e = .returned (.bool (decide (xs = ys))) ∧ Dr w w' := by
  by_cases h : n = m
  · exact eqIntS_eq A B xs ys n m c d w hx hy hnx hny h
  · refine (eqIntS_ne A B n m c d w h).mono ?_
    rintro e w' ⟨rfl, rfl⟩
    refine ⟨ret_bool ?_, Dr.refl _⟩
    rw [decide_eq_false]
    rintro rfl; omega
theorem eqIntS_any (A B : Option Addr) (xs ys : List Int) (n m c d : Nat) (w : World) (hx : IntsAt w A xs) (hy : IntsAt w B ys) (hnx : xs.length = n) (hny : ys.length = m) :
    Calls Try.prog 10 #[.slice A n c, .slice B m d] w fun e w' => e = .returned (.bool (decide (xs = ys))) ∧ Kp w w' :=
  (eqIntS_dr A B xs ys n m c d w hx hy hnx hny).mono fun _ _ ⟨he, hj⟩ => ⟨he, hj.kp⟩

set_option maxHeartbeats 400000 in
/-- A copy in new memory. -/
theorem toIntS_any (A : Option Addr) (xs : List Int) (n c : Nat) (w : World) (hx : IntsAt w A xs) (hnx : xs.length = n) (hb : n ≤ 1048576) :
    Calls Try.prog 22 #[.slice A n c] w fun e w' => ∃ g, e = .returned (.slice (some ⟨g, 0, none⟩) n n) ∧ w.heap.size ≤ g ∧ IntRow w' g xs ∧ Kp w w' := by
  have Hx := Lib.hid hnx; clear hnx
  have hmk := run_make_row' (P := Try.prog) 22 3 (.int .i64 0) 8 Try.underlying22 infoInt rfl .i64 .i64 n (by omega) (by omega)
  go_enter Try.func22, Try.ntmps22
  go_wp2
  go_loopw [4] (fun i wr => ∃ k : Nat, k ≤ n ∧ i = .int .i64 k ∧ wr.rowIs w.heap.size 3 n (fun i => if i < k then .int .i64 (xs.getD i 0) else .int .i64 0) ∧ Kp w wr) (fun i _ => n - (intOf i).toNat)
  case atStart => exact ⟨0, by omega, rfl, (World.rowIs_made w _ n _).congr (fun i _ => by simp), (Kp.refl w).alloc _⟩
  case round =>
    obtain ⟨k, hk, rfl, hr, hkp⟩ := hrel
    by_cases hlt : k < n
    · have lx : k < xs.length := by rw [Hx.out]; exact hlt
      obtain ⟨ad, rfl, hc⟩ := (hx.kp hkp).at_ lx
      have hc0 := hr.cell hlt
      have hf0 := hr.frozen k
      have hs := Lib.hid (hr.set k (.int .i64 xs[k]))
      rw [if_neg (by omega)] at hc0
      go_wp2
      go_roundw
      case rel =>
        refine ⟨k + 1, by omega, by go_num, hs.out.congr (fun i _ => ?_), hkp.setCell (Nat.le_refl _) _⟩
        by_cases e : i = k
        · subst e; simp [List.getD, lx]
        · rw [if_neg e]; by_cases h2 : i < k
          · rw [if_pos h2, if_pos (by omega)]
          · rw [if_neg h2, if_neg (by omega)]
      case measure => simp [intOf]; omega
    · go_wp2
      go_ret
      refine ⟨w.heap.size, rfl, Nat.le_refl _, ?_, hkp⟩
      unfold IntRow
      rw [Hx.out]
      exact hr.congr (fun i hi => by rw [if_pos (by omega)])
end Go.Proofs.Ytjoebikljmkhfaa

/- Contracts of the laws' helpers on fields: size, copy, comparison. No condition. -/
import Derived.Test.YtjoebikljmkhfaaBase
namespace Go.Proofs.Ytjoebikljmkhfaa
open Go.RowKit

theorem infoInts : (Try.prog.info? 22).map (fun i => (i.zero, i.size, i.bytes)) = some (some (.slice none 0 0), 1, 24) := by kernel_rfl

/-- What is left of a budget. -/
def left1 (n : Nat) (l : Int) : Int := if (n : Int) ≤ l then l - n else -1
theorem szIntS_any (A : Option Addr) (n c : Nat) (l : Int) (w : World) (h0 : 0 ≤ l) (h1 : l ≤ 1048576) (hn : n ≤ 9223372036854775807) :
    Calls Try.prog 17 #[.slice A n c, .int .i64 l] w fun e w' => e = .returned (.int .i64 (left1 n l)) ∧ w = w' := by
  by_cases h : (n : Int) ≤ l
  · go_enter Try.func17, Try.ntmps17
    go_wp2
    go_ret
    exact ⟨ret_int (by rw [left1, if_pos h]), rfl⟩
  · go_enter Try.func17, Try.ntmps17
    go_wp2
    go_ret
    exact ⟨ret_int (by rw [left1, if_neg (by omega)]), rfl⟩

def rowSum : List (List Int) → Nat
  | [] => 0
  | r :: rs => r.length + rowSum rs
theorem rowSum_append (a b : List (List Int)) : rowSum (a ++ b) = rowSum a + rowSum b := by
  induction a with
  | nil => simp [rowSum]
  | cons r rs ih => simp [rowSum, ih]; omega
theorem rowSum_take_succ {rows : List (List Int)} {k : Nat} (hk : k < rows.length) : rowSum (rows.take (k + 1)) = rowSum (rows.take k) + rows[k].length := by
  rw [List.take_succ_eq_append_getElem hk, rowSum_append]; simp [rowSum]
theorem rowSum_take_le (rows : List (List Int)) (k : Nat) : rowSum (rows.take k) ≤ rowSum rows := by
  have := rowSum_append (rows.take k) (rows.drop k)
  rw [List.take_append_drop] at this; omega
theorem rowSum_mem {rows : List (List Int)} {k : Nat} (hk : k < rows.length) : rows[k].length ≤ rowSum rows := by
  have h1 := rowSum_take_succ hk
  have h2 := rowSum_take_le rows (k + 1)
  omega

set_option maxHeartbeats 400000 in
theorem szIntSS_any (B : Option Addr) (rows : List (List Int)) (m c : Nat) (l : Int) (w : World) (hx : GridAt w B rows) (hm : rows.length = m) (h0 : 0 ≤ l) (h1 : l ≤ 1048576) :
    Calls Try.prog 5 #[.slice B m c, .int .i64 l] w fun e w' => e = .returned (.int .i64 (left1 (m + rowSum rows) l)) ∧ w = w' := by
  have hm63 : m ≤ 9223372036854775807 := hm ▸ hx.1
  have Hm := Lib.hid hm; clear hm
  by_cases h : (m : Int) ≤ l
  · go_enter Try.func5, Try.ntmps5
    go_wp2_with fail
    go_loop [1, 5] (fun lv i => ∃ k : Nat, k ≤ m ∧ i = .int .i64 k ∧ (rowSum (rows.take k) : Int) ≤ l - m ∧ lv = .int .i64 (l - m - rowSum (rows.take k))) (fun _ i => m - (intOf i).toNat)
    case atStart => exact ⟨0, by omega, rfl, by simp [rowSum]; omega, by simp [rowSum]⟩
    case round =>
      obtain ⟨k, hk, rfl, hs, rfl⟩ := hrel
      by_cases hlt : k < m
      · have lx : k < rows.length := by rw [Hm.out]; exact hlt
        obtain ⟨bd, A, ca, rfl, hc, hr⟩ := hx.at_ lx
        have hrl := hr.1
        have hsum := Lib.hid (rowSum_take_succ lx)
        have hsl := rowSum_take_le rows (k + 1)
        go_wp2_with fail
        refine (szIntS_any A _ ca _ w (by omega) (by omega) hrl).mono ?_
        rintro e w' ⟨rfl, rfl⟩
        by_cases hf : (rows[k].length : Int) ≤ l - m - rowSum (rows.take k)
        · have e1 : left1 rows[k].length (l - m - rowSum (rows.take k)) = l - m - rowSum (rows.take k) - rows[k].length := by rw [left1, if_pos hf]
          rw [e1]
          clear e1
          go_wp2_with fail
          go_round
          case rel => exact ⟨k + 1, by omega, by go_num, by rw [hsum.out]; omega, by rw [hsum.out]; go_num⟩
          case measure => simp [intOf]; omega
        · have e1 : left1 rows[k].length (l - m - rowSum (rows.take k)) = -1 := by rw [left1, if_neg hf]
          rw [e1]
          clear e1
          go_wp2_with fail
          go_ret
          refine ⟨ret_int ?_, rfl⟩
          have := hsum.out
          rw [left1, if_neg (by omega)]
      · go_wp2_with fail
        go_ret
        refine ⟨ret_int ?_, rfl⟩
        have e2 : rows.take k = rows := List.take_of_length_le (by rw [Hm.out]; omega)
        rw [e2] at hs ⊢
        rw [left1, if_pos (by omega)]; omega
  · go_enter Try.func5, Try.ntmps5
    go_wp2_with fail
    go_ret
    exact ⟨ret_int (by rw [left1, if_neg (by omega)]), rfl⟩

/-- How many numbers and rows a field holds. -/
def Fld.bulk (F : Fld) : Nat := F.op.length + F.di.length + rowSum F.di
set_option maxHeartbeats 400000 in
theorem eqIntSS_eq (A B : Option Addr) (xs ys : List (List Int)) (n m c d : Nat) (w : World) (hx : GridAt w A xs) (hy : GridAt w B ys) (hnx : xs.length = n) (hny : ys.length = m) (hnm : n = m) :
    Calls Try.prog 12 #[.slice A n c, .slice B m d] w fun e w' => e = .returned (.bool (decide (xs = ys))) ∧ Dr w w' := by
  subst hnm
  have hn : n ≤ 9223372036854775807 := hnx ▸ hx.1
  have Hx := Lib.hid hnx; have Hy := Lib.hid hny; clear hnx hny
  have h1 : ((n : Int) != (n : Int)) = false := by simp
  go_enter Try.func12, Try.ntmps12
  go_wp2
  go_loopw [5] (fun i wr => ∃ k : Nat, k ≤ n ∧ i = .int .i64 k ∧ Hid (xs.take k = ys.take k) ∧ Dr w wr) (fun i _ => n - (intOf i).toNat)
  case atStart => exact ⟨0, by omega, rfl, rfl, Dr.refl w⟩
  case round =>
    obtain ⟨k, hk, rfl, Hp, hdr⟩ := hrel
    by_cases hlt : k < n
    · have lx : k < xs.length := by rw [Hx.out]; exact hlt
      have ly : k < ys.length := by rw [Hy.out]; exact hlt
      obtain ⟨ad, A, ca, rfl, hc, hra⟩ := (hx.kp hdr.kp).at_ lx
      obtain ⟨bd, B, cb, rfl, hd, hrb⟩ := (hy.kp hdr.kp).at_ ly
      go_wp2_with fail
      go_quiet ((go_at_call 10; exact Calls.dr_quiet (eqIntS_dr A B xs[k] ys[k] _ _ ca cb _ (hra.drewN _) (hrb.drewN _) rfl rfl)))
      cases hq : decide (xs[k] = ys[k])
      · have He := Lib.hid (of_decide_eq_false hq); clear hq
        go_wp2_with fail
        go_ret
        refine ⟨ret_bool ?_, hdr.drewN nq⟩
        rw [decide_eq_false]
        rintro rfl; exact He.out rfl
      · have He := Lib.hid (of_decide_eq_true hq); clear hq
        go_wp2_with fail
        go_roundw
        case rel =>
          refine ⟨k + 1, by omega, by go_num, ?_, hdr.drewN nq⟩
          show xs.take (k + 1) = ys.take (k + 1)
          rw [List.take_succ_eq_append_getElem lx, List.take_succ_eq_append_getElem ly, Hp.out, He.out]
        case measure => simp [intOf]; omega
    · go_wp2_with fail
      go_ret
      refine ⟨ret_bool ?_, hdr⟩
      have hp := Hp.out
      rw [List.take_of_length_le (by rw [Hx.out]; omega), List.take_of_length_le (by rw [Hy.out]; omega)] at hp
      simp [hp, Array.getD]
theorem eqIntSS_dr (A B : Option Addr) (xs ys : List (List Int)) (n m c d : Nat) (w : World) (hx : GridAt w A xs) (hy : GridAt w B ys) (hnx : xs.length = n) (hny : ys.length = m) :
    Calls Try.prog 12 #[.slice A n c, .slice B m d] w fun e w' => e = .returned (.bool (decide (xs = ys))) ∧ Dr w w' := by
  by_cases h : n = m
  · exact eqIntSS_eq A B xs ys n m c d w hx hy hnx hny h
  · have h1 : ((n : Int) != (m : Int)) = true := by simp; omega
    go_enter Try.func12, Try.ntmps12
    go_wp2_with fail
    go_ret
    refine ⟨ret_bool ?_, Dr.refl _⟩
    rw [decide_eq_false]
    rintro rfl; omega
end Go.Proofs.Ytjoebikljmkhfaa

/- Which fields are valid: the program's answer and the reference's. No condition. -/
import Derived.Test.YtjoebikljmkhfaaField
import Derived.Test.YtjoebikljmkhfaaTabs
namespace Go.Proofs.Ytjoebikljmkhfaa
open Go.RowKit Go.Sort

def rowB (n : Nat) (r : List Int) : Bool := allB r 0 99 && (r.length == n)
/-- A valid field. -/
def goodF (F : Fld) : Bool := inB F.op.length 1 7 && rowB F.op.length F.op && decide (F.di.length ≤ 7) && F.di.all (rowB F.op.length)
theorem rowB_iff {n : Nat} {r : List Int} : rowB n r = true ↔ (∀ x ∈ r, 0 ≤ x ∧ x ≤ 99) ∧ r.length = n := by simp [rowB, allB_iff]
theorem goodF_iff {F : Fld} : goodF F = true ↔ (1 ≤ F.op.length ∧ F.op.length ≤ 7) ∧ (∀ x ∈ F.op, 0 ≤ x ∧ x ≤ 99) ∧ F.di.length ≤ 7 ∧ ∀ r ∈ F.di, (∀ x ∈ r, 0 ≤ x ∧ x ≤ 99) ∧ r.length = F.op.length := by
  simp only [goodF, Bool.and_eq_true, inB_iff, decide_eq_true_eq, List.all_eq_true, rowB_iff]
  constructor
  · rintro ⟨⟨⟨⟨h1, h2⟩, h3, _⟩, h4⟩, h5⟩; exact ⟨⟨by omega, by omega⟩, h3, h4, h5⟩
  · rintro ⟨⟨h1, h2⟩, h3, h4, h5⟩; exact ⟨⟨⟨⟨by omega, by omega⟩, h3, trivial⟩, h4⟩, h5⟩

theorem goodRow {F : Fld} (h : goodF F = true) {k : Nat} (hk : k < F.di.length) : F.di[k].length = F.op.length := ((goodF_iff.1 h).2.2.2 _ (List.getElem_mem hk)).2
theorem l2Row_any (A : Option Addr) (xs : List Int) (m c n : Nat) (w : World) (hx : IntsAt w A xs) (hnx : xs.length = m) :
    Calls Try.prog 28 #[.slice A m c, .int .i64 n, .int .i64 99] w fun e w' => e = .returned (.bool (rowB n xs)) ∧ w = w' := by
  have hm : m ≤ 9223372036854775807 := hnx ▸ hx.1
  have Hx := Lib.hid hnx; clear hnx
  go_enter Try.func28, Try.ntmps28
  go_wp2_with fail
  go_loop [7] (fun i => ∃ k : Nat, k ≤ m ∧ i = .int .i64 k ∧ Hid ((xs.take k).all (fun x => inB x 0 99) = true)) (fun i => m - (intOf i).toNat)
  case atStart => exact ⟨0, by omega, rfl, rfl⟩
  case round =>
    obtain ⟨k, hk, rfl, Hp⟩ := hrel
    by_cases hlt : k < m
    · have lx : k < xs.length := by rw [Hx.out]; exact hlt
      obtain ⟨ad, rfl, hc⟩ := hx.at_ lx
      go_wp2_with fail
      refine (l1In_any _ _ _ _).mono ?_
      rintro e w' ⟨rfl, rfl⟩
      cases hpk : inB xs[k] 0 99
      · go_wp2_with fail
        go_ret
        refine ⟨ret_bool ?_, rfl⟩
        have : allB xs 0 99 = false := all_false_of (p := fun x => inB x 0 99) lx hpk
        simp [rowB, this, Array.getD]
      · go_wp2_with fail
        go_round
        case rel => exact ⟨k + 1, by omega, by go_num, all_take_succ Hp.out lx hpk⟩
        case measure => simp [intOf]; omega
    · go_wp2_with fail
      go_ret
      refine ⟨ret_bool ?_, rfl⟩
      have hp := Hp.out
      have e := Hx.out
      rw [List.take_of_length_le (by omega)] at hp
      have : allB xs 0 99 = true := hp
      rw [rowB, this, e, Bool.true_and, Bool.eq_iff_iff]
      simp [Array.getD]
      try omega

theorem goodF_no_rows {F : Fld} (h : F.di.all (rowB F.op.length) = false) : goodF F = false := by simp [goodF, h]

set_option maxHeartbeats 400000 in
theorem indexFunc2_any (F : FuncId) (caps : Array Value) (p : List Int → Bool) (B : Option Addr) (rows : List (List Int)) (n c : Nat) (w : World) (hx : GridAt w B rows) (hnx : rows.length = n)
    (hF : ∀ (args : Array Value) (w : World), Sem.run Try.prog (callFunc F args) w = .ok (.enter F args) w)
    (hf : ∀ k (hk : k < rows.length) (A : Option Addr) (c : Nat) (w' : World), Kp w w' → IntsAt w' A rows[k] → Calls Try.prog F (#[.slice A rows[k].length c] ++ caps) w' fun e w'' => e = .returned (.bool (p rows[k])) ∧ Kp w' w'') :
    Calls Try.prog 54 #[.slice B n c, .func (.func F) #[] caps] w fun e w' => ∃ r : Int, e = .returned (.int .i64 r) ∧ decide (0 ≤ r) = rows.any p ∧ Kp w w' := by
  have hn : n ≤ 9223372036854775807 := hnx ▸ hx.1
  have Hx := Lib.hid hnx; clear hnx
  have Hf := Lib.hid hf; clear hf
  go_enter Try.func54, Try.ntmps54
  go_wp2
  go_loopw [8] (fun i wr => ∃ k : Nat, k ≤ n ∧ i = .int .i64 k ∧ Hid ((rows.take k).any p = false) ∧ Kp w wr) (fun i _ => n - (intOf i).toNat)
  case atStart => exact ⟨0, by omega, rfl, rfl, Kp.refl w⟩
  case round =>
    obtain ⟨k, hk, rfl, Hp, hkp⟩ := hrel
    by_cases hlt : k < n
    · have lx : k < rows.length := by rw [Hx.out]; exact hlt
      obtain ⟨ad, A, c', rfl, hc, hr⟩ := (hx.kp hkp).at_ lx
      go_wp2_with fail
      refine (Hf.out k lx A c' wr hkp hr).mono ?_
      rintro e w1 ⟨rfl, hk1⟩
      cases hpk : p rows[k]
      · have Hpk := Lib.hid hpk; clear hpk
        go_wp2
        go_roundw
        case rel => exact ⟨k + 1, by omega, by go_num, any_take_succ Hp.out lx Hpk.out, hkp.trans hk1⟩
        case measure => simp [intOf]; omega
      · have Hpk := Lib.hid hpk; clear hpk
        go_wp2
        go_ret
        exact ⟨k, rfl, by rw [any_of lx Hpk.out]; simp, hkp.trans hk1⟩
    · go_wp2
      go_ret
      refine ⟨-1, rfl, ?_, hkp⟩
      have hp := Hp.out
      rw [List.take_of_length_le (by rw [Hx.out]; omega)] at hp
      rw [hp]; rfl
theorem containsFunc2_any (F : FuncId) (caps : Array Value) (p : List Int → Bool) (B : Option Addr) (rows : List (List Int)) (n c : Nat) (w : World) (hx : GridAt w B rows) (hnx : rows.length = n)
    (hF : ∀ (args : Array Value) (w : World), Sem.run Try.prog (callFunc F args) w = .ok (.enter F args) w)
    (hf : ∀ k (hk : k < rows.length) (A : Option Addr) (c : Nat) (w' : World), Kp w w' → IntsAt w' A rows[k] → Calls Try.prog F (#[.slice A rows[k].length c] ++ caps) w' fun e w'' => e = .returned (.bool (p rows[k])) ∧ Kp w' w'') :
    Calls Try.prog 43 #[.slice B n c, .func (.func F) #[] caps] w fun e w' => e = .returned (.bool (rows.any p)) ∧ Kp w w' := by
  have Hx := Lib.hid hnx; clear hnx
  have Hf := Lib.hid hf; clear hf
  go_enter Try.func43, Try.ntmps43
  go_wp2_with fail
  refine (indexFunc2_any F caps p B rows n c w hx Hx.out hF Hf.out).mono ?_
  rintro e w1 ⟨r, rfl, hr, hk1⟩
  have Hr := Lib.hid hr; clear hr
  go_wp2
  go_ret
  exact ⟨ret_bool Hr.out, hk1⟩

end Go.Proofs.Ytjoebikljmkhfaa

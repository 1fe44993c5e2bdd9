/- Flows: the reference's walks of a row, of a flow and of its cost. No condition. -/
import Derived.Test.YteaeedeaoddpcaaFlowP
import Derived.Test.YteaeedeaoddpcaaSlot
import Derived.Test.YteaeedeaoddpcaaSum3
import Derived.Test.YteaeedeaoddpcaaBits
import Derived.Test.YteaeedeaoddpcaaClone
import Derived.Test.YteaeedeaoddpcaaKeep
namespace Go.Proofs.Yteaeedeaoddpcaa
open Go.RowKit Go.Sort

theorem flRow_cell {n : Nat} {need : Int} {S row : List Int} {k : Nat} (hk : k < row.length) (h : flCell need S row[k] k = false) : flRow n need S row = false := by
  have e : flCells need S row row.length = false := by
    cases hc : flCells need S row row.length
    · rfl
    · have := flCell_iff.2 (flCells_iff.1 hc k hk)
      rw [lget_at hk, h] at this; exact absurd this (by simp)
  rw [flRow, e]; rfl
theorem flRow_end {n : Nat} {need : Int} {S row : List Int} {k : Nat} (hk : row.length ≤ k) (hk2 : k ≤ row.length) (h : flCells need S row k = true) : flRow n need S row = (decide (row.length = n) && decide (row.sum = need)) := by
  obtain rfl : k = row.length := by omega
  rw [flRow, h]; rfl
theorem flCells_mem {need : Int} {S row : List Int} (h : flCells need S row row.length = true) : ∀ x ∈ row, 0 ≤ x ∧ x ≤ need := by
  intro x hx
  obtain ⟨i, hi, rfl⟩ := List.mem_iff_getElem.1 hx
  have := flCells_iff.1 h i hi
  rw [lget_at hi] at this
  exact ⟨this.1, this.2.1⟩
theorem flCells_next {need : Int} {S row : List Int} {k : Nat} (hp : flCells need S row k = true) (hk : k < row.length) (h : flCell need S row[k] k = true) : flCells need S row (k + 1) = true := by
  rw [flCells_succ, hp, lget_at hk, h]; rfl
set_option maxRecDepth 100000 in
set_option maxHeartbeats 1000000 in
theorem l7Row_any (A0 : Option Addr) (row : List Int) (n0 c0 : Nat) (n : Nat) (need : Int) (A1 : Option Addr) (S : List Int) (n1 c1 : Nat) (w : World) (hx : IntsAt w A0 row) (hn0 : row.length = n0) (hS : IntsAt w A1 S) (hn1 : S.length = n1) (hnd : need ≤ 5) (hn7 : n ≤ 7) :
    Calls Try.prog 55 #[.slice A0 n0 c0, .int .i64 n, .int .i64 need, .slice A1 n1 c1] w fun e w' => e = .returned (.bool (flRow n need S row)) ∧ w = w' := by
  have hm : n0 ≤ 9223372036854775807 := hn0 ▸ hx.1
  have Hn0 := Lib.hid hn0; have Hn1 := Lib.hid hn1
  clear hn0 hn1
  go_enter Try.func55, Try.ntmps55
  go_wp2_with fail
  go_loop [9] (fun iv => ∃ k : Nat, k ≤ n0 ∧ iv = .int .i64 k ∧ Hid (flCells need S row k = true)) (fun iv => n0 - (intOf iv).toNat)
  case atStart => exact ⟨0, by omega, rfl, rfl⟩
  case round =>
    obtain ⟨k, hk, rfl, Hp⟩ := hrel
    by_cases hlt : k < n0
    · have lx : k < row.length := by rw [Hn0.out]; exact hlt
      obtain ⟨ad, rfl, hc⟩ := hx.at_ lx
      have Hnx := Lib.hid (fun h => flCells_next (need := need) (S := S) Hp.out lx h)
      have Hbd := Lib.hid (fun h => flRow_cell (n := n) (need := need) (S := S) lx h)
      have Hce : Hid (flCell need S row[k] k = (inB row[k] 0 need && !(decide (0 < row[k]) && !flHas S k))) := rfl
      generalize row[k] = x at *
      go_wp2_with fail
      with_reducible refine Calls.mono (l1In_any x 0 need _) ?_
      rintro e w1 ⟨rfl, hw⟩
      obtain rfl := hw
      cases ht : inB x 0 need
      · have Hno : Hid (flRow n need S row = false) := Hbd.out (by rw [Hce.out, ht]; rfl)
        clear ht
        go_wp2_with fail
        go_ret
        exact ⟨ret_bool Hno.out.symm, rfl⟩
      · have Ht := Lib.hid ht; clear ht
        by_cases hp : 0 < x
        · go_wp2_with fail
          with_reducible refine Calls.mono (l1Has_any A1 S n1 c1 (k : Int) _ hS Hn1.out) ?_
          rintro e w2 ⟨rfl, hw⟩
          obtain rfl := hw
          cases hh : (S.any fun y => y == (k : Int))
          · have Hno : Hid (flRow n need S row = false) := Hbd.out (by rw [Hce.out, Ht.out, decide_eq_true hp, flHas, hh]; rfl)
            clear hh
            go_wp2_with fail
            go_ret
            exact ⟨ret_bool Hno.out.symm, rfl⟩
          · have Hy := Lib.hid (Hnx.out (by rw [Hce.out, Ht.out, decide_eq_true hp, flHas, hh]; rfl))
            clear hh
            go_wp2_with fail
            go_round
            case rel => exact ⟨k + 1, by omega, by go_num, Hy.out⟩
            case measure => simp [intOf]; omega
        · have Hy := Lib.hid (Hnx.out (by rw [Hce.out, Ht.out, decide_eq_false hp]; rfl))
          go_wp2_with fail
          go_round
          case rel => exact ⟨k + 1, by omega, by go_num, Hy.out⟩
          case measure => simp [intOf]; omega
    · obtain rfl : k = n0 := by omega
      have Hy := Lib.hid (flRow_end (n := n) (by rw [Hn0.out]; omega) (by rw [Hn0.out]; omega) Hp.out)
      have Hm : Hid (∀ x ∈ row, 0 ≤ x ∧ x ≤ 5) := fun x hx => by
        have := flCells_mem (S := S) (row := row) (need := need) (by rw [Hn0.out]; exact Hp.out) x hx
        omega
      by_cases he : k = n
      · subst he
        have Hd : Hid (flRow k need S row = decide (row.sum = need)) := by show _ = _; rw [Hy.out, Hn0.out]; simp
        have hsb := Lib.hid (sum_small Hm.out)
        have hkk : ((k : Int) == (k : Int)) = true := by simp
        go_wp2_with fail
        with_reducible refine Calls.mono (l3Sum_any A0 row k c0 _ hx Hn0.out (fun j hj => by have := hsb.out j (by rw [Hn0.out]; exact hj); omega) (fun x hx => by have := Hm.out x hx; omega)) ?_
        rintro e w3 ⟨rfl, hw⟩
        obtain rfl := hw
        generalize row.sum = z at *
        by_cases hz : z = need
        · have Hno : Hid (flRow k need S row = true) := by show _ = _; rw [Hd.out, decide_eq_true hz]
          have hzz : (z == need) = true := by simpa using hz
          clear hz Hd
          go_wp2_with fail
          go_ret
          exact ⟨ret_bool Hno.out.symm, rfl⟩
        · have Hno : Hid (flRow k need S row = false) := by show _ = _; rw [Hd.out, decide_eq_false hz]
          have hzz : (z == need) = false := by simpa using hz
          clear hz Hd
          go_wp2_with fail
          go_ret
          exact ⟨ret_bool Hno.out.symm, rfl⟩
      · have Hno : Hid (flRow n need S row = false) := by show _ = _; rw [Hy.out, Hn0.out, decide_eq_false he]; rfl
        have hd2 : ((k : Int) == (n : Int)) = false := by simp; omega
        clear he
        go_wp2_with fail
        go_ret
        exact ⟨ret_bool Hno.out.symm, rfl⟩
end Go.Proofs.Yteaeedeaoddpcaa

/- Which fields are valid: the program's answer and the reference's. No condition. -/
import Derived.Test.YtbefnhagmejpcaaField
import Derived.Test.YtbefnhagmejpcaaTabs
namespace Go.Proofs.Ytbefnhagmejpcaa
open Go.RowKit Go.Sort

def rowB (n : Nat) (r : List Int) : Bool := allB r 0 99 && (r.length == n)
/-- A valid field. -/
def goodF (F : Fld) : Bool := inB F.op.length 1 7 && rowB F.op.length F.op && decide (F.di.length ≤ 7) && F.di.all (rowB F.op.length)
theorem rowB_iff {n : Nat} {r : List Int} : rowB n r = true ↔ (∀ x ∈ r, 0 ≤ x ∧ x ≤ 99) ∧ r.length = n := by simp [rowB, allB_iff]
theorem goodF_iff {F : Fld} : goodF F = true ↔ (1 ≤ F.op.length ∧ F.op.length ≤ 7) ∧ (∀ x ∈ F.op, 0 ≤ x ∧ x ≤ 99) ∧ F.di.length ≤ 7 ∧ ∀ r ∈ F.di, (∀ x ∈ r, 0 ≤ x ∧ x ≤ 99) ∧ r.length = F.op.length := by
  simp only [goodF, Bool.and_eq_true, inB_iff, decide_eq_true_eq, List.all_eq_true, rowB_iff]
  constructor
  · rintro ⟨⟨⟨⟨h1, h2⟩, h3, _⟩, h4⟩, h5⟩; exact ⟨⟨by omega, by omega⟩, h3, h4, h5⟩
  · rintro ⟨⟨h1, h2⟩, h3, h4, h5⟩; exact ⟨⟨⟨⟨by omega, by omega⟩, h3, trivial⟩, h4⟩, h5⟩

theorem goodRow {F : Fld} (h : goodF F = true) {k : Nat} (hk : k < F.di.length) : F.di[k].length = F.op.length := ((goodF_iff.1 h).2.2.2 _ (List.getElem_mem hk)).2
theorem l2Row_any (A : Option Addr) (xs : List Int) (m c n : Nat) (w : World) (hx : IntsAt w A xs) (hnx : xs.length = m) :
    Calls Try.prog 76 #[.slice A m c, .int .i64 n, .int .i64 99] w fun e w' => e = .returned (.bool (rowB n xs)) ∧ w = w' := by
  have hm : m ≤ 9223372036854775807 := hnx ▸ hx.1
  have Hx := Lib.hid hnx; clear hnx
  go_enter Try.func76, Try.ntmps76
  go_wp2_with fail
  go_loop [7] (fun i => ∃ k : Nat, k ≤ m ∧ i = .int .i64 k ∧ Hid ((xs.take k).all (fun x => inB x 0 99) = true)) (fun i => m - (intOf i).toNat)
  case atStart => exact ⟨0, by omega, rfl, rfl⟩
  case round =>
    obtain ⟨k, hk, rfl, Hp⟩ := hrel
    by_cases hlt : k < m
    · have lx : k < xs.length := by rw [Hx.out]; exact hlt
      obtain ⟨ad, rfl, hc⟩ := hx.at_ lx
      go_wp2_with fail
      refine (l1In_any _ _ _ _).mono ?_
      rintro e w' ⟨rfl, rfl⟩
      cases hpk : inB xs[k] 0 99
      · go_wp2_with fail
        go_ret
        refine ⟨ret_bool ?_, rfl⟩
        have : allB xs 0 99 = false := all_false_of (p := fun x => inB x 0 99) lx hpk
        simp [rowB, this, Array.getD]
      · go_wp2_with fail
        go_round
        case rel => exact ⟨k + 1, by omega, by go_num, all_take_succ Hp.out lx hpk⟩
        case measure => simp [intOf]; omega
    · go_wp2_with fail
      go_ret
      refine ⟨ret_bool ?_, rfl⟩
      have hp := Hp.out
      have e := Hx.out
      rw [List.take_of_length_le (by omega)] at hp
      have : allB xs 0 99 = true := hp
      rw [rowB, this, e, Bool.true_and, Bool.eq_iff_iff]
      simp [Array.getD]
      try omega

theorem goodF_no_rows {F : Fld} (h : F.di.all (rowB F.op.length) = false) : goodF F = false := by simp [goodF, h]

set_option maxHeartbeats 400000 in
theorem l2Good_any (f : Value) (F : Fld) (w : World) (hf : FldAt w f F) :
    Calls Try.prog 64 #[f] w fun e w' => e = .returned (.bool (goodF F)) ∧ Kp w w' := by
  obtain ⟨A, c, B, d, rfl, hA, hB⟩ := hf
  have hk0 : Kp w (w.alloc (.cells #[.slice A F.op.length c, .slice B F.di.length d] 29)) := (Kp.refl w).alloc _
  have hA0 := hA.kp hk0
  have hB0 := hB.kp hk0
  have hBl := hB.1
  have hAl := hA.1
  go_enter Try.func64, Try.ntmps64
  go_wp2_with fail
  go_loop [4] (fun i => ∃ k : Nat, k ≤ F.di.length ∧ i = .int .i64 k ∧ Hid ((F.di.take k).all (rowB F.op.length) = true)) (fun i => F.di.length - (intOf i).toNat)
  case atStart => exact ⟨0, by omega, rfl, rfl⟩
  case round =>
    obtain ⟨k, hk, rfl, Hp⟩ := hrel
    by_cases hlt : k < F.di.length
    · obtain ⟨bd, A', c', rfl, hc, hr⟩ := hB0.at_ hlt
      go_wp2_with fail
      refine (l2Row_any A' F.di[k] _ c' _ _ hr rfl).mono ?_
      rintro e w' ⟨rfl, rfl⟩
      cases hpk : rowB F.op.length F.di[k]
      · have Hpk := Lib.hid hpk; clear hpk
        go_wp2_with fail
        go_ret
        exact ⟨ret_bool (goodF_no_rows (all_false_of hlt Hpk.out)).symm, hk0⟩
      · have Hpk := Lib.hid hpk; clear hpk
        go_wp2_with fail
        go_round
        case rel => exact ⟨k + 1, by omega, by go_num, all_take_succ Hp.out hlt Hpk.out⟩
        case measure => simp [intOf]; omega
    · have hall : Hid (F.di.all (rowB F.op.length) = true) := by
        have hp := Hp.out
        rw [List.take_of_length_le (by omega)] at hp
        exact hp
      go_wp2_with fail
      refine (l1In_any _ _ _ _).mono ?_
      rintro e w' ⟨rfl, rfl⟩
      cases h1 : inB F.op.length 1 7
      · have H1 := Lib.hid h1; clear h1
        go_wp2_with fail
        go_ret
        exact ⟨ret_bool (by simp [goodF, H1.out, Array.getD]), hk0⟩
      · have H1 := Lib.hid h1; clear h1
        go_wp2_with fail
        refine (l2Row_any A F.op _ c _ _ hA0 rfl).mono ?_
        rintro e w' ⟨rfl, rfl⟩
        cases h2 : rowB F.op.length F.op
        · have H2 := Lib.hid h2; clear h2
          go_wp2_with fail
          go_ret
          exact ⟨ret_bool (by simp [goodF, H2.out, Array.getD]), hk0⟩
        · have H2 := Lib.hid h2; clear h2
          go_wp2_with fail
          go_ret
          refine ⟨ret_bool ?_, hk0⟩
          have := hall.out
          have h1 := H1.out
          have h2 := H2.out
          rw [goodF, h1, h2, this]
          simp [Array.getD]
          try omega

/- slices.ContainsFunc over lists of lists. -/
set_option maxHeartbeats 400000 in
theorem indexFunc2_any (F : FuncId) (caps : Array Value) (p : List Int → Bool) (B : Option Addr) (rows : List (List Int)) (n c : Nat) (w : World) (hx : GridAt w B rows) (hnx : rows.length = n)
    (hF : ∀ (args : Array Value) (w : World), Sem.run Try.prog (callFunc F args) w = .ok (.enter F args) w)
    (hf : ∀ k (hk : k < rows.length) (A : Option Addr) (c : Nat) (w' : World), Kp w w' → IntsAt w' A rows[k] → Calls Try.prog F (#[.slice A rows[k].length c] ++ caps) w' fun e w'' => e = .returned (.bool (p rows[k])) ∧ Kp w' w'') :
    Calls Try.prog 106 #[.slice B n c, .func (.func F) #[] caps] w fun e w' => ∃ r : Int, e = .returned (.int .i64 r) ∧ decide (0 ≤ r) = rows.any p ∧ Kp w w' := by
  have hn : n ≤ 9223372036854775807 := hnx ▸ hx.1
  have Hx := Lib.hid hnx; clear hnx
  have Hf := Lib.hid hf; clear hf
  go_enter Try.func106, Try.ntmps106
  go_wp2
  go_loopw [8] (fun i wr => ∃ k : Nat, k ≤ n ∧ i = .int .i64 k ∧ Hid ((rows.take k).any p = false) ∧ Kp w wr) (fun i _ => n - (intOf i).toNat)
  case atStart => exact ⟨0, by omega, rfl, rfl, Kp.refl w⟩
  case round =>
    obtain ⟨k, hk, rfl, Hp, hkp⟩ := hrel
    by_cases hlt : k < n
    · have lx : k < rows.length := by rw [Hx.out]; exact hlt
      obtain ⟨ad, A, c', rfl, hc, hr⟩ := (hx.kp hkp).at_ lx
      go_wp2_with fail
      refine (Hf.out k lx A c' wr hkp hr).mono ?_
      rintro e w1 ⟨rfl, hk1⟩
      cases hpk : p rows[k]
      · have Hpk := Lib.hid hpk; clear hpk
        go_wp2
        go_roundw
        case rel => exact ⟨k + 1, by omega, by go_num, any_take_succ Hp.out lx Hpk.out, hkp.trans hk1⟩
        case measure => simp [intOf]; omega
      · have Hpk := Lib.hid hpk; clear hpk
        go_wp2
        go_ret
        exact ⟨k, rfl, by rw [any_of lx Hpk.out]; simp, hkp.trans hk1⟩
    · go_wp2
      go_ret
      refine ⟨-1, rfl, ?_, hkp⟩
      have hp := Hp.out
      rw [List.take_of_length_le (by rw [Hx.out]; omega)] at hp
      rw [hp]; rfl
theorem containsFunc2_any (F : FuncId) (caps : Array Value) (p : List Int → Bool) (B : Option Addr) (rows : List (List Int)) (n c : Nat) (w : World) (hx : GridAt w B rows) (hnx : rows.length = n)
    (hF : ∀ (args : Array Value) (w : World), Sem.run Try.prog (callFunc F args) w = .ok (.enter F args) w)
    (hf : ∀ k (hk : k < rows.length) (A : Option Addr) (c : Nat) (w' : World), Kp w w' → IntsAt w' A rows[k] → Calls Try.prog F (#[.slice A rows[k].length c] ++ caps) w' fun e w'' => e = .returned (.bool (p rows[k])) ∧ Kp w' w'') :
    Calls Try.prog 97 #[.slice B n c, .func (.func F) #[] caps] w fun e w' => e = .returned (.bool (rows.any p)) ∧ Kp w w' := by
  have Hx := Lib.hid hnx; clear hnx
  have Hf := Lib.hid hf; clear hf
  go_enter Try.func97, Try.ntmps97
  go_wp2_with fail
  refine (indexFunc2_any F caps p B rows n c w hx Hx.out hF Hf.out).mono ?_
  rintro e w1 ⟨r, rfl, hr, hk1⟩
  have Hr := Lib.hid hr; clear hr
  go_wp2
  go_ret
  exact ⟨ret_bool Hr.out, hk1⟩

theorem isField_clo (A A0 B0 : Option Addr) (xs : List Int) (c n m c0 d0 b : Nat) (w : World) (hx : IntsAt w A xs) (hc : w.cell? ⟨b, 0, none⟩ = some (.slice A0 n c0)) :
    Calls Try.prog 98 #[.slice A xs.length c, .pointer (some ⟨b, 0, none⟩)] w fun e w' => e = .returned (.bool (!rowB n xs)) ∧ Kp w w' := by
  have hl := hx.1
  by_cases h : xs.length = n
  · have h1 : ((xs.length : Int) != (n : Int)) = false := by simp [h]
    have H := Lib.hid h; clear h
    go_enter Try.func98, Try.ntmps98
    go_wp2_with fail
    refine (areBetween_any A xs _ c _ _ w hx rfl).mono ?_
    rintro e w1 ⟨rfl, hk⟩
    go_wp2_with fail
    go_ret
    refine ⟨ret_bool ?_, hk⟩
    have := H.out
    simp [rowB, this, Array.getD]
  · have h1 : ((xs.length : Int) != (n : Int)) = true := by simp; omega
    go_enter Try.func98, Try.ntmps98
    go_wp2_with fail
    go_ret
    refine ⟨ret_bool ?_, Kp.refl _⟩
    simp [rowB, h, Array.getD]

set_option maxHeartbeats 400000 in
theorem isField_any (f : Value) (F : Fld) (w : World) (hf : FldAt w f F) :
    Calls Try.prog 69 #[f] w fun e w' => e = .returned (.bool (goodF F)) ∧ Kp w w' := by
  obtain ⟨A, c, B, d, rfl, hA, hB⟩ := hf
  have hmf : ∀ (fn : Fn) (first cap : Array Value) (w : World), (Instr.makeFunc fn first cap).run Try.prog w = .ok (.func fn first cap) w := fun _ _ _ _ => rfl
  have hk0 : Kp w (w.alloc (.cells #[.slice A F.op.length c, .slice B F.di.length d] 29)) := (Kp.refl w).alloc _
  have hA0 := hA.kp hk0
  have hB0 := hB.kp hk0
  have hBl := hB.1
  have hAl := hA.1
  have d0 : (w.alloc (.cells #[.slice A F.op.length c, .slice B F.di.length d] 29)).cell? ⟨w.heap.size, 0, none⟩ = some (.slice A F.op.length c) := by
    rw [World.cell?_alloc_at _ _ _ _ rfl]; rfl
  have d1 : (w.alloc (.cells #[.slice A F.op.length c, .slice B F.di.length d] 29)).cell? ⟨w.heap.size, 1, none⟩ = some (.slice B F.di.length d) := by
    rw [World.cell?_alloc_at _ _ _ _ rfl]; rfl
  go_enter Try.func69, Try.ntmps69
  go_wp2_with fail
  refine (between_any _ _ _ _).mono ?_
  rintro e w' ⟨rfl, rfl⟩
  cases h1 : inB F.op.length 1 7
  · have H1 := Lib.hid h1; clear h1
    go_wp2_with fail
    go_ret
    exact ⟨ret_bool (by simp [goodF, H1.out, Array.getD]), hk0⟩
  have H1 := Lib.hid h1; clear h1
  go_wp2_with fail
  refine (areBetween_any A F.op _ c _ _ _ hA0 rfl).mono ?_
  rintro e w1 ⟨rfl, hk1⟩
  have e1 := hk1.get d1
  cases h2 : allB F.op 0 99
  · have H2 := Lib.hid h2; clear h2
    go_wp2_with fail
    go_ret
    exact ⟨ret_bool (by simp [goodF, rowB, H2.out, Array.getD]), hk0.trans hk1⟩
  have H2 := Lib.hid h2; clear h2
  by_cases h3 : F.di.length ≤ 7
  · go_wp2_with fail
    refine (containsFunc2_any _ _ (fun r => !rowB F.op.length r) B F.di _ d w1 (hB0.kp hk1) rfl (callFunc_of Try.func98 (by kernel_rfl) (by kernel_rfl)) ?_).mono ?_
    · intro k hk A' c' w' hk' hi
      exact isField_clo A' A B _ c' _ F.di.length c d w.heap.size w' hi ((hk1.trans hk').get d0)
    rintro e w2 ⟨rfl, hk2⟩
    go_wp2_with fail
    go_ret
    refine ⟨ret_bool ?_, (hk0.trans hk1).trans hk2⟩
    have h1 := H1.out
    have h2 := H2.out
    have h4 : (!F.di.any fun r => !rowB F.op.length r) = F.di.all (rowB F.op.length) := by rw [List.all_eq_not_any_not]
    show (!F.di.any fun r => !rowB F.op.length r) = _
    rw [h4, goodF, h1, rowB, h2]
    simp [h3]
  · go_wp2_with fail
    go_ret
    exact ⟨ret_bool (by simp [goodF, h3, Array.getD]), hk0.trans hk1⟩
end Go.Proofs.Ytbefnhagmejpcaa

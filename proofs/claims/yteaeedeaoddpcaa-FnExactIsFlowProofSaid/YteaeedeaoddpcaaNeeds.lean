/- Rooms and needs: reference and program. No condition. -/
import Derived.Test.YteaeedeaoddpcaaOpened
import Derived.Test.YteaeedeaoddpcaaFind
namespace Go.Proofs.Yteaeedeaoddpcaa
open Go.RowKit Go.Sort

def numsB (xs : List Int) (n : Nat) (most : Int) : Bool := xs.all (fun x => inB x 0 most) && decide (xs.length = n)
def needsB (F : Fld) (rooms needs : List Int) : Bool := numsB rooms F.op.length 20 && numsB needs F.di.length 5
def haulB (F : Fld) (rooms needs S : List Int) : Bool := openedB F S && needsB F rooms needs
theorem numsB_iff {xs : List Int} {n : Nat} {most : Int} : numsB xs n most = true ↔ (∀ x ∈ xs, 0 ≤ x ∧ x ≤ most) ∧ xs.length = n := by
  unfold numsB inB
  rw [Bool.and_eq_true, List.all_eq_true, decide_eq_true_eq]
  simp
theorem haulB_iff {F : Fld} {rooms needs S : List Int} : haulB F rooms needs S = true ↔ openedB F S = true ∧ ((∀ x ∈ rooms, 0 ≤ x ∧ x ≤ 20) ∧ rooms.length = F.op.length) ∧ ((∀ x ∈ needs, 0 ≤ x ∧ x ≤ 5) ∧ needs.length = F.di.length) := by
  unfold haulB needsB
  rw [Bool.and_eq_true, Bool.and_eq_true, numsB_iff, numsB_iff]
set_option maxHeartbeats 400000 in
theorem l7Numbers_any (A0 : Option Addr) (xs : List Int) (n0 c0 : Nat) (n : Nat) (most : Int) (w : World) (hx : IntsAt w A0 xs) (hn0 : xs.length = n0) :
    Calls Try.prog 75 #[.slice A0 n0 c0, .int .i64 n, .int .i64 most] w fun e w' => e = .returned (.bool (numsB xs n most)) ∧ w = w' := by
  have hm : n0 ≤ 9223372036854775807 := hn0 ▸ hx.1
  have Hn0 := Lib.hid hn0
  have HB : Hid (numsB xs n most = ((!xs.any fun x => !inB x 0 most) && decide (n0 = n))) := by
    show _ = _
    unfold numsB
    rw [List.all_eq_not_any_not, hn0]
  clear hn0
  go_enter Try.func75, Try.ntmps75
  go_wp2_with fail
  go_loop [7] (fun iv => ∃ k : Nat, k ≤ n0 ∧ iv = .int .i64 k ∧ Hid ((xs.take k).any (fun x => !inB x 0 most) = false)) (fun iv => n0 - (intOf iv).toNat)
  case atStart => exact ⟨0, by omega, rfl, rfl⟩
  case round =>
    obtain ⟨k, hk, rfl, Hp⟩ := hrel
    by_cases hlt : k < n0
    · have lx : k < xs.length := by rw [Hn0.out]; exact hlt
      obtain ⟨ad, rfl, hc⟩ := hx.at_ lx
      go_wp2_with fail
      have CC := Lib.hid (l1In_any xs[k] 0 most w)
      with_reducible refine Calls.mono CC.out ?_
      rintro e w3 ⟨rfl, hw⟩
      obtain rfl := hw
      clear CC
      cases ht : inB xs[k] 0 most
      · have Ht := Lib.hid ht; clear ht
        go_wp2_with fail
        go_ret
        exact ⟨by rw [HB.out, any_of (p := fun x => !inB x 0 most) lx (by rw [Ht.out]; rfl)]; rfl, rfl⟩
      · have Ht := Lib.hid ht; clear ht
        go_wp2_with fail
        go_round
        case rel => exact ⟨k + 1, by omega, by go_num, any_take_succ Hp.out lx (by rw [Ht.out]; rfl)⟩
        case measure => simp [intOf]; omega
    · go_wp2_with fail
      go_ret
      have hp := Hp.out
      rw [List.take_of_length_le (by rw [Hn0.out]; omega)] at hp
      refine ⟨ret_bool ?_, rfl⟩
      rw [HB.out, hp]
      by_cases he : n0 = n
      · simp [he]
      · simp [he]; omega
set_option maxRecDepth 100000 in
set_option maxHeartbeats 400000 in
theorem l7Needs_any (f : Value) (F : Fld) (A1 : Option Addr) (rooms : List Int) (n1 c1 : Nat) (A2 : Option Addr) (needs : List Int) (n2 c2 : Nat) (w : World) (hf : FldAt w f F) (h1 : IntsAt w A1 rooms) (hn1 : rooms.length = n1) (h2 : IntsAt w A2 needs) (hn2 : needs.length = n2) :
    Calls Try.prog 54 #[f, .slice A1 n1 c1, .slice A2 n2 c2] w fun e w' => e = .returned (.bool (needsB F rooms needs)) ∧ Kp w w' := by
  obtain ⟨A, c, B, d, rfl, hA, hB⟩ := hf
  have hk0 : Kp w (w.alloc (.cells #[.slice A F.op.length c, .slice B F.di.length d] 30)) := (Kp.refl w).alloc _
  obtain ⟨d0, d1⟩ := box2 w (.slice A F.op.length c) (.slice B F.di.length d) 30
  have hFA := FldAt.kp (show FldAt w (.agg #[.slice A F.op.length c, .slice B F.di.length d]) F from ⟨A, c, B, d, rfl, hA, hB⟩) hk0
  replace h1 := h1.kp hk0
  replace h2 := h2.kp hk0
  have Hn1 := Lib.hid hn1; have Hn2 := Lib.hid hn2
  clear hA hB hn1 hn2
  go_enter Try.func54, Try.ntmps54
  go_wp2_with fail
  have hsz : Hid ((w.alloc (.cells #[.slice A F.op.length c, .slice B F.di.length d] 30)).heap.size = w.heap.size + 1) := by show _ = _; simp
  generalize w.alloc (.cells #[.slice A F.op.length c, .slice B F.di.length d] 30) = wb at *
  have hkb : Kp wb wb := Kp.refl _
  have hkw := hk0
  have q_d0 := hkb.get d0
  have q_d1 := hkb.get d1
  go_wp2_with fail
  have CC := Lib.hid (l7Numbers_any A1 rooms n1 c1 F.op.length 20 wb h1 Hn1.out)
  with_reducible refine Calls.mono CC.out ?_
  rintro e w1 ⟨rfl, hw⟩
  obtain rfl := hw
  clear CC q_d0 q_d1
  cases hg_ : numsB rooms F.op.length 20
  · have Hno : Hid (needsB F rooms needs = false) := by show _ = _; rw [needsB, hg_]; rfl
    clear hg_
    have q_d0 := hkb.get d0
    have q_d1 := hkb.get d1
    go_wp2_with fail
    go_ret
    exact ⟨by rw [Hno.out]; rfl, hkw⟩
  have Hy : Hid (needsB F rooms needs = numsB needs F.di.length 5) := by show _ = _; rw [needsB, hg_]; rfl
  clear hg_
  have q_d0 := hkb.get d0
  have q_d1 := hkb.get d1
  go_wp2_with fail
  have CC := Lib.hid (l7Numbers_any A2 needs n2 c2 F.di.length 5 wb h2 Hn2.out)
  with_reducible refine Calls.mono CC.out ?_
  rintro e w2 ⟨rfl, hw⟩
  obtain rfl := hw
  clear CC q_d0 q_d1
  have q_d0 := hkb.get d0
  have q_d1 := hkb.get d1
  go_wp2_with fail
  go_ret
  exact ⟨by rw [Hy.out]; rfl, hkw⟩
set_option maxRecDepth 100000 in
set_option maxHeartbeats 400000 in
theorem l7Given_any (f : Value) (F : Fld) (A1 : Option Addr) (rooms : List Int) (n1 c1 : Nat) (A2 : Option Addr) (needs : List Int) (n2 c2 : Nat) (A3 : Option Addr) (S : List Int) (n3 c3 : Nat) (w : World) (hf : FldAt w f F) (h1 : IntsAt w A1 rooms) (hn1 : rooms.length = n1) (h2 : IntsAt w A2 needs) (hn2 : needs.length = n2) (h3 : IntsAt w A3 S) (hn3 : S.length = n3) :
    Calls Try.prog 33 #[f, .slice A1 n1 c1, .slice A2 n2 c2, .slice A3 n3 c3] w fun e w' => e = .returned (.bool (haulB F rooms needs S)) ∧ Kp w w' := by
  obtain ⟨A, c, B, d, rfl, hA, hB⟩ := hf
  have hk0 : Kp w (w.alloc (.cells #[.slice A F.op.length c, .slice B F.di.length d] 30)) := (Kp.refl w).alloc _
  obtain ⟨d0, d1⟩ := box2 w (.slice A F.op.length c) (.slice B F.di.length d) 30
  have hFA := FldAt.kp (show FldAt w (.agg #[.slice A F.op.length c, .slice B F.di.length d]) F from ⟨A, c, B, d, rfl, hA, hB⟩) hk0
  replace h1 := h1.kp hk0
  replace h2 := h2.kp hk0
  replace h3 := h3.kp hk0
  have Hn1 := Lib.hid hn1; have Hn2 := Lib.hid hn2; have Hn3 := Lib.hid hn3
  clear hA hB hn1 hn2 hn3
  go_enter Try.func33, Try.ntmps33
  go_wp2_with fail
  have hsz : Hid ((w.alloc (.cells #[.slice A F.op.length c, .slice B F.di.length d] 30)).heap.size = w.heap.size + 1) := by show _ = _; simp
  generalize w.alloc (.cells #[.slice A F.op.length c, .slice B F.di.length d] 30) = wb at *
  have hkb : Kp wb wb := Kp.refl _
  have hkw := hk0
  have q_d0 := hkb.get d0
  have q_d1 := hkb.get d1
  go_wp2_with fail
  have CC := Lib.hid (l2Two_any _ F A3 S n3 c3 wb hFA h3 Hn3.out)
  with_reducible refine Calls.mono CC.out ?_
  rintro e w1 ⟨rfl, hk1⟩
  clear CC q_d0 q_d1
  replace hkb := hkb.trans hk1
  cases hg_ : openedB F S
  · have Hno : Hid (haulB F rooms needs S = false) := by show _ = _; rw [haulB, hg_]; rfl
    clear hg_
    have q_d0 := hkb.get d0
    have q_d1 := hkb.get d1
    go_wp2_with fail
    go_ret
    exact ⟨by rw [Hno.out]; rfl, hkw.trans hkb⟩
  have Hy : Hid (haulB F rooms needs S = needsB F rooms needs) := by show _ = _; rw [haulB, hg_]; rfl
  clear hg_
  have q_d0 := hkb.get d0
  have q_d1 := hkb.get d1
  go_wp2_with fail
  have CC := Lib.hid (l7Needs_any _ F A1 rooms n1 c1 A2 needs n2 c2 _ (hFA.kp hkb) (h1.kp hkb) Hn1.out (h2.kp hkb) Hn2.out)
  with_reducible refine Calls.mono CC.out ?_
  rintro e w2 ⟨rfl, hk2⟩
  clear CC q_d0 q_d1
  replace hkb := hkb.trans hk2
  have q_d0 := hkb.get d0
  have q_d1 := hkb.get d1
  go_wp2_with fail
  go_ret
  exact ⟨by rw [Hy.out]; rfl, hkw.trans hkb⟩
set_option maxRecDepth 100000 in
set_option maxHeartbeats 400000 in
theorem areNeeds_any (f : Value) (F : Fld) (A1 : Option Addr) (rooms : List Int) (n1 c1 : Nat) (A2 : Option Addr) (needs : List Int) (n2 c2 : Nat) (w : World) (hf : FldAt w f F) (h1 : IntsAt w A1 rooms) (hn1 : rooms.length = n1) (h2 : IntsAt w A2 needs) (hn2 : needs.length = n2) :
    Calls Try.prog 66 #[f, .slice A1 n1 c1, .slice A2 n2 c2] w fun e w' => e = .returned (.bool (needsB F rooms needs)) ∧ Kp w w' := by
  obtain ⟨A, c, B, d, rfl, hA, hB⟩ := hf
  have hk0 : Kp w (w.alloc (.cells #[.slice A F.op.length c, .slice B F.di.length d] 30)) := (Kp.refl w).alloc _
  obtain ⟨d0, d1⟩ := box2 w (.slice A F.op.length c) (.slice B F.di.length d) 30
  have hFA := FldAt.kp (show FldAt w (.agg #[.slice A F.op.length c, .slice B F.di.length d]) F from ⟨A, c, B, d, rfl, hA, hB⟩) hk0
  replace h1 := h1.kp hk0
  replace h2 := h2.kp hk0
  have Hn1 := Lib.hid hn1; have Hn2 := Lib.hid hn2
  clear hA hB hn1 hn2
  have HB : Hid (needsB F rooms needs = (decide (n1 = F.op.length) && allB rooms 0 20 && decide (n2 = F.di.length) && allB needs 0 5)) := by
    show _ = _
    unfold needsB numsB
    rw [Hn1.out, Hn2.out]
    change ((allB rooms 0 20 && decide (n1 = F.op.length)) && (allB needs 0 5 && decide (n2 = F.di.length))) = _
    cases decide (n1 = F.op.length) <;> cases decide (n2 = F.di.length) <;> cases allB rooms 0 20 <;> cases allB needs 0 5 <;> rfl
  go_enter Try.func66, Try.ntmps66
  by_cases e1 : n1 = F.op.length
  · subst e1
    have hd1 : (((F.op.length : Nat) : Int) == ((F.op.length : Nat) : Int)) = true := by simp
    go_wp2_with fail
    have hsz : Hid ((w.alloc (.cells #[.slice A F.op.length c, .slice B F.di.length d] 30)).heap.size = w.heap.size + 1) := by show _ = _; simp
    generalize w.alloc (.cells #[.slice A F.op.length c, .slice B F.di.length d] 30) = wb at *
    have hkb : Kp wb wb := Kp.refl _
    have hkw := hk0
    have CC := Lib.hid (areBetween_any A1 rooms F.op.length c1 0 20 wb h1 Hn1.out)
    with_reducible refine Calls.mono CC.out ?_
    rintro e w1 ⟨rfl, hk1⟩
    clear CC
    replace hkb := hkb.trans hk1
    cases hg_ : allB rooms 0 20
    · have Hno : Hid (needsB F rooms needs = false) := by show _ = _; rw [HB.out, hg_]; simp
      clear hg_
      have q_d0 := hkb.get d0
      have q_d1 := hkb.get d1
      go_wp2_with fail
      go_ret
      exact ⟨by rw [Hno.out]; rfl, hkw.trans hkb⟩
    have Hr := Lib.hid hg_; clear hg_
    by_cases e2 : n2 = F.di.length
    · subst e2
      have Hy : Hid (needsB F rooms needs = allB needs 0 5) := by show _ = _; rw [HB.out, Hr.out]; simp
      have q_d0 := hkb.get d0
      have q_d1 := hkb.get d1
      go_wp2_with fail
      have CC := Lib.hid (areBetween_any A2 needs F.di.length c2 0 5 _ (h2.kp hkb) Hn2.out)
      with_reducible refine Calls.mono CC.out ?_
      rintro e w2 ⟨rfl, hk2⟩
      clear CC q_d0 q_d1
      replace hkb := hkb.trans hk2
      have q_d0 := hkb.get d0
      have q_d1 := hkb.get d1
      go_wp2_with fail
      go_ret
      exact ⟨by rw [Hy.out]; rfl, hkw.trans hkb⟩
    · have Hno : Hid (needsB F rooms needs = false) := by show _ = _; rw [HB.out, decide_eq_false e2]; simp
      have hd2 : ((n2 : Int) == (F.di.length : Int)) = false := by simp; omega
      clear e2
      have q_d0 := hkb.get d0
      have q_d1 := hkb.get d1
      go_wp2_with fail
      go_ret
      exact ⟨by rw [Hno.out]; rfl, hkw.trans hkb⟩
  · have Hno : Hid (needsB F rooms needs = false) := by show _ = _; rw [HB.out, decide_eq_false e1]; rfl
    have hd1 : ((n1 : Int) == (F.op.length : Int)) = false := by simp; omega
    clear e1
    go_wp2_with fail
    have hsz : Hid ((w.alloc (.cells #[.slice A F.op.length c, .slice B F.di.length d] 30)).heap.size = w.heap.size + 1) := by show _ = _; simp
    generalize w.alloc (.cells #[.slice A F.op.length c, .slice B F.di.length d] 30) = wb at *
    have hkb : Kp wb wb := Kp.refl _
    have hkw := hk0
    have q_d0 := hkb.get d0
    have q_d1 := hkb.get d1
    go_wp2_with fail
    go_ret
    exact ⟨by rw [Hno.out]; rfl, hkw⟩
set_option maxRecDepth 100000 in
set_option maxHeartbeats 400000 in
theorem isHaul_any (f : Value) (F : Fld) (A1 : Option Addr) (rooms : List Int) (n1 c1 : Nat) (A2 : Option Addr) (needs : List Int) (n2 c2 : Nat) (A3 : Option Addr) (S : List Int) (n3 c3 : Nat) (w : World) (hf : FldAt w f F) (h1 : IntsAt w A1 rooms) (hn1 : rooms.length = n1) (h2 : IntsAt w A2 needs) (hn2 : needs.length = n2) (h3 : IntsAt w A3 S) (hn3 : S.length = n3) :
    Calls Try.prog 43 #[f, .slice A1 n1 c1, .slice A2 n2 c2, .slice A3 n3 c3] w fun e w' => e = .returned (.bool (haulB F rooms needs S)) ∧ Kp w w' := by
  obtain ⟨A, c, B, d, rfl, hA, hB⟩ := hf
  have hk0 : Kp w (w.alloc (.cells #[.slice A F.op.length c, .slice B F.di.length d] 30)) := (Kp.refl w).alloc _
  obtain ⟨d0, d1⟩ := box2 w (.slice A F.op.length c) (.slice B F.di.length d) 30
  have hFA := FldAt.kp (show FldAt w (.agg #[.slice A F.op.length c, .slice B F.di.length d]) F from ⟨A, c, B, d, rfl, hA, hB⟩) hk0
  replace h1 := h1.kp hk0
  replace h2 := h2.kp hk0
  replace h3 := h3.kp hk0
  have Hn1 := Lib.hid hn1; have Hn2 := Lib.hid hn2; have Hn3 := Lib.hid hn3
  clear hA hB hn1 hn2 hn3
  go_enter Try.func43, Try.ntmps43
  go_wp2_with fail
  have hsz : Hid ((w.alloc (.cells #[.slice A F.op.length c, .slice B F.di.length d] 30)).heap.size = w.heap.size + 1) := by show _ = _; simp
  generalize w.alloc (.cells #[.slice A F.op.length c, .slice B F.di.length d] 30) = wb at *
  have hkb : Kp wb wb := Kp.refl _
  have hkw := hk0
  have q_d0 := hkb.get d0
  have q_d1 := hkb.get d1
  go_wp2_with fail
  have CC := Lib.hid (isOpened_any _ F A3 S n3 c3 wb hFA h3 Hn3.out)
  with_reducible refine Calls.mono CC.out ?_
  rintro e w1 ⟨rfl, hk1⟩
  clear CC q_d0 q_d1
  replace hkb := hkb.trans hk1
  cases hg_ : openedB F S
  · have Hno : Hid (haulB F rooms needs S = false) := by show _ = _; rw [haulB, hg_]; rfl
    clear hg_
    have q_d0 := hkb.get d0
    have q_d1 := hkb.get d1
    go_wp2_with fail
    go_ret
    exact ⟨by rw [Hno.out]; rfl, hkw.trans hkb⟩
  have Hy : Hid (haulB F rooms needs S = needsB F rooms needs) := by show _ = _; rw [haulB, hg_]; rfl
  clear hg_
  have q_d0 := hkb.get d0
  have q_d1 := hkb.get d1
  go_wp2_with fail
  have CC := Lib.hid (areNeeds_any _ F A1 rooms n1 c1 A2 needs n2 c2 _ (hFA.kp hkb) (h1.kp hkb) Hn1.out (h2.kp hkb) Hn2.out)
  with_reducible refine Calls.mono CC.out ?_
  rintro e w2 ⟨rfl, hk2⟩
  clear CC q_d0 q_d1
  replace hkb := hkb.trans hk2
  have q_d0 := hkb.get d0
  have q_d1 := hkb.get d1
  go_wp2_with fail
  go_ret
  exact ⟨by rw [Hy.out]; rfl, hkw.trans hkb⟩
end Go.Proofs.Yteaeedeaoddpcaa

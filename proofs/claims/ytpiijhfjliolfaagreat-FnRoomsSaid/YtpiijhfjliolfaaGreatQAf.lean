/- Rooms and needs: reference and program; A number of a list, 0 behind its end; The program's sum of a list; The service of a set: reference and program; Sums of numbers of some places: reference and program; l1Put: a number put into a rising list; Marginal gains and greedy choices: plain words; How near the nearest site is; The gain of a set goes by its members alone; more sites, no less gain; ClientsTaken: reference and program; ClientsTaken: the reference's walk; The sites of a set within a length of some clients: the reference's walk; Cells that are kept. No condition. -/
import Derived.Test.YtpiijhfjliolfaaGreatQAe
import Derived.Test.YtpiijhfjliolfaaGreatQAa
import Derived.IntWalk
import Derived.Test.YtpiijhfjliolfaaGreatQAd
import Derived.Test.YtpiijhfjliolfaaGreatQAb
import Derived.Test.YtpiijhfjliolfaaGreatQAc
import Derived.Deep.RegionHeld3
namespace Go.Proofs.YtpiijhfjliolfaaGreat
open Go.RowKit Go.Sort

def numsB (xs : List Int) (n : Nat) (most : Int) : Bool := xs.all (fun x => inB x 0 most) && decide (xs.length = n)
def needsB (F : Fld) (rooms needs : List Int) : Bool := numsB rooms F.op.length 20 && numsB needs F.di.length 5
def haulB (F : Fld) (rooms needs S : List Int) : Bool := openedB F S && needsB F rooms needs
theorem numsB_iff {xs : List Int} {n : Nat} {most : Int} : numsB xs n most = true ↔ (∀ x ∈ xs, 0 ≤ x ∧ x ≤ most) ∧ xs.length = n := by
  unfold numsB inB
  rw [Bool.and_eq_true, List.all_eq_true, decide_eq_true_eq]
  simp
theorem haulB_iff {F : Fld} {rooms needs S : List Int} : haulB F rooms needs S = true ↔ openedB F S = true ∧ ((∀ x ∈ rooms, 0 ≤ x ∧ x ≤ 20) ∧ rooms.length = F.op.length) ∧ ((∀ x ∈ needs, 0 ≤ x ∧ x ≤ 5) ∧ needs.length = F.di.length) := by
  unfold haulB needsB
  rw [Bool.and_eq_true, Bool.and_eq_true, numsB_iff, numsB_iff]
set_option maxHeartbeats 400000 in
theorem l7Numbers_any (A0 : Option Addr) (xs : List Int) (n0 c0 : Nat) (n : Nat) (most : Int) (w : World) (hx : IntsAt w A0 xs) (hn0 : xs.length = n0) :
    Calls Tryz.prog 85 #[.slice A0 n0 c0, .int .i64 n, .int .i64 most] w fun e w' => e = .returned (.bool (numsB xs n most)) ∧ w = w' := by
  have hm : n0 ≤ 9223372036854775807 := hn0 ▸ hx.1
  have Hn0 := Lib.hid hn0
  have HB : Hid (numsB xs n most = ((!xs.any fun x => !inB x 0 most) && decide (n0 = n))) := by
    show _ = _
    unfold numsB
    rw [List.all_eq_not_any_not, hn0]
  clear hn0
  go_enter Tryz.func85, Tryz.ntmps85
  go_wp2_with fail
  go_loop [7] (fun iv => ∃ k : Nat, k ≤ n0 ∧ iv = .int .i64 k ∧ Hid ((xs.take k).any (fun x => !inB x 0 most) = false)) (fun iv => n0 - (intOf iv).toNat)
  case atStart => exact ⟨0, by omega, rfl, rfl⟩
  case round =>
    obtain ⟨k, hk, rfl, Hp⟩ := hrel
    by_cases hlt : k < n0
    · have lx : k < xs.length := by rw [Hn0.out]; exact hlt
      obtain ⟨ad, rfl, hc⟩ := hx.at_ lx
      go_wp2_with fail
      have CC := Lib.hid (l1In_any xs[k] 0 most w)
      with_reducible refine Calls.mono CC.out ?_
      rintro e w3 ⟨rfl, hw⟩
      obtain rfl := hw
      clear CC
      cases ht : inB xs[k] 0 most
      · have Ht := Lib.hid ht; clear ht
        go_wp2_with fail
        go_ret
        exact ⟨by rw [HB.out, any_of (p := fun x => !inB x 0 most) lx (by rw [Ht.out]; rfl)]; rfl, rfl⟩
      · have Ht := Lib.hid ht; clear ht
        go_wp2_with fail
        go_round
        case rel => exact ⟨k + 1, by omega, by go_num, any_take_succ Hp.out lx (by rw [Ht.out]; rfl)⟩
        case measure => simp [intOf]; omega
    · go_wp2_with fail
      go_ret
      have hp := Hp.out
      rw [List.take_of_length_le (by rw [Hn0.out]; omega)] at hp
      refine ⟨ret_bool ?_, rfl⟩
      rw [HB.out, hp]
      by_cases he : n0 = n
      · simp [he]
      · simp [he]; omega
set_option maxRecDepth 100000 in
set_option maxHeartbeats 400000 in
theorem l7Needs_any (f : Value) (F : Fld) (A1 : Option Addr) (rooms : List Int) (n1 c1 : Nat) (A2 : Option Addr) (needs : List Int) (n2 c2 : Nat) (w : World) (hf : FldAt w f F) (h1 : IntsAt w A1 rooms) (hn1 : rooms.length = n1) (h2 : IntsAt w A2 needs) (hn2 : needs.length = n2) :
    Calls Tryz.prog 40 #[f, .slice A1 n1 c1, .slice A2 n2 c2] w fun e w' => e = .returned (.bool (needsB F rooms needs)) ∧ Kp w w' := by
  obtain ⟨A, c, B, d, rfl, hA, hB⟩ := hf
  have hk0 : Kp w (w.alloc (.cells #[.slice A F.op.length c, .slice B F.di.length d] 27)) := (Kp.refl w).alloc _
  obtain ⟨d0, d1⟩ := box2 w (.slice A F.op.length c) (.slice B F.di.length d) 27
  have hFA := FldAt.kp (show FldAt w (.agg #[.slice A F.op.length c, .slice B F.di.length d]) F from ⟨A, c, B, d, rfl, hA, hB⟩) hk0
  replace h1 := h1.kp hk0
  replace h2 := h2.kp hk0
  have Hn1 := Lib.hid hn1; have Hn2 := Lib.hid hn2
  clear hA hB hn1 hn2
  go_enter Tryz.func40, Tryz.ntmps40
  go_wp2_with fail
  have hsz : Hid ((w.alloc (.cells #[.slice A F.op.length c, .slice B F.di.length d] 27)).heap.size = w.heap.size + 1) := by show _ = _; simp
  generalize w.alloc (.cells #[.slice A F.op.length c, .slice B F.di.length d] 27) = wb at *
  have hkb : Kp wb wb := Kp.refl _
  have hkw := hk0
  have q_d0 := hkb.get d0
  have q_d1 := hkb.get d1
  go_wp2_with fail
  have CC := Lib.hid (l7Numbers_any A1 rooms n1 c1 F.op.length 20 wb h1 Hn1.out)
  with_reducible refine Calls.mono CC.out ?_
  rintro e w1 ⟨rfl, hw⟩
  obtain rfl := hw
  clear CC q_d0 q_d1
  cases hg_ : numsB rooms F.op.length 20
  · have Hno : Hid (needsB F rooms needs = false) := by show _ = _; rw [needsB, hg_]; rfl
    clear hg_
    have q_d0 := hkb.get d0
    have q_d1 := hkb.get d1
    go_wp2_with fail
    go_ret
    exact ⟨by rw [Hno.out]; rfl, hkw⟩
  have Hy : Hid (needsB F rooms needs = numsB needs F.di.length 5) := by show _ = _; rw [needsB, hg_]; rfl
  clear hg_
  have q_d0 := hkb.get d0
  have q_d1 := hkb.get d1
  go_wp2_with fail
  have CC := Lib.hid (l7Numbers_any A2 needs n2 c2 F.di.length 5 wb h2 Hn2.out)
  with_reducible refine Calls.mono CC.out ?_
  rintro e w2 ⟨rfl, hw⟩
  obtain rfl := hw
  clear CC q_d0 q_d1
  have q_d0 := hkb.get d0
  have q_d1 := hkb.get d1
  go_wp2_with fail
  go_ret
  exact ⟨by rw [Hy.out]; rfl, hkw⟩
set_option maxRecDepth 100000 in
set_option maxHeartbeats 400000 in
theorem l7Given_any (f : Value) (F : Fld) (A1 : Option Addr) (rooms : List Int) (n1 c1 : Nat) (A2 : Option Addr) (needs : List Int) (n2 c2 : Nat) (A3 : Option Addr) (S : List Int) (n3 c3 : Nat) (w : World) (hf : FldAt w f F) (h1 : IntsAt w A1 rooms) (hn1 : rooms.length = n1) (h2 : IntsAt w A2 needs) (hn2 : needs.length = n2) (h3 : IntsAt w A3 S) (hn3 : S.length = n3) :
    Calls Tryz.prog 27 #[f, .slice A1 n1 c1, .slice A2 n2 c2, .slice A3 n3 c3] w fun e w' => e = .returned (.bool (haulB F rooms needs S)) ∧ Kp w w' := by
  obtain ⟨A, c, B, d, rfl, hA, hB⟩ := hf
  have hk0 : Kp w (w.alloc (.cells #[.slice A F.op.length c, .slice B F.di.length d] 27)) := (Kp.refl w).alloc _
  obtain ⟨d0, d1⟩ := box2 w (.slice A F.op.length c) (.slice B F.di.length d) 27
  have hFA := FldAt.kp (show FldAt w (.agg #[.slice A F.op.length c, .slice B F.di.length d]) F from ⟨A, c, B, d, rfl, hA, hB⟩) hk0
  replace h1 := h1.kp hk0
  replace h2 := h2.kp hk0
  replace h3 := h3.kp hk0
  have Hn1 := Lib.hid hn1; have Hn2 := Lib.hid hn2; have Hn3 := Lib.hid hn3
  clear hA hB hn1 hn2 hn3
  go_enter Tryz.func27, Tryz.ntmps27
  go_wp2_with fail
  have hsz : Hid ((w.alloc (.cells #[.slice A F.op.length c, .slice B F.di.length d] 27)).heap.size = w.heap.size + 1) := by show _ = _; simp
  generalize w.alloc (.cells #[.slice A F.op.length c, .slice B F.di.length d] 27) = wb at *
  have hkb : Kp wb wb := Kp.refl _
  have hkw := hk0
  have q_d0 := hkb.get d0
  have q_d1 := hkb.get d1
  go_wp2_with fail
  have CC := Lib.hid (l2Two_any _ F A3 S n3 c3 wb hFA h3 Hn3.out)
  with_reducible refine Calls.mono CC.out ?_
  rintro e w1 ⟨rfl, hk1⟩
  clear CC q_d0 q_d1
  replace hkb := hkb.trans hk1
  cases hg_ : openedB F S
  · have Hno : Hid (haulB F rooms needs S = false) := by show _ = _; rw [haulB, hg_]; rfl
    clear hg_
    have q_d0 := hkb.get d0
    have q_d1 := hkb.get d1
    go_wp2_with fail
    go_ret
    exact ⟨by rw [Hno.out]; rfl, hkw.trans hkb⟩
  have Hy : Hid (haulB F rooms needs S = needsB F rooms needs) := by show _ = _; rw [haulB, hg_]; rfl
  clear hg_
  have q_d0 := hkb.get d0
  have q_d1 := hkb.get d1
  go_wp2_with fail
  have CC := Lib.hid (l7Needs_any _ F A1 rooms n1 c1 A2 needs n2 c2 _ (hFA.kp hkb) (h1.kp hkb) Hn1.out (h2.kp hkb) Hn2.out)
  with_reducible refine Calls.mono CC.out ?_
  rintro e w2 ⟨rfl, hk2⟩
  clear CC q_d0 q_d1
  replace hkb := hkb.trans hk2
  have q_d0 := hkb.get d0
  have q_d1 := hkb.get d1
  go_wp2_with fail
  go_ret
  exact ⟨by rw [Hy.out]; rfl, hkw.trans hkb⟩
set_option maxRecDepth 100000 in
set_option maxHeartbeats 400000 in
theorem areNeeds_any (f : Value) (F : Fld) (A1 : Option Addr) (rooms : List Int) (n1 c1 : Nat) (A2 : Option Addr) (needs : List Int) (n2 c2 : Nat) (w : World) (hf : FldAt w f F) (h1 : IntsAt w A1 rooms) (hn1 : rooms.length = n1) (h2 : IntsAt w A2 needs) (hn2 : needs.length = n2) :
    Calls Tryz.prog 37 #[f, .slice A1 n1 c1, .slice A2 n2 c2] w fun e w' => e = .returned (.bool (needsB F rooms needs)) ∧ Kp w w' := by
  obtain ⟨A, c, B, d, rfl, hA, hB⟩ := hf
  have hk0 : Kp w (w.alloc (.cells #[.slice A F.op.length c, .slice B F.di.length d] 27)) := (Kp.refl w).alloc _
  obtain ⟨d0, d1⟩ := box2 w (.slice A F.op.length c) (.slice B F.di.length d) 27
  have hFA := FldAt.kp (show FldAt w (.agg #[.slice A F.op.length c, .slice B F.di.length d]) F from ⟨A, c, B, d, rfl, hA, hB⟩) hk0
  replace h1 := h1.kp hk0
  replace h2 := h2.kp hk0
  have Hn1 := Lib.hid hn1; have Hn2 := Lib.hid hn2
  clear hA hB hn1 hn2
  have HB : Hid (needsB F rooms needs = (decide (n1 = F.op.length) && allB rooms 0 20 && decide (n2 = F.di.length) && allB needs 0 5)) := by
    show _ = _
    unfold needsB numsB
    rw [Hn1.out, Hn2.out]
    change ((allB rooms 0 20 && decide (n1 = F.op.length)) && (allB needs 0 5 && decide (n2 = F.di.length))) = _
    cases decide (n1 = F.op.length) <;> cases decide (n2 = F.di.length) <;> cases allB rooms 0 20 <;> cases allB needs 0 5 <;> rfl
  go_enter Tryz.func37, Tryz.ntmps37
  by_cases e1 : n1 = F.op.length
  · subst e1
    have hd1 : (((F.op.length : Nat) : Int) == ((F.op.length : Nat) : Int)) = true := by simp
    go_wp2_with fail
    have hsz : Hid ((w.alloc (.cells #[.slice A F.op.length c, .slice B F.di.length d] 27)).heap.size = w.heap.size + 1) := by show _ = _; simp
    generalize w.alloc (.cells #[.slice A F.op.length c, .slice B F.di.length d] 27) = wb at *
    have hkb : Kp wb wb := Kp.refl _
    have hkw := hk0
    have CC := Lib.hid (areBetween_any A1 rooms F.op.length c1 0 20 wb h1 Hn1.out)
    with_reducible refine Calls.mono CC.out ?_
    rintro e w1 ⟨rfl, hk1⟩
    clear CC
    replace hkb := hkb.trans hk1
    cases hg_ : allB rooms 0 20
    · have Hno : Hid (needsB F rooms needs = false) := by show _ = _; rw [HB.out, hg_]; simp
      clear hg_
      have q_d0 := hkb.get d0
      have q_d1 := hkb.get d1
      go_wp2_with fail
      go_ret
      exact ⟨by rw [Hno.out]; rfl, hkw.trans hkb⟩
    have Hr := Lib.hid hg_; clear hg_
    by_cases e2 : n2 = F.di.length
    · subst e2
      have Hy : Hid (needsB F rooms needs = allB needs 0 5) := by show _ = _; rw [HB.out, Hr.out]; simp
      have q_d0 := hkb.get d0
      have q_d1 := hkb.get d1
      go_wp2_with fail
      have CC := Lib.hid (areBetween_any A2 needs F.di.length c2 0 5 _ (h2.kp hkb) Hn2.out)
      with_reducible refine Calls.mono CC.out ?_
      rintro e w2 ⟨rfl, hk2⟩
      clear CC q_d0 q_d1
      replace hkb := hkb.trans hk2
      have q_d0 := hkb.get d0
      have q_d1 := hkb.get d1
      go_wp2_with fail
      go_ret
      exact ⟨by rw [Hy.out]; rfl, hkw.trans hkb⟩
    · have Hno : Hid (needsB F rooms needs = false) := by show _ = _; rw [HB.out, decide_eq_false e2]; simp
      have hd2 : ((n2 : Int) == (F.di.length : Int)) = false := by simp; omega
      clear e2
      have q_d0 := hkb.get d0
      have q_d1 := hkb.get d1
      go_wp2_with fail
      go_ret
      exact ⟨by rw [Hno.out]; rfl, hkw.trans hkb⟩
  · have Hno : Hid (needsB F rooms needs = false) := by show _ = _; rw [HB.out, decide_eq_false e1]; rfl
    have hd1 : ((n1 : Int) == (F.op.length : Int)) = false := by simp; omega
    clear e1
    go_wp2_with fail
    have hsz : Hid ((w.alloc (.cells #[.slice A F.op.length c, .slice B F.di.length d] 27)).heap.size = w.heap.size + 1) := by show _ = _; simp
    generalize w.alloc (.cells #[.slice A F.op.length c, .slice B F.di.length d] 27) = wb at *
    have hkb : Kp wb wb := Kp.refl _
    have hkw := hk0
    have q_d0 := hkb.get d0
    have q_d1 := hkb.get d1
    go_wp2_with fail
    go_ret
    exact ⟨by rw [Hno.out]; rfl, hkw⟩
set_option maxRecDepth 100000 in
set_option maxHeartbeats 400000 in
theorem isHaul_any (f : Value) (F : Fld) (A1 : Option Addr) (rooms : List Int) (n1 c1 : Nat) (A2 : Option Addr) (needs : List Int) (n2 c2 : Nat) (A3 : Option Addr) (S : List Int) (n3 c3 : Nat) (w : World) (hf : FldAt w f F) (h1 : IntsAt w A1 rooms) (hn1 : rooms.length = n1) (h2 : IntsAt w A2 needs) (hn2 : needs.length = n2) (h3 : IntsAt w A3 S) (hn3 : S.length = n3) :
    Calls Tryz.prog 25 #[f, .slice A1 n1 c1, .slice A2 n2 c2, .slice A3 n3 c3] w fun e w' => e = .returned (.bool (haulB F rooms needs S)) ∧ Kp w w' := by
  obtain ⟨A, c, B, d, rfl, hA, hB⟩ := hf
  have hk0 : Kp w (w.alloc (.cells #[.slice A F.op.length c, .slice B F.di.length d] 27)) := (Kp.refl w).alloc _
  obtain ⟨d0, d1⟩ := box2 w (.slice A F.op.length c) (.slice B F.di.length d) 27
  have hFA := FldAt.kp (show FldAt w (.agg #[.slice A F.op.length c, .slice B F.di.length d]) F from ⟨A, c, B, d, rfl, hA, hB⟩) hk0
  replace h1 := h1.kp hk0
  replace h2 := h2.kp hk0
  replace h3 := h3.kp hk0
  have Hn1 := Lib.hid hn1; have Hn2 := Lib.hid hn2; have Hn3 := Lib.hid hn3
  clear hA hB hn1 hn2 hn3
  go_enter Tryz.func25, Tryz.ntmps25
  go_wp2_with fail
  have hsz : Hid ((w.alloc (.cells #[.slice A F.op.length c, .slice B F.di.length d] 27)).heap.size = w.heap.size + 1) := by show _ = _; simp
  generalize w.alloc (.cells #[.slice A F.op.length c, .slice B F.di.length d] 27) = wb at *
  have hkb : Kp wb wb := Kp.refl _
  have hkw := hk0
  have q_d0 := hkb.get d0
  have q_d1 := hkb.get d1
  go_wp2_with fail
  have CC := Lib.hid (isOpened_any _ F A3 S n3 c3 wb hFA h3 Hn3.out)
  with_reducible refine Calls.mono CC.out ?_
  rintro e w1 ⟨rfl, hk1⟩
  clear CC q_d0 q_d1
  replace hkb := hkb.trans hk1
  cases hg_ : openedB F S
  · have Hno : Hid (haulB F rooms needs S = false) := by show _ = _; rw [haulB, hg_]; rfl
    clear hg_
    have q_d0 := hkb.get d0
    have q_d1 := hkb.get d1
    go_wp2_with fail
    go_ret
    exact ⟨by rw [Hno.out]; rfl, hkw.trans hkb⟩
  have Hy : Hid (haulB F rooms needs S = needsB F rooms needs) := by show _ = _; rw [haulB, hg_]; rfl
  clear hg_
  have q_d0 := hkb.get d0
  have q_d1 := hkb.get d1
  go_wp2_with fail
  have CC := Lib.hid (areNeeds_any _ F A1 rooms n1 c1 A2 needs n2 c2 _ (hFA.kp hkb) (h1.kp hkb) Hn1.out (h2.kp hkb) Hn2.out)
  with_reducible refine Calls.mono CC.out ?_
  rintro e w2 ⟨rfl, hk2⟩
  clear CC q_d0 q_d1
  replace hkb := hkb.trans hk2
  have q_d0 := hkb.get d0
  have q_d1 := hkb.get d1
  go_wp2_with fail
  go_ret
  exact ⟨by rw [Hy.out]; rfl, hkw.trans hkb⟩
end Go.Proofs.YtpiijhfjliolfaaGreat

namespace Go.Proofs.YtpiijhfjliolfaaGreat
def lget (xs : List Int) (k : Nat) : Int := xs.getD k 0
theorem lget_at {xs : List Int} {k : Nat} (h : k < xs.length) : lget xs k = xs[k] := by simp [lget, List.getD, h]
end Go.Proofs.YtpiijhfjliolfaaGreat

namespace Go.Proofs.YtpiijhfjliolfaaGreat
open Go.RowKit Go.Sort

end Go.Proofs.YtpiijhfjliolfaaGreat

namespace Go.Proofs.YtpiijhfjliolfaaGreat
open Go.RowKit Go.Sort

/-- The service of a set. -/
def serveF (F : Fld) (T : List Int) : Int := sumTo (fun i => nearF F i T) F.di.length
theorem serveF_bd {F : Fld} (h : goodF F = true) (T : List Int) : 0 ≤ serveF F T ∧ serveF F T ≤ 693 := by
  have h1 := sumTo_bd (g := fun i => nearF F i T) (b := 99) (fun i => nearF_bd h T i) F.di.length
  have h7 := (goodF_iff.1 h).2.2.1
  unfold serveF; omega
theorem mapTo_take (g : Nat → Int) (n k : Nat) (h : k ≤ n) : (mapTo g n).take k = mapTo g k := by
  induction n with
  | zero => obtain rfl : k = 0 := by omega
            rfl
  | succ n ih =>
    by_cases e : k = n + 1
    · subst e; rw [List.take_of_length_le (by rw [mapTo_len]; omega)]
    · rw [mapTo_succ, List.take_append_of_le_length (by rw [mapTo_len]; omega)]
      exact ih (by omega)
theorem mem_mapTo {g : Nat → Int} {x : Int} : ∀ {n : Nat}, x ∈ mapTo g n → ∃ i, i < n ∧ x = g i
  | 0, h => by cases h
  | n + 1, h => by
    rw [mapTo_succ, List.mem_append] at h
    rcases h with h | h
    · obtain ⟨i, hi, e⟩ := mem_mapTo h
      exact ⟨i, by omega, e⟩
    · exact ⟨n, by omega, by simpa using h⟩
end Go.Proofs.YtpiijhfjliolfaaGreat

namespace Go.Proofs.YtpiijhfjliolfaaGreat
open Go.RowKit Go.Sort

def numAt (xs : List Int) (a : Int) : Int := xs.getD a.toNat 0
def roomTo (xs C : List Int) (k : Nat) : Int := ((C.take k).map (numAt xs)).sum
def roomS (xs C : List Int) : Int := (C.map (numAt xs)).sum
theorem roomTo_succ {xs C : List Int} {k : Nat} (hk : k < C.length) : roomTo xs C (k + 1) = roomTo xs C k + numAt xs C[k] := by
  unfold roomTo
  rw [List.take_succ_eq_append_getElem hk, List.map_append, List.sum_append]; simp
theorem roomTo_all {xs C : List Int} {k : Nat} (hk : C.length ≤ k) : roomTo xs C k = roomS xs C := by
  unfold roomTo roomS
  rw [List.take_of_length_le hk]
theorem numAt_bd {xs : List Int} {M : Int} (hM : 0 ≤ M) (h : ∀ x ∈ xs, -M ≤ x ∧ x ≤ M) (a : Int) : -M ≤ numAt xs a ∧ numAt xs a ≤ M := by
  unfold numAt
  by_cases hk : a.toNat < xs.length
  · have e : xs.getD a.toNat 0 = xs[a.toNat] := by simp [List.getD, hk]
    rw [e]; exact h _ (List.getElem_mem hk)
  · rw [List.getD_eq_getElem?_getD, List.getElem?_eq_none (by omega)]; simp; omega
theorem roomTo_bd {xs C : List Int} {M : Int} (hM : 0 ≤ M) (hM9 : M ≤ 100000) (h : ∀ x ∈ xs, -M ≤ x ∧ x ≤ M) : ∀ k, k ≤ C.length → -(k * 100000) ≤ roomTo xs C k ∧ roomTo xs C k ≤ k * 100000
  | 0, _ => by simp [roomTo]
  | k + 1, hk => by
    have h1 := roomTo_bd (C := C) hM hM9 h k (by omega)
    have h2 := numAt_bd hM h (C[k]'(by omega))
    rw [roomTo_succ (show k < C.length by omega)]; omega
theorem roomS_bd {xs C : List Int} {M : Int} (hM : 0 ≤ M) (hM9 : M ≤ 100000) (h : ∀ x ∈ xs, -M ≤ x ∧ x ≤ M) (hl : C.length ≤ 7) : -700000 ≤ roomS xs C ∧ roomS xs C ≤ 700000 := by
  have := roomTo_bd (C := C) hM hM9 h C.length (Nat.le_refl _)
  rw [roomTo_all (Nat.le_refl _)] at this
  omega
theorem numCell {w : World} {ad : Addr} {xs : List Int} {a : Int} (h : IntsAt w (some ad) xs) (h0 : 0 ≤ a) (h1 : a < xs.length) : w.cell? (ad.add a.toNat) = some (.int .i64 (numAt xs a)) := by
  have hk : a.toNat < xs.length := by omega
  rw [h.some_ hk]
  simp [numAt, List.getD, hk]
theorem l7Room_any (A1 : Option Addr) (xs : List Int) (n1 c1 : Nat) (A2 : Option Addr) (C : List Int) (n c0 : Nat) (M : Int) (w : World) (h1 : IntsAt w A1 xs) (hn1 : xs.length = n1) (h2 : IntsAt w A2 C) (hn : C.length = n) (hc : ∀ x ∈ C, 0 ≤ x ∧ x < n1) (hl : n ≤ 7) (hM : 0 ≤ M) (hM9 : M ≤ 100000) (hb : ∀ x ∈ xs, -M ≤ x ∧ x ≤ M) :
    Calls Tryz.prog 33 #[.slice A1 n1 c1, .slice A2 n c0] w fun e w' => e = .returned (.int .i64 (roomS xs C)) ∧ w = w' := by
  have hm1 : n1 ≤ 9223372036854775807 := hn1 ▸ h1.1
  have Hn1 := Lib.hid hn1; have Hn := Lib.hid hn
  have HC := Lib.hid hc
  have HB := Lib.hid (fun k (hk : k ≤ C.length) => roomTo_bd (C := C) hM hM9 hb k hk)
  have HN := Lib.hid (fun a => numAt_bd hM hb a)
  clear hn1 hn hc hb
  go_enter Tryz.func33, Tryz.ntmps33
  go_wp2_with fail
  go_loop [5, 6] (fun sv iv => ∃ k : Nat, k ≤ n ∧ iv = .int .i64 k ∧ sv = .int .i64 (roomTo xs C k)) (fun _ iv => n - (intOf iv).toNat)
  case atStart => exact ⟨0, by omega, rfl, rfl⟩
  case round =>
    obtain ⟨k, hk, rfl, rfl⟩ := hrel
    by_cases hlt : k < n
    · have lx : k < C.length := by rw [Hn.out]; exact hlt
      obtain ⟨sd, rfl, hck⟩ := h2.at_ lx
      obtain ⟨ha0, ha1⟩ := HC.out _ (List.getElem_mem lx)
      obtain ⟨rd, rfl, _⟩ := h1.at_ (k := 0) (by rw [Hn1.out]; omega)
      have hnc := numCell h1 ha0 (by rw [Hn1.out]; exact ha1)
      have hsu := Lib.hid (roomTo_succ (xs := xs) lx)
      obtain ⟨b1, b2⟩ := HB.out k (Nat.le_of_lt lx)
      obtain ⟨b3, b4⟩ := HN.out C[k]
      generalize numAt xs C[k] = q at *
      generalize roomTo xs C k = p at *
      go_wp2_with fail
      go_round
      case rel => exact ⟨k + 1, by omega, by go_num, by rw [hsu.out] <;> go_num⟩
      case measure => simp [intOf]; omega
    · go_wp2_with fail
      go_ret
      exact ⟨ret_int (by rw [roomTo_all (by rw [Hn.out]; omega)]), rfl⟩
end Go.Proofs.YtpiijhfjliolfaaGreat

namespace Go.Proofs.YtpiijhfjliolfaaGreat
open Go.RowKit Go.Sort

theorem put_has {S : List Int} {a : Int} {k : Nat} (hk : k < S.length) (h : S[k] = a) : putL S a = S := if_pos (h ▸ List.getElem_mem hk)
theorem put_at {S : List Int} {a : Int} {k : Nat} (hs : S.Pairwise (· < ·)) (h1 : ∀ x ∈ S.take k, x < a) (h2 : ∀ h : k < S.length, a < S[k]) : putL S a = S.take k ++ a :: S.drop k := by
  have hd : ∀ x ∈ S.drop k, a < x := by
    intro x hx
    obtain ⟨i, hi, rfl⟩ := List.getElem_of_mem hx
    have hi' : k + i < S.length := by simp at hi; omega
    have hk : k < S.length := by omega
    rw [List.getElem_drop]
    rcases Nat.eq_zero_or_pos i with rfl | hp
    · exact h2 hk
    · exact Int.lt_trans (h2 hk) (List.pairwise_iff_getElem.1 hs k (k + i) hk hi' (by omega))
  have hn : a ∉ S := by
    intro h
    rw [← List.take_append_drop k S, List.mem_append] at h
    rcases h with h | h
    · exact absurd (h1 a h) (by omega)
    · exact absurd (hd a h) (by omega)
  unfold putL
  rw [if_neg hn]
  have hw : S.takeWhile (· < a) = S.take k ∧ S.dropWhile (· < a) = S.drop k := by
    have e : S = S.take k ++ S.drop k := (List.take_append_drop k S).symm
    constructor
    · conv => lhs; rw [e]
      rw [List.takeWhile_append_of_pos (by intro x hx; simpa using h1 x hx)]
      cases hc : S.drop k with
      | nil => simp
      | cons y t => have := hd y (by rw [hc]; simp); rw [List.takeWhile_cons, if_neg (by simp; omega), List.append_nil]
    · conv => lhs; rw [e]
      rw [List.dropWhile_append_of_pos (by intro x hx; simpa using h1 x hx)]
      cases hc : S.drop k with
      | nil => simp
      | cons y t => have := hd y (by rw [hc]; simp); rw [List.dropWhile_cons, if_neg (by simp; omega)]
  rw [hw.1, hw.2]
end Go.Proofs.YtpiijhfjliolfaaGreat

namespace Go.Proofs.YtpiijhfjliolfaaGreat
open Go.RowKit Go.Sort

theorem mem_putL {S : List Int} {a x : Int} : x ∈ putL S a ↔ x ∈ S ∨ x = a := by
  unfold putL
  by_cases h : a ∈ S
  · rw [if_pos h]
    constructor
    · exact .inl
    · rintro (h' | rfl)
      · exact h'
      · exact h
  · rw [if_neg h]
    have e : x ∈ S ↔ x ∈ S.takeWhile (· < a) ∨ x ∈ S.dropWhile (· < a) := by
      conv => lhs; rw [← List.takeWhile_append_dropWhile (p := fun y => decide (y < a)) (l := S)]
      rw [List.mem_append]
    rw [List.mem_append, List.mem_cons, e]
    constructor
    · rintro (h | h | h)
      · exact .inl (.inl h)
      · exact .inr h
      · exact .inl (.inr h)
    · rintro ((h | h) | h)
      · exact .inl h
      · exact .inr (.inr h)
      · exact .inr (.inl h)
theorem drop_gt : ∀ {S : List Int} {a : Int}, S.Pairwise (· < ·) → a ∉ S → ∀ x ∈ S.dropWhile (· < a), a < x
  | [], _, _, _, x, hx => by simp at hx
  | y :: t, a, hs, hn, x, hx => by
    rw [List.pairwise_cons] at hs
    simp only [List.mem_cons, not_or] at hn
    rw [List.dropWhile_cons] at hx
    by_cases h : y < a
    · rw [if_pos (by simpa using h)] at hx
      exact drop_gt hs.2 hn.2 x hx
    · rw [if_neg (by simpa using h)] at hx
      rcases List.mem_cons.1 hx with rfl | hx
      · omega
      · have := hs.1 x hx; omega
theorem take_lt {S : List Int} {a : Int} : ∀ x ∈ S.takeWhile (· < a), x < a := by
  induction S with
  | nil => intro x hx; simp at hx
  | cons y t ih =>
    intro x hx
    rw [List.takeWhile_cons] at hx
    by_cases h : y < a
    · rw [if_pos (by simpa using h)] at hx
      rcases List.mem_cons.1 hx with rfl | hx
      · exact h
      · exact ih x hx
    · rw [if_neg (by simpa using h)] at hx
      simp at hx
theorem putL_sorted {S : List Int} (hs : S.Pairwise (· < ·)) (a : Int) : (putL S a).Pairwise (· < ·) := by
  unfold putL
  by_cases h : a ∈ S
  · rw [if_pos h]; exact hs
  · rw [if_neg h, List.pairwise_append, List.pairwise_cons]
    have hd := drop_gt hs h
    refine ⟨hs.sublist (List.takeWhile_sublist _), ⟨hd, hs.sublist (List.dropWhile_sublist _)⟩, fun x hx y hy => ?_⟩
    have h1 := take_lt x hx
    rcases List.mem_cons.1 hy with rfl | hy
    · exact h1
    · have := hd y hy; omega
theorem putL_len (S : List Int) (a : Int) : (putL S a).length ≤ S.length + 1 := by
  unfold putL
  by_cases h : a ∈ S
  · rw [if_pos h]; omega
  · rw [if_neg h, List.length_append, List.length_cons]
    have : S.length = (S.takeWhile (· < a)).length + (S.dropWhile (· < a)).length := by
      conv => lhs; rw [← List.takeWhile_append_dropWhile (p := fun y => decide (y < a)) (l := S), List.length_append]
    omega
theorem putL_new {S : List Int} {a : Int} (h : a ∉ S) : (putL S a).length = S.length + 1 := by
  unfold putL
  rw [if_neg h, List.length_append, List.length_cons]
  have : S.length = (S.takeWhile (· < a)).length + (S.dropWhile (· < a)).length := by
    conv => lhs; rw [← List.takeWhile_append_dropWhile (p := fun y => decide (y < a)) (l := S), List.length_append]
  omega
theorem setB_nil (F : Fld) : setB F [] = true := rfl
theorem setB_put {F : Fld} {S : List Int} {a : Int} (h : setB F S = true) (h0 : 0 ≤ a) (h1 : a < F.op.length) : setB F (putL S a) = true := by
  have hr := ris_iff.1 h
  refine ris_iff.2 ⟨putL_sorted hr.1 a, fun x hx => ?_⟩
  rcases mem_putL.1 hx with hx | rfl
  · exact hr.2 x hx
  · omega
theorem setB_len {F : Fld} {S : List Int} (h : setB F S = true) : S.length ≤ F.op.length := by
  rw [← set_bits h]; exact bitsL_len _ _
theorem bits_any {n b a : Nat} (ha : a < n) : (bitsL n b).any (fun x => x == (a : Int)) = b.testBit a := by
  rw [Bool.eq_iff_iff, List.any_eq_true]
  constructor
  · rintro ⟨x, hx, e⟩
    obtain ⟨h0, h1, h2⟩ := mem_bitsL.1 hx
    have e' : x = a := by simpa using e
    subst e'
    simpa using h2
  · intro h
    exact ⟨a, mem_bitsL.2 ⟨by omega, by omega, by simpa using h⟩, by simp⟩
theorem bits_put {n b a : Nat} (ha : a < n) : bitsL n (b ||| 2 ^ a) = putL (bitsL n b) a := by
  refine rising_ext (bitsL_sorted _ _) (putL_sorted (bitsL_sorted _ _) _) (fun x => ?_)
  rw [mem_putL, mem_bitsL, mem_bitsL, Nat.testBit_or, Nat.testBit_two_pow, Bool.or_eq_true, decide_eq_true_eq]
  constructor
  · rintro ⟨h0, h1, h2 | h2⟩
    · exact .inl ⟨h0, h1, h2⟩
    · exact .inr (by omega)
  · rintro (⟨h0, h1, h2⟩ | rfl)
    · exact ⟨h0, h1, .inl h2⟩
    · exact ⟨by omega, by omega, .inr (by omega)⟩
theorem bits_zero (n : Nat) : bitsL n 0 = [] := by
  have : ∀ x, x ∉ bitsL n 0 := fun x hx => by have := (mem_bitsL.1 hx).2.2; simp at this
  exact List.eq_nil_iff_forall_not_mem.2 this

/-- What a site adds to the gain of a set. -/
def moreF (F : Fld) (worth : Int) (S : List Int) (a : Int) : Int := gainF F worth (putL S a) - gainF F worth S
theorem gainF_bd {F : Fld} (hg : goodF F = true) {worth : Int} (h0 : 0 ≤ worth) (h1 : worth ≤ 999) (S : List Int) : 0 ≤ gainF F worth S ∧ gainF F worth S ≤ 6993 := by
  by_cases h : S = []
  · subst h; rw [gainF_nil]; omega
  · rw [gainF_cons h]
    have := sumTo_bd (gainAt_bd (F := F) (S := S) h0 h1 (fun i => (nearF_bd hg S i).1)) F.di.length
    have h7 := (goodF_iff.1 hg).2.2.1
    omega
theorem moreF_bd {F : Fld} (hg : goodF F = true) {worth : Int} (h0 : 0 ≤ worth) (h1 : worth ≤ 999) (S : List Int) (a : Int) : -6993 ≤ moreF F worth S a ∧ moreF F worth S a ≤ 6993 := by
  have := gainF_bd hg h0 h1 S
  have := gainF_bd hg h0 h1 (putL S a)
  unfold moreF; omega

/-- The first one of the numbers below k that may be taken with the greatest value of more than 0, and this value. -/
def pickTo (ok : Nat → Bool) (val : Nat → Int) : Nat → Int × Int
  | 0 => (-1, 0)
  | k + 1 => if ok k && decide ((pickTo ok val k).2 < val k) then ((k : Int), val k) else pickTo ok val k
theorem pick_yes {ok : Nat → Bool} {val : Nat → Int} {k : Nat} (h1 : ok k = true) (h2 : (pickTo ok val k).2 < val k) : pickTo ok val (k + 1) = ((k : Int), val k) := by
  show (if _ then _ else _) = _
  rw [if_pos (by simp [h1, h2])]
theorem pick_no {ok : Nat → Bool} {val : Nat → Int} {k : Nat} (h : ok k = false) : pickTo ok val (k + 1) = pickTo ok val k := by
  show (if _ then _ else _) = _
  rw [if_neg (by simp [h])]
theorem pick_less {ok : Nat → Bool} {val : Nat → Int} {k : Nat} (h2 : ¬ (pickTo ok val k).2 < val k) : pickTo ok val (k + 1) = pickTo ok val k := by
  show (if _ then _ else _) = _
  rw [if_neg (by simp [h2])]
theorem pick_inv (ok : Nat → Bool) (val : Nat → Int) : ∀ k, pickTo ok val k = (-1, 0) ∨ ∃ a, a < k ∧ ok a = true ∧ 0 < val a ∧ pickTo ok val k = ((a : Int), val a)
  | 0 => .inl rfl
  | k + 1 => by
    have ih := pick_inv ok val k
    by_cases h : ok k = true
    · by_cases h2 : (pickTo ok val k).2 < val k
      · refine .inr ⟨k, by omega, h, ?_, pick_yes h h2⟩
        rcases ih with e | ⟨a, _, _, h3, e⟩ <;> rw [e] at h2 <;> simp at h2 <;> omega
      · rw [pick_less h2]
        rcases ih with e | ⟨a, h1, h3⟩
        · exact .inl e
        · exact .inr ⟨a, by omega, h3⟩
    · rw [pick_no (by simpa using h)]
      rcases ih with e | ⟨a, h1, h3⟩
      · exact .inl e
      · exact .inr ⟨a, by omega, h3⟩
theorem pick_bd (ok : Nat → Bool) (val : Nat → Int) (k : Nat) : -1 ≤ (pickTo ok val k).1 ∧ (pickTo ok val k).1 < k ∧ 0 ≤ (pickTo ok val k).2 := by
  rcases pick_inv ok val k with e | ⟨a, h1, _, h3, e⟩ <;> rw [e] <;> simp <;> omega
theorem pick_neg (ok : Nat → Bool) (val : Nat → Int) (k : Nat) : (pickTo ok val k).1 < 0 ↔ (pickTo ok val k).2 = 0 := by
  rcases pick_inv ok val k with e | ⟨a, h1, _, h3, e⟩ <;> rw [e] <;> simp <;> omega
theorem pick_congr {ok ok' : Nat → Bool} {val val' : Nat → Int} : ∀ k, (∀ a, a < k → ok a = ok' a) → (∀ a, a < k → ok a = true → val a = val' a) → pickTo ok val k = pickTo ok' val' k
  | 0, _, _ => rfl
  | k + 1, h1, h2 => by
    have ih := pick_congr k (fun a ha => h1 a (by omega)) (fun a ha => h2 a (by omega))
    show (if _ then _ else _) = (if _ then _ else _)
    rw [ih, ← h1 k (by omega)]
    by_cases h : ok k = true
    · rw [h2 k (by omega) h]
    · have : ok k = false := by simpa using h
      simp [this]

/-- Which sites may be put into a set. -/
def okF (may : List Int → Bool) (S : List Int) (a : Nat) : Bool := !(S.any fun x => x == (a : Int)) && may (putL S a)
/-- The site that is taken next, and what it adds. -/
def nextTo (F : Fld) (worth : Int) (may : List Int → Bool) (S : List Int) (k : Nat) : Int × Int := pickTo (okF may S) (fun a => moreF F worth S a) k
def nextF (F : Fld) (worth : Int) (may : List Int → Bool) (S : List Int) : Int × Int := nextTo F worth may S F.op.length
/-- At most j more sites, each one with the greatest marginal gain. -/
def grd (F : Fld) (worth : Int) (may : List Int → Bool) : Nat → List Int → List Int → List Int
  | 0, out, _ => out
  | j + 1, out, S => if (nextF F worth may S).1 < 0 then out else grd F worth may j (out ++ [(nextF F worth may S).1]) (putL S (nextF F worth may S).1)
theorem grd_zero {F : Fld} {worth : Int} {may : List Int → Bool} {out S : List Int} : grd F worth may 0 out S = out := rfl
theorem grd_stop {F : Fld} {worth : Int} {may : List Int → Bool} {j : Nat} {out S : List Int} (h : (nextF F worth may S).1 < 0) : grd F worth may j out S = out := by
  cases j with
  | zero => rfl
  | succ j => exact if_pos h
theorem grd_go {F : Fld} {worth : Int} {may : List Int → Bool} {j : Nat} {out S : List Int} (h : ¬ (nextF F worth may S).1 < 0) : grd F worth may (j + 1) out S = grd F worth may j (out ++ [(nextF F worth may S).1]) (putL S (nextF F worth may S).1) := if_neg h
theorem okF_out {may : List Int → Bool} {S : List Int} {a : Nat} (h : okF may S a = true) : (a : Int) ∉ S := by
  simp only [okF, Bool.and_eq_true] at h
  intro hm
  have h1 := h.1
  rw [List.any_eq_true.2 ⟨_, hm, by simp⟩] at h1
  simp at h1
theorem next_new {F : Fld} {worth : Int} {may : List Int → Bool} {S : List Int} (h : ¬ (nextF F worth may S).1 < 0) : (nextF F worth may S).1 ∉ S ∧ (nextF F worth may S).1 < F.op.length := by
  rcases pick_inv (okF may S) (fun a => moreF F worth S a) F.op.length with e | ⟨a, h1, h2, _, e⟩
  · refine absurd ?_ h
    show (pickTo _ _ _).1 < 0
    rw [e]; simp
  · show (pickTo _ _ _).1 ∉ S ∧ (pickTo _ _ _).1 < _
    rw [e]
    exact ⟨okF_out h2, by simpa using h1⟩
theorem grd_len {F : Fld} {worth : Int} {may : List Int → Bool} : ∀ (j : Nat) (out S : List Int), (grd F worth may j out S).length ≤ out.length + j
  | 0, out, S => Nat.le_refl _
  | j + 1, out, S => by
    by_cases h : (nextF F worth may S).1 < 0
    · rw [grd_stop h]; omega
    · rw [grd_go h]
      have := grd_len (F := F) (worth := worth) (may := may) j (out ++ [(nextF F worth may S).1]) (putL S (nextF F worth may S).1)
      simp at this; omega
/-- A set of all sites has no next one. -/
theorem next_full {F : Fld} {worth : Int} {may : List Int → Bool} {S : List Int} (hs : setB F S = true) (hl : S.length = F.op.length) : (nextF F worth may S).1 < 0 := by
  by_cases h : (nextF F worth may S).1 < 0
  · exact h
  · obtain ⟨h1, h2⟩ := next_new h
    have h3 := setB_len (setB_put hs (by omega) h2)
    rw [putL_new h1] at h3
    omega
end Go.Proofs.YtpiijhfjliolfaaGreat

namespace Go.Proofs.YtpiijhfjliolfaaGreat
open Go.RowKit Go.Sort

theorem fold_min {F : Fld} {i : Nat} : ∀ (L : List Int) (b : Int), dAt F i (L.foldl (stepS F i) b) ≤ dAt F i b ∧ ∀ a ∈ L, dAt F i (L.foldl (stepS F i) b) ≤ dAt F i a
  | [], b => ⟨Int.le_refl _, by simp⟩
  | x :: L, b => by
    have h := fold_min (F := F) (i := i) L (stepS F i b x)
    have hb : dAt F i (stepS F i b x) ≤ dAt F i b ∧ dAt F i (stepS F i b x) ≤ dAt F i x := by
      unfold stepS; split <;> constructor <;> omega
    refine ⟨Int.le_trans h.1 hb.1, fun a ha => ?_⟩
    rcases List.mem_cons.1 ha with rfl | ha
    · exact Int.le_trans h.1 hb.2
    · exact h.2 a ha
theorem near_le {F : Fld} {i : Nat} {S : List Int} {x : Int} (hx : x ∈ S) : nearF F i S ≤ dAt F i x := by
  cases S with
  | nil => cases hx
  | cons y t =>
    have h := fold_min (F := F) (i := i) (y :: t) y
    exact h.2 x hx
theorem near_is {F : Fld} {i : Nat} {S : List Int} (hne : S ≠ []) : ∃ x ∈ S, nearF F i S = dAt F i x := ⟨siteF F i S, siteF_mem hne, rfl⟩
end Go.Proofs.YtpiijhfjliolfaaGreat

namespace Go.Proofs.YtpiijhfjliolfaaGreat
open Go.RowKit Go.Sort

/-- What a client is worth for a set, 0 for the set without sites. -/
def topF (F : Fld) (worth : Int) (S : List Int) (i : Nat) : Int := if S = [] then 0 else gainAt F worth S i
theorem gainF_top (F : Fld) (worth : Int) (S : List Int) : gainF F worth S = sumTo (topF F worth S) F.di.length := by
  by_cases h : S = []
  · subst h
    rw [gainF_nil]
    have : ∀ k, sumTo (topF F worth []) k = 0 := fun k => by
      induction k with
      | zero => rfl
      | succ k ih => rw [sumTo_succ, ih]; simp [topF]
    exact (this _).symm
  · rw [gainF_cons h]
    have : topF F worth S = gainAt F worth S := by funext i; simp [topF, h]
    rw [this]
theorem top_le {F : Fld} {worth c : Int} {S : List Int} {i : Nat} : topF F worth S i ≤ c ↔ (S = [] → 0 ≤ c) ∧ (S ≠ [] → 0 ≤ c) ∧ ∀ x ∈ S, worth - dAt F i x ≤ c := by
  by_cases h : S = []
  · subst h
    simp [topF]
  · have e : topF F worth S i = max 0 (worth - nearF F i S) := by simp [topF, h, gainAt]
    rw [e]
    constructor
    · intro h1
      refine ⟨fun h2 => absurd h2 h, fun _ => by omega, fun x hx => ?_⟩
      have := near_le (F := F) (i := i) hx
      omega
    · rintro ⟨_, h2, h3⟩
      obtain ⟨x, hx, e2⟩ := near_is (F := F) (i := i) h
      have := h3 x hx
      have := h2 h
      omega
theorem top_le' {F : Fld} {worth c : Int} {S : List Int} {i : Nat} (h0 : 0 ≤ c) (h : ∀ x ∈ S, worth - dAt F i x ≤ c) : topF F worth S i ≤ c := top_le.2 ⟨fun _ => h0, fun _ => h0, h⟩
theorem top_nn (F : Fld) (worth : Int) (S : List Int) (i : Nat) : 0 ≤ topF F worth S i := by
  by_cases h : S = []
  · simp [topF, h]
  · simp [topF, h, gainAt]; omega
theorem le_top {F : Fld} {worth : Int} {S : List Int} {i : Nat} {x : Int} (hx : x ∈ S) : worth - dAt F i x ≤ topF F worth S i := (top_le.1 (Int.le_refl _)).2.2 x hx
theorem top_mono {F : Fld} {worth : Int} {S T : List Int} (h : ∀ x ∈ S, x ∈ T) (i : Nat) : topF F worth S i ≤ topF F worth T i :=
  top_le' (top_nn _ _ _ _) (fun x hx => le_top (h x hx))
theorem sumTo_mono {g h : Nat → Int} (e : ∀ i, g i ≤ h i) : ∀ k, sumTo g k ≤ sumTo h k
  | 0 => by simp [sumTo_zero]
  | k + 1 => by rw [sumTo_succ, sumTo_succ]; have := sumTo_mono e k; have := e k; omega
theorem sumTo_add (g h : Nat → Int) : ∀ k, sumTo (fun i => g i + h i) k = sumTo g k + sumTo h k
  | 0 => by simp [sumTo_zero]
  | k + 1 => by rw [sumTo_succ, sumTo_succ, sumTo_succ, sumTo_add g h k]; omega
/-- More sites do not make the gain less. -/
theorem gain_mono {F : Fld} {worth : Int} {S T : List Int} (h : ∀ x ∈ S, x ∈ T) : gainF F worth S ≤ gainF F worth T := by
  rw [gainF_top, gainF_top]
  exact sumTo_mono (top_mono h) _
/-- Two sets have at least the gain of what is in both and of what is in one of them. -/
theorem gain_submod {F : Fld} {worth : Int} {S T U V : List Int} (hU : ∀ x ∈ U, x ∈ S ∧ x ∈ T) (hV : ∀ x ∈ V, x ∈ S ∨ x ∈ T) : gainF F worth U + gainF F worth V ≤ gainF F worth S + gainF F worth T := by
  rw [gainF_top, gainF_top, gainF_top, gainF_top, ← sumTo_add, ← sumTo_add]
  refine sumTo_mono (fun i => ?_) _
  have h1 := top_mono (F := F) (worth := worth) (fun x hx => (hU x hx).1) i
  have h2 := top_mono (F := F) (worth := worth) (fun x hx => (hU x hx).2) i
  have n1 := top_nn F worth S i
  have n2 := top_nn F worth T i
  have h3 : topF F worth V i ≤ max (topF F worth S i) (topF F worth T i) := top_le' (by omega) (fun x hx => by
    rcases hV x hx with h | h
    · have := le_top (F := F) (worth := worth) (i := i) h; omega
    · have := le_top (F := F) (worth := worth) (i := i) h; omega)
  omega
end Go.Proofs.YtpiijhfjliolfaaGreat

namespace Go.Proofs.YtpiijhfjliolfaaGreat
open Go.RowKit Go.Sort

/-- Client j is nearer to S than to L. -/
def takenB (F : Fld) (L S : List Int) (j : Nat) : Bool := !S.isEmpty && decide (nearF F j S < nearF F j L)
def takenTo (F : Fld) (L S : List Int) (k : Nat) : List Int := ((List.range k).filter (takenB F L S)).map fun (x : Nat) => (x : Int)
theorem takenTo_zero (F : Fld) (L S : List Int) : takenTo F L S 0 = [] := rfl
theorem takenTo_yes {F : Fld} {L S : List Int} {k : Nat} (h : takenB F L S k = true) : takenTo F L S (k + 1) = takenTo F L S k ++ [(k : Int)] := by simp [takenTo, List.range_succ, List.filter_append, h]
theorem takenTo_no {F : Fld} {L S : List Int} {k : Nat} (h : takenB F L S k = false) : takenTo F L S (k + 1) = takenTo F L S k := by simp [takenTo, List.range_succ, List.filter_append, h]
theorem takenTo_len (F : Fld) (L S : List Int) (k : Nat) : (takenTo F L S k).length ≤ k := by
  unfold takenTo
  rw [List.length_map]
  exact Nat.le_trans (List.length_filter_le _ _) (by simp)
theorem takenTo_nil (F : Fld) (L : List Int) (k : Nat) : takenTo F L [] k = [] := by
  have : (takenB F L []) = fun _ => false := by funext j; rfl
  simp [takenTo, this]
/-- Somebody of S is nearer than d exactly if the nearest is. -/
theorem near_any {F : Fld} {i : Nat} {S : List Int} {d : Int} : (S.any fun a => decide (dAt F i a < d)) = (!S.isEmpty && decide (nearF F i S < d)) := by
  cases S with
  | nil => rfl
  | cons x S =>
    have hne : x :: S ≠ [] := by simp
    rw [Bool.eq_iff_iff]
    simp only [List.any_eq_true, decide_eq_true_eq, List.isEmpty_cons, Bool.not_false, Bool.true_and]
    constructor
    · rintro ⟨a, ha, hl⟩
      exact Int.lt_of_le_of_lt ((fold_min _ _).2 a ha) hl
    · intro h
      exact ⟨_, siteF_mem hne, h⟩
def takenOk (F : Fld) (L S : List Int) : Bool := openedB F L && setB F S && !(S.any fun x => L.any fun y => y == x)
def takenL (F : Fld) (L S : List Int) : List Int := if takenOk F L S = true then takenTo F L S F.di.length else []
theorem takenL_yes {F : Fld} {L S : List Int} (h : takenOk F L S = true) : takenL F L S = takenTo F L S F.di.length := if_pos h
theorem takenL_no {F : Fld} {L S : List Int} (h : takenOk F L S = false) : takenL F L S = [] := if_neg (by simp [h])
theorem takenL_len (F : Fld) (L S : List Int) : (takenL F L S).length ≤ 1048576 := by
  by_cases h : takenOk F L S = true
  · rw [takenL_yes h]
    refine Nat.le_trans (takenTo_len F L S _) ?_
    have h1 : openedB F L = true := by simp only [takenOk, Bool.and_eq_true] at h; exact h.1.1
    have := (goodF_iff.1 (openedB_parts h1).1).2.2.1
    omega
  · rw [takenL_no (by simpa using h)]; simp
/-- The two sets share nothing exactly if their numbers share no bit. -/
theorem bag_apart {L S : List Int} (hL : ∀ y ∈ L, 0 ≤ y) (hS : ∀ y ∈ S, 0 ≤ y) : decide (bagN L &&& bagN S = 0) = !(S.any fun x => L.any fun y => y == x) := by
  rw [Bool.eq_iff_iff]
  simp only [decide_eq_true_eq, Bool.not_eq_true', List.any_eq_false, List.any_eq_true, beq_iff_eq, not_exists, not_and]
  constructor
  · intro h x hx y hy e
    have hb : (bagN L &&& bagN S).testBit x.toNat = true := by
      have hx0 := hS x hx
      have hxe : ((x.toNat : Nat) : Int) = x := by omega
      rw [Nat.testBit_and, bagN_bit hL, bagN_bit hS, hxe]
      simp [hx, e ▸ hy]
    rw [h] at hb
    simp at hb
  · intro h
    apply Nat.eq_of_testBit_eq
    intro i
    rw [Nat.testBit_and, bagN_bit hL, bagN_bit hS, Nat.zero_testBit]
    by_cases h1 : (i : Int) ∈ L <;> by_cases h2 : (i : Int) ∈ S <;> simp [h1, h2]
    exact h _ h2 _ h1 rfl
end Go.Proofs.YtpiijhfjliolfaaGreat

namespace Go.Proofs.YtpiijhfjliolfaaGreat
open Go.RowKit Go.Sort

theorem takenOk_no1 {F : Fld} {L S : List Int} (h : openedB F L = false) : takenOk F L S = false := by simp [takenOk, h]
theorem takenOk_no2 {F : Fld} {L S : List Int} (h : setB F S = false) : takenOk F L S = false := by simp [takenOk, h]
theorem takenOk_no3 {F : Fld} {L S : List Int} (h : (S.any fun x => L.any fun y => y == x) = true) : takenOk F L S = false := by simp [takenOk, h]

end Go.Proofs.YtpiijhfjliolfaaGreat

namespace Go.Proofs.YtpiijhfjliolfaaGreat
open Go.RowKit Go.Sort

def nearB (F : Fld) (C : List Int) (r a : Int) : Bool := C.any fun c => decide (dAt F c.toNat a ≤ r)
def withinTo (F : Fld) (C S : List Int) (r : Int) (k : Nat) : List Int := (S.take k).filter (nearB F C r)
def withinL (F : Fld) (C S : List Int) (r : Int) : List Int := S.filter (nearB F C r)
theorem within_yes {F : Fld} {C S : List Int} {r : Int} {k : Nat} (hk : k < S.length) (h : nearB F C r S[k] = true) : withinTo F C S r (k + 1) = withinTo F C S r k ++ [S[k]] := by
  unfold withinTo
  rw [List.take_succ_eq_append_getElem hk, List.filter_append]; simp [h]
theorem within_no {F : Fld} {C S : List Int} {r : Int} {k : Nat} (hk : k < S.length) (h : nearB F C r S[k] = false) : withinTo F C S r (k + 1) = withinTo F C S r k := by
  unfold withinTo
  rw [List.take_succ_eq_append_getElem hk, List.filter_append]; simp [h]
theorem within_len (F : Fld) (C S : List Int) (r : Int) (k : Nat) : (withinTo F C S r k).length ≤ k := by
  unfold withinTo
  exact Nat.le_trans (List.length_filter_le _ _) (by simp; omega)
theorem within_all {F : Fld} {C S : List Int} {r : Int} {k : Nat} (hk : S.length ≤ k) : withinTo F C S r k = withinL F C S r := by
  unfold withinTo withinL
  rw [List.take_of_length_le hk]
theorem near_succ {F : Fld} {C : List Int} {r a : Int} {k : Nat} (hk : k < C.length) : nearB F (C.take (k + 1)) r a = (nearB F (C.take k) r a || decide (dAt F C[k].toNat a ≤ r)) := by
  unfold nearB
  rw [List.take_succ_eq_append_getElem hk, List.any_append]; simp
set_option maxRecDepth 100000 in
set_option maxHeartbeats 2000000 in
theorem l7Within_any (f : Value) (F : Fld) (A0 : Option Addr) (C : List Int) (n0 c0 : Nat) (A1 : Option Addr) (S : List Int) (n1 c1 : Nat) (r : Int) (w : World) (hf : FldAt w f F) (hC : IntsAt w A0 C) (hn0 : C.length = n0) (hS : IntsAt w A1 S) (hn1 : S.length = n1) (hg : goodF F = true) (hs : setB F S = true) (hc : ∀ x ∈ C, 0 ≤ x ∧ x < F.di.length) :
    Calls Tryz.prog 34 #[f, .slice A0 n0 c0, .slice A1 n1 c1, .int .i64 r] w fun e w' => ∃ v, e = .returned v ∧ Own w' w.heap.size v (withinL F C S r) ∧ Kp w w' := by
  obtain ⟨A, c, B, d, rfl, hA, hB⟩ := hf
  have hk0 : Kp w (w.alloc (.cells #[.slice A F.op.length c, .slice B F.di.length d] 27)) := (Kp.refl w).alloc _
  obtain ⟨d0, d1⟩ := box2 w (.slice A F.op.length c) (.slice B F.di.length d) 27
  have hFA := FldAt.kp (show FldAt w (.agg #[.slice A F.op.length c, .slice B F.di.length d]) F from ⟨A, c, B, d, rfl, hA, hB⟩) hk0
  have hC0 := hC.kp hk0
  have hS0 := hS.kp hk0
  have hB0 := hB.kp hk0
  have Hn0 := Lib.hid hn0; have Hn1 := Lib.hid hn1
  have Hc := Lib.hid hc; have Hm := Lib.hid (set_mem hs)
  have HG := Lib.hid hg
  have hn7 : n1 ≤ 7 := by have := risB_len hs; have := (goodF_iff.1 hg).1.2; omega
  have hm0 : n0 ≤ 9223372036854775807 := hn0 ▸ hC.1
  clear hA hB hn0 hn1 hC hS hg hs hc
  go_enter Tryz.func34, Tryz.ntmps34
  go_wp2_with fail
  have hsz : Hid ((w.alloc (.cells #[.slice A F.op.length c, .slice B F.di.length d] 27)).heap.size = w.heap.size + 1) := by show _ = _; simp
  generalize w.alloc (.cells #[.slice A F.op.length c, .slice B F.di.length d] 27) = wb at *
  have hkb : Kp wb wb := Kp.refl _
  have hkw := hk0
  have hs1 : w.heap.size + 1 ≤ wb.heap.size := by rw [hsz.out]; exact Nat.le_refl _
  have ho0 := own_new0 wb (w.heap.size + 1) hs1
  have hkn := (Kp.refl wb).alloc (.cells #[] 3)
  rw [hsz.out] at ho0
  go_loopw [9, 10] (fun ov ix wr => ∃ a : Nat, a ≤ n1 ∧ ix = .int .i64 a ∧ Own wr (w.heap.size + 1) ov (withinTo F C S r a) ∧ Kp wb wr) (fun _ ix _ => n1 - (intOf ix).toNat)
  case atStart => exact ⟨0, by omega, rfl, ho0, hkn⟩
  case round =>
    clear ho0
    obtain ⟨a, ha, rfl, hown, hkp⟩ := hrel
    obtain ⟨wo, rfl⟩ : ∃ wo : World, wo = wr := ⟨_, rfl⟩
    by_cases hlt : a < n1
    · have lx : a < S.length := by rw [Hn1.out]; exact hlt
      obtain ⟨sd, rfl, hsc⟩ := (hS0.kp hkp).at_ lx
      obtain ⟨z0, z1⟩ := Hm.out _ (List.getElem_mem lx)
      go_wp2_with fail
      go_loopw [11, 12] (fun nv kx wr => ∃ k : Nat, k ≤ n0 ∧ kx = .int .i64 k ∧ nv = .bool (nearB F (C.take k) r S[a]) ∧ Kp wo wr) (fun _ kx _ => n0 - (intOf kx).toNat)
      case atStart => exact ⟨0, by omega, rfl, rfl, Kp.refl _⟩
      case round =>
        obtain ⟨k, hk, rfl, rfl, hkr⟩ := hrel
        by_cases hlk : k < n0
        · have lk : k < C.length := by rw [Hn0.out]; exact hlk
          obtain ⟨cd, rfl, hcc⟩ := (hC0.kp (hkp.trans hkr)).at_ lk
          have hns := near_succ (F := F) (r := r) (a := S[a]) lk
          obtain ⟨y0, y1⟩ := Hc.out _ (List.getElem_mem lk)
          obtain ⟨b, hb⟩ := Int.eq_ofNat_of_zero_le y0
          rw [hb] at hcc hns y1
          have hbl : b < F.di.length := by omega
          obtain ⟨bd, A2, c2, rfl, hcr, hr⟩ := (hB0.kp (hkp.trans hkr)).at_ hbl
          have hrl := goodRow HG.out hbl
          obtain ⟨rd, rfl, _⟩ := hr.at_ (k := 0) (by omega)
          have hdc := dCell hbl hr z0 (by omega)
          have hsc2 := hkr.get hsc
          have q0 := (hkp.trans hkr).get d0
          have q1 := (hkp.trans hkr).get d1
          rw [show ((b : Nat) : Int).toNat = b from rfl] at hns
          replace hns := Lib.hid hns
          have z2 : S[a].toNat < F.di[b].length := by omega
          replace hrl := Lib.hid hrl
          clear hb
          cases hnb : nearB F (C.take k) r S[a]
          · have Hy : Hid (nearB F (C.take (k + 1)) r S[a] = decide (dAt F b S[a] ≤ r)) := by show _ = _; rw [hns.out, hnb]; rfl
            clear hnb
            go_wp2_with fail
            go_quiet (fail)
            go_wp2_with fail
            go_roundw
            case rel => exact ⟨k + 1, by omega, by go_num, by rw [Hy.out], hkr.drewN nq⟩
            case measure => simp [intOf]; omega
          · have Hy : Hid (nearB F (C.take (k + 1)) r S[a] = true) := by show _ = _; rw [hns.out, hnb]; rfl
            clear hnb
            go_wp2_with fail
            go_quiet (fail)
            go_wp2_with fail
            go_roundw
            case rel => exact ⟨k + 1, by omega, by go_num, by rw [Hy.out], hkr.drewN nq⟩
            case measure => simp [intOf]; omega
        · have hta := Lib.hid (show C.take k = C from List.take_of_length_le (by rw [Hn0.out]; omega))
          have hsc2 := hkr.get hsc
          have hkq := hkp.trans hkr
          have ho2 := hown.kp hkr
          have hbq : w.heap.size + 1 ≤ wr.heap.size := Nat.le_trans hs1 hkq.le
          have hwl := within_len F C S r a
          cases hnb : nearB F (C.take k) r S[a]
          · have Hy := Lib.hid (within_no (r := r) (F := F) (C := C) lx (by rw [← hta.out]; exact hnb))
            clear hnb
            go_wp2_with fail
            go_roundw
            case rel => exact ⟨a + 1, by omega, by go_num, by rw [Hy.out]; exact ho2, hkq⟩
            case measure => simp [intOf]; omega
          · have Hy := Lib.hid (within_yes (r := r) (F := F) (C := C) lx (by rw [← hta.out]; exact hnb))
            clear hnb
            go_wp2_with (at_builtin; go_loud (refine wpl_app rfl (.tmp 46) (.tmp 51) rfl (w.heap.size + 1) _ (withinTo F C S r a) S[a] rfl rfl ho2 hbq (by omega) ?_); intro v' w' ho' ht' _; have hk4 := ho2.kp_turn hkq (by rw [hsz.out]; exact Nat.le_refl _) ht')
            go_roundw
            case rel => exact ⟨a + 1, by omega, by go_num, by rw [Hy.out]; exact ho', hk4⟩
            case measure => simp [intOf]; omega
    · have Hy := Lib.hid (within_all (F := F) (C := C) (S := S) (r := r) (k := a) (by rw [Hn1.out]; omega))
      go_wp2_with fail
      go_ret
      exact ⟨_, rfl, by rw [← Hy.out]; exact hown.mono (Nat.le_succ _), hkw.trans hkp⟩
def hallB (F : Fld) (rooms needs S : List Int) (r : Int) (C : List Int) : Bool := decide (roomS rooms (withinL F C S r) < roomS needs C)
def hcIn (F : Fld) (rooms needs S : List Int) (r : Int) : Bool := haulB F rooms needs S && decide (0 ≤ r)
def hcV (F : Fld) (rooms needs S : List Int) (r : Int) : List Int := ((setsL F.di.length).find? (hallB F rooms needs S r)).getD []
def hcL (F : Fld) (rooms needs S : List Int) (r : Int) : List Int := if hcIn F rooms needs S r = true then hcV F rooms needs S r else []
def hcOk (F : Fld) (rooms needs S : List Int) (r : Int) : Bool := hcIn F rooms needs S r && !(hcV F rooms needs S r).isEmpty
theorem hcV_len (F : Fld) (rooms needs S : List Int) (r : Int) : (hcV F rooms needs S r).length ≤ F.di.length := by
  unfold hcV
  cases h : (setsL F.di.length).find? (hallB F rooms needs S r) with
  | none => simp
  | some C =>
    have := List.mem_of_find?_eq_some h
    exact risB_len (mem_setsL.1 this).2
theorem hcIn_parts {F : Fld} {rooms needs S : List Int} {r : Int} (h : hcIn F rooms needs S r = true) : haulB F rooms needs S = true ∧ 0 ≤ r := by
  simpa [hcIn] using h
theorem hcL_len (F : Fld) (rooms needs S : List Int) (r : Int) : (hcL F rooms needs S r).length ≤ 1048576 := by
  unfold hcL
  by_cases h : hcIn F rooms needs S r = true
  · rw [if_pos h]
    have h1 := hcV_len F rooms needs S r
    have h2 := (goodF_iff.1 (openedB_parts (haulB_iff.1 (hcIn_parts h).1).1).1).2.2.1
    omega
  · rw [if_neg h]; simp
theorem bits_mem (n b : Nat) : ∀ x ∈ bitsL n b, 0 ≤ x ∧ x < n := fun x hx => by
  have := (ris_iff.1 (bitsL_ris n b _ (Int.le_refl _))).2 x hx
  omega
theorem within_mem {F : Fld} {C S : List Int} {r : Int} : ∀ x ∈ withinL F C S r, x ∈ S := fun x hx => (List.mem_filter.1 hx).1
theorem withinL_len (F : Fld) (C S : List Int) (r : Int) : (withinL F C S r).length ≤ S.length := List.length_filter_le _ _
end Go.Proofs.YtpiijhfjliolfaaGreat

namespace Go.Proofs.YtpiijhfjliolfaaGreat
open Go.RowKit

theorem keepc1 {wv w' : World} {p : Addr} {a : Value} (h1 : wv.cell? p = some a) (h : Kp wv w') : w'.cell? p = some a ∧ Kp wv w' := ⟨h.get h1, h⟩
theorem keepc2 {wv w' : World} {p q : Addr} {a b : Value} (h1 : wv.cell? p = some a) (h2 : wv.cell? q = some b) (h : Kp wv w') : w'.cell? p = some a ∧ w'.cell? q = some b ∧ Kp wv w' := ⟨h.get h1, h.get h2, h⟩
theorem keepc3 {wv w' : World} {p q r : Addr} {a b c : Value} (h1 : wv.cell? p = some a) (h2 : wv.cell? q = some b) (h3 : wv.cell? r = some c) (h : Kp wv w') : w'.cell? p = some a ∧ w'.cell? q = some b ∧ w'.cell? r = some c ∧ Kp wv w' := ⟨h.get h1, h.get h2, h.get h3, h⟩
theorem keepc4 {wv w' : World} {p q r s : Addr} {a b c d : Value} (h1 : wv.cell? p = some a) (h2 : wv.cell? q = some b) (h3 : wv.cell? r = some c) (h4 : wv.cell? s = some d) (h : Kp wv w') : w'.cell? p = some a ∧ w'.cell? q = some b ∧ w'.cell? r = some c ∧ w'.cell? s = some d ∧ Kp wv w' := ⟨h.get h1, h.get h2, h.get h3, h.get h4, h⟩
theorem keepc5 {wv w' : World} {p q r s t : Addr} {a b c d e : Value} (h1 : wv.cell? p = some a) (h2 : wv.cell? q = some b) (h3 : wv.cell? r = some c) (h4 : wv.cell? s = some d) (h5 : wv.cell? t = some e) (h : Kp wv w') : w'.cell? p = some a ∧ w'.cell? q = some b ∧ w'.cell? r = some c ∧ w'.cell? s = some d ∧ w'.cell? t = some e ∧ Kp wv w' := ⟨h.get h1, h.get h2, h.get h3, h.get h4, h.get h5, h⟩
theorem keepc6 {wv w' : World} {p q r s t u : Addr} {a b c d e f : Value} (h1 : wv.cell? p = some a) (h2 : wv.cell? q = some b) (h3 : wv.cell? r = some c) (h4 : wv.cell? s = some d) (h5 : wv.cell? t = some e) (h6 : wv.cell? u = some f) (h : Kp wv w') : w'.cell? p = some a ∧ w'.cell? q = some b ∧ w'.cell? r = some c ∧ w'.cell? s = some d ∧ w'.cell? t = some e ∧ w'.cell? u = some f ∧ Kp wv w' := ⟨h.get h1, h.get h2, h.get h3, h.get h4, h.get h5, h.get h6, h⟩
theorem keepc7 {wv w' : World} {p0 p1 p2 p3 p4 p5 p6 : Addr} {v0 v1 v2 v3 v4 v5 v6 : Value} (h0 : wv.cell? p0 = some v0) (h1 : wv.cell? p1 = some v1) (h2 : wv.cell? p2 = some v2) (h3 : wv.cell? p3 = some v3) (h4 : wv.cell? p4 = some v4) (h5 : wv.cell? p5 = some v5) (h6 : wv.cell? p6 = some v6) (h : Kp wv w') : w'.cell? p0 = some v0 ∧ w'.cell? p1 = some v1 ∧ w'.cell? p2 = some v2 ∧ w'.cell? p3 = some v3 ∧ w'.cell? p4 = some v4 ∧ w'.cell? p5 = some v5 ∧ w'.cell? p6 = some v6 ∧ Kp wv w' := ⟨h.get h0, h.get h1, h.get h2, h.get h3, h.get h4, h.get h5, h.get h6, h⟩
theorem keepc8 {wv w' : World} {p0 p1 p2 p3 p4 p5 p6 p7 : Addr} {v0 v1 v2 v3 v4 v5 v6 v7 : Value} (h0 : wv.cell? p0 = some v0) (h1 : wv.cell? p1 = some v1) (h2 : wv.cell? p2 = some v2) (h3 : wv.cell? p3 = some v3) (h4 : wv.cell? p4 = some v4) (h5 : wv.cell? p5 = some v5) (h6 : wv.cell? p6 = some v6) (h7 : wv.cell? p7 = some v7) (h : Kp wv w') : w'.cell? p0 = some v0 ∧ w'.cell? p1 = some v1 ∧ w'.cell? p2 = some v2 ∧ w'.cell? p3 = some v3 ∧ w'.cell? p4 = some v4 ∧ w'.cell? p5 = some v5 ∧ w'.cell? p6 = some v6 ∧ w'.cell? p7 = some v7 ∧ Kp wv w' := ⟨h.get h0, h.get h1, h.get h2, h.get h3, h.get h4, h.get h5, h.get h6, h.get h7, h⟩
theorem keepc9 {wv w' : World} {p0 p1 p2 p3 p4 p5 p6 p7 p8 : Addr} {v0 v1 v2 v3 v4 v5 v6 v7 v8 : Value} (h0 : wv.cell? p0 = some v0) (h1 : wv.cell? p1 = some v1) (h2 : wv.cell? p2 = some v2) (h3 : wv.cell? p3 = some v3) (h4 : wv.cell? p4 = some v4) (h5 : wv.cell? p5 = some v5) (h6 : wv.cell? p6 = some v6) (h7 : wv.cell? p7 = some v7) (h8 : wv.cell? p8 = some v8) (h : Kp wv w') : w'.cell? p0 = some v0 ∧ w'.cell? p1 = some v1 ∧ w'.cell? p2 = some v2 ∧ w'.cell? p3 = some v3 ∧ w'.cell? p4 = some v4 ∧ w'.cell? p5 = some v5 ∧ w'.cell? p6 = some v6 ∧ w'.cell? p7 = some v7 ∧ w'.cell? p8 = some v8 ∧ Kp wv w' := ⟨h.get h0, h.get h1, h.get h2, h.get h3, h.get h4, h.get h5, h.get h6, h.get h7, h.get h8, h⟩
theorem keepc10 {wv w' : World} {p0 p1 p2 p3 p4 p5 p6 p7 p8 p9 : Addr} {v0 v1 v2 v3 v4 v5 v6 v7 v8 v9 : Value} (h0 : wv.cell? p0 = some v0) (h1 : wv.cell? p1 = some v1) (h2 : wv.cell? p2 = some v2) (h3 : wv.cell? p3 = some v3) (h4 : wv.cell? p4 = some v4) (h5 : wv.cell? p5 = some v5) (h6 : wv.cell? p6 = some v6) (h7 : wv.cell? p7 = some v7) (h8 : wv.cell? p8 = some v8) (h9 : wv.cell? p9 = some v9) (h : Kp wv w') : w'.cell? p0 = some v0 ∧ w'.cell? p1 = some v1 ∧ w'.cell? p2 = some v2 ∧ w'.cell? p3 = some v3 ∧ w'.cell? p4 = some v4 ∧ w'.cell? p5 = some v5 ∧ w'.cell? p6 = some v6 ∧ w'.cell? p7 = some v7 ∧ w'.cell? p8 = some v8 ∧ w'.cell? p9 = some v9 ∧ Kp wv w' := ⟨h.get h0, h.get h1, h.get h2, h.get h3, h.get h4, h.get h5, h.get h6, h.get h7, h.get h8, h.get h9, h⟩
end Go.Proofs.YtpiijhfjliolfaaGreat

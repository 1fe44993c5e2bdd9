/- Votes of clients between two sites: the program's answer and the reference's; Sites that no other site beats: the program's answer and the reference's; Contracts of the functions on sets as binary numbers, and of searches in lists; A number of a list, 0 behind its end; The program's sum of a list; The service of a set: reference and program; All sets of some sites in their order: plain words; What a slice of rows of the call's own holds when it has been sorted. No condition. -/
import Derived.Test.YtcccmndkolmboaaQAb
import Derived.Test.YtcccmndkolmboaaQAa
import Derived.Test.YtcccmndkolmboaaQAc
import Derived.IntWalk
import Derived.Shelf.SlSortCmp.Whole1
import Derived.Lib.OwnBridge
import Derived.Lib.AppendIntMem
namespace Go.Proofs.Ytcccmndkolmboaa
open Go.RowKit Go.Sort

def nearB (a b : Nat) (r : List Int) : Bool := decide (r.getD a 0 < r.getD b 0)
theorem nearB_val {r : List Int} {a b : Nat} (ha : a < r.length) (hb : b < r.length) : nearB a b r = decide (r[a] < r[b]) := by simp [nearB, List.getD, ha, hb]
/-- How many clients are nearer to a than to b. -/
def votesN (F : Fld) (a b : Nat) : Nat := F.di.countP (nearB a b)

set_option maxRecDepth 100000 in
set_option maxHeartbeats 1000000 in
theorem l9Votes_any (f : Value) (F : Fld) (a b : Nat) (w : World) (hf : FldAt w f F) (hg : goodF F = true) (ha : a < F.op.length) (hb : b < F.op.length) :
    Calls Try.prog 24 #[f, .int .i64 a, .int .i64 b] w fun e w' => e = .returned (.int .i64 (votesN F a b)) ∧ Kp w w' := by
  obtain ⟨A, c, B, d, rfl, hA, hB⟩ := hf
  have hk0 : Kp w (w.alloc (.cells #[.slice A F.op.length c, .slice B F.di.length d] 27)) := (Kp.refl w).alloc _
  have d1 : (w.alloc (.cells #[.slice A F.op.length c, .slice B F.di.length d] 27)).cell? ⟨w.heap.size, 1, none⟩ = some (.slice B F.di.length d) := by
    rw [World.cell?_alloc_at _ _ _ _ rfl]; rfl
  have hG := goodF_iff.1 hg
  have hn7 := hG.1.2
  have hd7 := hG.2.2.1
  have HG := Lib.hid hg; clear hg hG
  go_enter Try.func24, Try.ntmps24
  go_wp2_with fail
  go_loopw [7, 8] (fun cv i wr => ∃ k : Nat, k ≤ F.di.length ∧ i = .int .i64 k ∧ cv = .int .i64 ((F.di.take k).countP (nearB a b)) ∧ Dr (w.alloc (.cells #[.slice A F.op.length c, .slice B F.di.length d] 27)) wr) (fun _ i _ => F.di.length - (intOf i).toNat)
  case atStart => exact ⟨0, by omega, rfl, by simp, Dr.refl _⟩
  case round =>
    obtain ⟨k, hk, rfl, rfl, hdr⟩ := hrel
    have hb1 := hdr.kp.get d1
    by_cases hlt : k < F.di.length
    · obtain ⟨bd, A', c', rfl, hc, hr⟩ := ((hB.kp hk0).kp hdr.kp).at_ hlt
      have hl := goodRow HG.out hlt
      have la : a < F.di[k].length := by omega
      have lb : b < F.di[k].length := by omega
      have Hl := Lib.hid hl; clear hl
      obtain ⟨rd, rfl, hca⟩ := hr.at_ la
      have hcb := hr.some_ lb
      have hct := count_le_len (nearB a b) F.di k
      have hnx := Lib.hid (count_take_succ (p := nearB a b) hlt)
      have eqv := Lib.hid (nearB_val la lb)
      go_wp2_with fail
      go_quiet (fail)
      go_wp2_with fail
      · have h2 : F.di[k][a] < F.di[k][b] := by assumption
        go_roundw
        case rel =>
          refine ⟨k + 1, by omega, by go_num, ?_, hdr.drewN nq⟩
          rw [hnx.out, eqv.out, if_pos (by simpa using h2)]
          go_num
        case measure => simp [intOf]; omega
      · have h2 : F.di[k][b] ≤ F.di[k][a] := by assumption
        go_roundw
        case rel =>
          refine ⟨k + 1, by omega, by go_num, ?_, hdr.drewN nq⟩
          rw [hnx.out, eqv.out, if_neg (by simpa using h2)]
          simp
        case measure => simp [intOf]; omega
    · go_wp2_with fail
      go_ret
      refine ⟨ret_int ?_, hk0.trans hdr.kp⟩
      rw [List.take_of_length_le (by omega)]
      rfl

set_option maxRecDepth 100000 in
set_option maxHeartbeats 1000000 in
theorem votes_any (f : Value) (F : Fld) (a b : Nat) (w : World) (hf : FldAt w f F) (hg : goodF F = true) (ha : a < F.op.length) (hb : b < F.op.length) :
    Calls Try.prog 22 #[f, .int .i64 a, .int .i64 b] w fun e w' => e = .returned (.int .i64 (votesN F a b)) ∧ Kp w w' := by
  obtain ⟨A, c, B, d, rfl, hA, hB⟩ := hf
  have hk0 : Kp w (w.alloc (.cells #[.slice A F.op.length c, .slice B F.di.length d] 27)) := (Kp.refl w).alloc _
  have hG := goodF_iff.1 hg
  have hn7 := hG.1.2
  have hd7 := hG.2.2.1
  have HG := Lib.hid hg; clear hg hG
  go_enter Try.func22, Try.ntmps22
  go_wp2_with fail
  go_loopw [7, 13] (fun cv i wr => ∃ k : Nat, k ≤ F.di.length ∧ i = .int .i64 k ∧ cv = .int .i64 ((F.di.take k).countP (nearB a b)) ∧ Dr (w.alloc (.cells #[.slice A F.op.length c, .slice B F.di.length d] 27)) wr) (fun _ i _ => F.di.length - (intOf i).toNat)
  case atStart => exact ⟨0, by omega, rfl, by simp, Dr.refl _⟩
  case round =>
    obtain ⟨k, hk, rfl, rfl, hdr⟩ := hrel
    by_cases hlt : k < F.di.length
    · obtain ⟨bd, A', c', rfl, hc, hr⟩ := ((hB.kp hk0).kp hdr.kp).at_ hlt
      have hl := goodRow HG.out hlt
      have la : a < F.di[k].length := by omega
      have lb : b < F.di[k].length := by omega
      have Hl := Lib.hid hl; clear hl
      obtain ⟨rd, rfl, hca⟩ := hr.at_ la
      have hcb := hr.some_ lb
      have hct := count_le_len (nearB a b) F.di k
      have hnx := Lib.hid (count_take_succ (p := nearB a b) hlt)
      have eqv := Lib.hid (nearB_val la lb)
      go_wp2_with fail
      go_quiet (fail)
      go_wp2_with fail
      · have h2 : F.di[k][a] < F.di[k][b] := by assumption
        go_roundw
        case rel =>
          refine ⟨k + 1, by omega, by go_num, ?_, hdr.drewN nq⟩
          rw [hnx.out, eqv.out, if_pos (by simpa using h2)]
          go_num
        case measure => simp [intOf]; omega
      · have h2 : F.di[k][b] ≤ F.di[k][a] := by assumption
        go_roundw
        case rel =>
          refine ⟨k + 1, by omega, by go_num, ?_, hdr.drewN nq⟩
          rw [hnx.out, eqv.out, if_neg (by simpa using h2)]
          simp
        case measure => simp [intOf]; omega
    · go_wp2_with fail
      go_ret
      refine ⟨ret_int ?_, hk0.trans hdr.kp⟩
      rw [List.take_of_length_le (by omega)]
      rfl

def siteB (F : Fld) (a : Int) : Bool := inB a 0 (F.op.length - 1)
def votesOk (F : Fld) (a b : Int) : Bool := goodF F && siteB F a && siteB F b
def votes1 (F : Fld) (a b : Int) : Nat := if votesOk F a b = true then votesN F a.toNat b.toNat else 0
def votes2 (F : Fld) (a b : Int) : Nat := if votesOk F a b = true then votesN F b.toNat a.toNat else 0
theorem votes_no {F : Fld} {a b : Int} (h : votesOk F a b = false) : Ending.returned (.tuple #[.int .i64 (votes1 F a b), .int .i64 (votes2 F a b), .bool (votesOk F a b)]) = .returned (.tuple #[.int .i64 0, .int .i64 0, .bool false]) := by
  simp [votes1, votes2, h]
theorem votes_yes {F : Fld} {a b : Nat} (h : votesOk F a b = true) : Ending.returned (.tuple #[.int .i64 (votes1 F a b), .int .i64 (votes2 F a b), .bool (votesOk F a b)]) = .returned (.tuple #[.int .i64 (votesN F a b), .int .i64 (votesN F b a), .bool true]) := by
  simp [votes1, votes2, h]
theorem siteB_iff {F : Fld} {a : Int} : siteB F a = true ↔ 0 ≤ a ∧ a ≤ (F.op.length : Int) - 1 := inB_iff
set_option maxRecDepth 100000 in
set_option maxHeartbeats 1000000 in
theorem specVotes_any (f : Value) (F : Fld) (a b : Int) (w : World) (hf : FldAt w f F) :
    Calls Try.prog 11 #[f, .int .i64 a, .int .i64 b] w fun e w' =>
      e = .returned (.tuple #[.int .i64 (votes1 F a b), .int .i64 (votes2 F a b), .bool (votesOk F a b)]) ∧ Kp w w' := by
  obtain ⟨A, c, B, d, rfl, hA, hB⟩ := hf
  have hk0 : Kp w (w.alloc (.cells #[.slice A F.op.length c, .slice B F.di.length d] 27)) := (Kp.refl w).alloc _
  obtain ⟨d0, d1⟩ := box2 w (.slice A F.op.length c) (.slice B F.di.length d) 27
  have hFA : FldAt w (.agg #[.slice A F.op.length c, .slice B F.di.length d]) F := ⟨A, c, B, d, rfl, hA, hB⟩
  have hAl := hA.1
  go_enter Try.func11, Try.ntmps11
  go_wp2_with fail
  have CC := Lib.hid (l2Good_any _ F _ (hFA.kp hk0))
  with_reducible refine Calls.mono CC.out ?_
  rintro e w1 ⟨rfl, hk1⟩
  clear CC
  have e0 := hk1.get d0; have e1 := hk1.get d1
  cases hg : goodF F
  · have Hg := Lib.hid hg; clear hg
    go_wp2_with fail
    go_ret3
    have : votesOk F a b = false := by simp [votesOk, Hg.out]
    exact ⟨(votes_no this).symm, hk0.trans hk1⟩
  have Hg := Lib.hid hg; clear hg
  go_wp2_with fail
  refine (l1In_any _ _ _ _).mono ?_
  rintro e w' ⟨rfl, rfl⟩
  cases h2 : inB a 0 (F.op.length - 1)
  · have H2 := Lib.hid h2; clear h2
    go_wp2_with fail
    go_ret3
    have : votesOk F a b = false := by simp [votesOk, siteB, H2.out]
    exact ⟨(votes_no this).symm, hk0.trans hk1⟩
  have H2 := Lib.hid h2; clear h2
  go_wp2_with fail
  refine (l1In_any _ _ _ _).mono ?_
  rintro e w' ⟨rfl, rfl⟩
  cases h3 : inB b 0 (F.op.length - 1)
  · have H3 := Lib.hid h3; clear h3
    go_wp2_with fail
    go_ret3
    have : votesOk F a b = false := by simp [votesOk, siteB, H3.out]
    exact ⟨(votes_no this).symm, hk0.trans hk1⟩
  have H3 := Lib.hid h3; clear h3
  obtain ⟨a0, a1⟩ := inB_iff.1 H2.out
  obtain ⟨b0, b1⟩ := inB_iff.1 H3.out
  obtain ⟨a, rfl⟩ := Int.eq_ofNat_of_zero_le a0
  obtain ⟨b, rfl⟩ := Int.eq_ofNat_of_zero_le b0
  have q0 := cell_regrown e0; have q1 := cell_regrown e1
  have hk2 := hk0.trans hk1
  have hv : Hid (votesOk F a b = true) := by show votesOk F a b = true; simp only [votesOk, siteB, Hg.out, H2.out, H3.out]; rfl
  have la : a < F.op.length := by omega
  have lb : b < F.op.length := by omega
  have Cv := Lib.hid (fun (x y : Nat) (hx : x < F.op.length) (hy : y < F.op.length) (dd : Nat) (os : Array Obj) => Calls.regrown_of (l9Votes_any _ F x y _ ((hFA.kp hk2).kp (kp_rg w1 dd os)) Hg.out hx hy))
  go_wp2_with fail
  refine wp_region_quiet_below (by kernel_rfl) (by kernel_rfl) ?_
  repeat (quiet_step (with_reducible exact Cv.out _ _ (by assumption) (by assumption) _ _))
  refine wpQuiet_nil ?_
  intro wq hw'
  have hkq := kp_of_rg hw'
  clear hw'
  go_wp2_with fail
  go_ret3
  exact ⟨(votes_yes hv.out).symm, hk2.trans hkq⟩

set_option maxRecDepth 100000 in
set_option maxHeartbeats 1000000 in
theorem implVotes_any (f : Value) (F : Fld) (a b : Int) (w : World) (hf : FldAt w f F) :
    Calls Try.prog 10 #[f, .int .i64 a, .int .i64 b] w fun e w' =>
      e = .returned (.tuple #[.int .i64 (votes1 F a b), .int .i64 (votes2 F a b), .bool (votesOk F a b)]) ∧ Kp w w' := by
  obtain ⟨A, c, B, d, rfl, hA, hB⟩ := hf
  have hk0 : Kp w (w.alloc (.cells #[.slice A F.op.length c, .slice B F.di.length d] 27)) := (Kp.refl w).alloc _
  obtain ⟨d0, d1⟩ := box2 w (.slice A F.op.length c) (.slice B F.di.length d) 27
  have hFA : FldAt w (.agg #[.slice A F.op.length c, .slice B F.di.length d]) F := ⟨A, c, B, d, rfl, hA, hB⟩
  have hAl := hA.1
  go_enter Try.func10, Try.ntmps10
  go_wp2_with fail
  have CC := Lib.hid (isField_any _ F _ (hFA.kp hk0))
  with_reducible refine Calls.mono CC.out ?_
  rintro e w1 ⟨rfl, hk1⟩
  clear CC
  have e0 := hk1.get d0; have e1 := hk1.get d1
  cases hg : goodF F
  · have Hg := Lib.hid hg; clear hg
    go_wp2_with fail
    go_ret3
    have : votesOk F a b = false := by simp [votesOk, Hg.out]
    exact ⟨(votes_no this).symm, hk0.trans hk1⟩
  have Hg := Lib.hid hg; clear hg
  have hr := row2 w1 (.int .i64 a) (.int .i64 b) 3
  have hi : IntsAt (w1.alloc (.cells #[.int .i64 a, .int .i64 b] 3)) (some ⟨w1.heap.size, 0, none⟩) [a, b] := by
    refine IntRow.ints (hr.congr (fun i hi => ?_)) (by simp)
    have : i = 0 ∨ i = 1 := by omega
    rcases this with rfl | rfl <;> rfl
  have hk1' := (hk0.trans hk1).alloc (.cells #[.int .i64 a, .int .i64 b] 3)
  have e0' := ((Kp.refl w1).alloc (.cells #[.int .i64 a, .int .i64 b] 3)).get e0
  have e1' := ((Kp.refl w1).alloc (.cells #[.int .i64 a, .int .i64 b] 3)).get e1
  clear hr
  go_wp2_with fail
  have CC := Lib.hid (areBetween_any (some ⟨w1.heap.size, 0, none⟩) [a, b] 2 2 0 (F.op.length - 1) _ hi rfl)
  with_reducible refine Calls.mono CC.out ?_
  rintro e w2 ⟨rfl, hk2⟩
  clear CC
  have f0 := hk2.get e0'; have f1 := hk2.get e1'
  have hk3 := hk1'.trans hk2
  cases h2 : allB [a, b] 0 (F.op.length - 1)
  · have H2 := Lib.hid h2; clear h2
    go_wp2_with fail
    go_ret3
    have : votesOk F a b = false := by
      have := H2.out
      simp [allB] at this
      rw [votesOk, siteB, siteB]
      cases h1 : inB a 0 (F.op.length - 1)
      · simp
      · simp [this h1]
    exact ⟨(votes_no this).symm, hk3⟩
  have H2 := Lib.hid h2; clear h2
  have H3 := allB_iff.1 H2.out
  obtain ⟨a0, a1⟩ := H3 a (by simp)
  obtain ⟨b0, b1⟩ := H3 b (by simp)
  clear H3
  obtain ⟨a, rfl⟩ := Int.eq_ofNat_of_zero_le a0
  obtain ⟨b, rfl⟩ := Int.eq_ofNat_of_zero_le b0
  have q0 := cell_regrown f0; have q1 := cell_regrown f1
  have hv : Hid (votesOk F a b = true) := by
    show votesOk F a b = true
    have h1 : siteB F a = true := siteB_iff.2 ⟨by omega, by omega⟩
    have h2 : siteB F b = true := siteB_iff.2 ⟨by omega, by omega⟩
    rw [votesOk, Hg.out, h1, h2]; rfl
  have la : a < F.op.length := by omega
  have lb : b < F.op.length := by omega
  have Cv := Lib.hid (fun (x y : Nat) (hx : x < F.op.length) (hy : y < F.op.length) (dd : Nat) (os : Array Obj) => Calls.regrown_of (votes_any _ F x y _ ((hFA.kp hk3).kp (kp_rg w2 dd os)) Hg.out hx hy))
  clear hi e0 e1 e0' e1'
  go_wp2_with fail
  refine wp_region_quiet_below (by kernel_rfl) (by kernel_rfl) ?_
  repeat (quiet_step (with_reducible exact Cv.out _ _ (by assumption) (by assumption) _ _))
  refine wpQuiet_nil ?_
  intro wq hw'
  have hkq := kp_of_rg hw'
  clear hw'
  go_wp2_with fail
  go_ret3
  exact ⟨(votes_yes hv.out).symm, hk3.trans hkq⟩
end Go.Proofs.Ytcccmndkolmboaa

namespace Go.Proofs.Ytcccmndkolmboaa
open Go.RowKit Go.Sort

/-- b has more votes against a. -/
def beatsB (F : Fld) (a b : Nat) : Bool := decide (votesN F a b < votesN F b a)
def unbB (F : Fld) (a : Nat) : Bool := !(List.range F.op.length).any (beatsB F a)
/-- The first a sites that nobody beats. -/
def unbTo (F : Fld) (a : Nat) : List Int := ((List.range a).filter (unbB F)).map fun (i : Nat) => (i : Int)
def unbL (F : Fld) : List Int := if goodF F = true then unbTo F F.op.length else []
theorem unbTo_len (F : Fld) (a : Nat) : (unbTo F a).length ≤ a := by
  unfold unbTo; rw [List.length_map]; exact Nat.le_trans (List.length_filter_le _ _) (by simp)
theorem unbTo_yes {F : Fld} {a : Nat} (h : unbB F a = true) : unbTo F (a + 1) = unbTo F a ++ [(a : Int)] := by simp [unbTo, List.range_succ, h]
theorem unbTo_no {F : Fld} {a : Nat} (h : unbB F a = false) : unbTo F (a + 1) = unbTo F a := by simp [unbTo, List.range_succ, h]
theorem any_range_succ {p : Nat → Bool} {k : Nat} : (List.range (k + 1)).any p = ((List.range k).any p || p k) := by
  rw [List.range_succ, List.any_append]; simp
theorem votesN_le (F : Fld) (a b : Nat) : votesN F a b ≤ F.di.length := List.countP_le_length
theorem unbL_len (F : Fld) : (unbL F).length ≤ 1048576 := by
  unfold unbL
  split
  · rename_i h
    have := unbTo_len F F.op.length
    have := (goodF_iff.1 h).1.2
    omega
  · simp
theorem unbL_no {F : Fld} (h : goodF F = false) : unbL F = [] := by simp [unbL, h]
theorem unbL_yes {F : Fld} (h : goodF F = true) : unbL F = unbTo F F.op.length := by simp [unbL, h]

set_option maxRecDepth 100000 in
set_option maxHeartbeats 1000000 in
theorem specUnb_any (f : Value) (F : Fld) (w : World) (hf : FldAt w f F) :
    Calls Try.prog 7 #[f] w fun e w' => ∃ v, e = .returned (.tuple #[v, .bool (goodF F)]) ∧ Own w' w.heap.size v (unbL F) ∧ Kp w w' := by
  obtain ⟨A, c, B, d, rfl, hA, hB⟩ := hf
  have hk0 : Kp w (w.alloc (.cells #[.slice A F.op.length c, .slice B F.di.length d] 27)) := (Kp.refl w).alloc _
  obtain ⟨d0, d1⟩ := box2 w (.slice A F.op.length c) (.slice B F.di.length d) 27
  have hFA := FldAt.kp (show FldAt w (.agg #[.slice A F.op.length c, .slice B F.di.length d]) F from ⟨A, c, B, d, rfl, hA, hB⟩) hk0
  have hAl := hA.1
  have hs1 : w.heap.size + 1 ≤ (w.alloc (.cells #[.slice A F.op.length c, .slice B F.di.length d] 27)).heap.size := by simp
  have hs2 : (w.alloc (.cells #[.slice A F.op.length c, .slice B F.di.length d] 27)).heap.size ≤ w.heap.size + 1 := by simp
  go_enter Try.func7, Try.ntmps7
  go_wp2_with fail
  have CC := Lib.hid (l2Good_any _ F _ (hFA.kp ((Kp.refl _).alloc (.cells #[] 3))))
  with_reducible refine Calls.mono CC.out ?_
  rintro e w1 ⟨rfl, hk1⟩
  clear CC
  generalize (w.alloc (.cells #[.slice A F.op.length c, .slice B F.di.length d] 27)) = wb at *
  have hkn := (Kp.refl wb).alloc (.cells #[] 3)
  have hkb := hkn.trans hk1
  have ho0 := (own_new0 wb (w.heap.size + 1) hs1).kp hk1
  rw [Nat.le_antisymm hs2 hs1] at ho0
  have e0 := hkb.get d0; have e1 := hkb.get d1
  cases hg : goodF F
  · have Hg := Lib.hid hg; clear hg
    go_wp2_with fail
    go_ret2
    exact ⟨_, by rw [Hg.out]; rfl, by rw [unbL_no Hg.out]; exact ho0.mono (Nat.le_succ _), hk0.trans hkb⟩
  have Hg := Lib.hid hg; clear hg
  have hG := goodF_iff.1 Hg.out
  have hn1 := hG.1.1
  have hn7 := hG.1.2
  have hd7 := hG.2.2.1
  clear hG
  go_wp2_with fail
  go_loopw [4, 5] (fun ov i wr => ∃ a : Nat, a ≤ F.op.length ∧ i = .int .i64 a ∧ Own wr (w.heap.size + 1) ov (unbTo F a) ∧ Kp wb wr) (fun _ i _ => F.op.length - (intOf i).toNat)
  case atStart => exact ⟨0, by omega, rfl, ho0, hkb⟩
  case round =>
    obtain ⟨a, ha, rfl, hown, hkp⟩ := hrel
    obtain ⟨wo, rfl⟩ : ∃ wo : World, wo = wr := ⟨_, rfl⟩
    have q0 := hkp.get d0; have q1 := hkp.get d1
    by_cases hlt : a < F.op.length
    · go_wp2_with fail
      go_loopw [6, 7] (fun bt j wi => ∃ (b : Nat) (t : Bool), b ≤ F.op.length ∧ j = .int .i64 b ∧ bt = .bool t ∧ Hid (t = (List.range b).any (beatsB F a)) ∧ Kp wo wi) (fun _ j _ => F.op.length - (intOf j).toNat)
      case atStart => exact ⟨0, false, by omega, rfl, rfl, rfl, Kp.refl _⟩
      case round =>
        obtain ⟨b, t, hb, rfl, rfl, Ht, hkq⟩ := hrel
        have f0 := hkq.get q0; have f1 := hkq.get q1
        by_cases hlb : b < F.op.length
        · cases t
          · have r0 := cell_regrown f0; have r1 := cell_regrown f1
            have Cv := Lib.hid (fun (x y : Nat) (hx : x < F.op.length) (hy : y < F.op.length) (dd : Nat) (os : Array Obj) => Calls.regrown_of (l9Votes_any _ F x y _ (((hFA.kp hkp).kp hkq).kp (kp_rg wr dd os)) Hg.out hx hy))
            go_wp2_with fail
            refine wp_region_quiet_below (by kernel_rfl) (by kernel_rfl) ?_
            repeat (quiet_step (with_reducible exact Cv.out _ _ (by assumption) (by assumption) _ _))
            refine wpQuiet_nil ?_
            intro wq hw'
            have hkz := kp_of_rg hw'
            clear hw' r0 r1 Cv
            go_wp2_with fail
            go_roundw
            case rel =>
              refine ⟨b + 1, beatsB F a b, by omega, by go_num, ?_, ?_, hkq.trans hkz⟩
              · simp [beatsB]
              · show beatsB F a b = _
                rw [any_range_succ, ← Ht.out, Bool.false_or]
            case measure => simp [intOf]; omega
          · go_wp2_with fail
            go_quiet (fail)
            go_wp2_with fail
            go_roundw
            case rel =>
              refine ⟨b + 1, true, by omega, by go_num, rfl, ?_, hkq.drewN _⟩
              show true = _
              rw [any_range_succ, ← Ht.out, Bool.true_or]
            case measure => simp [intOf]; omega
        · obtain rfl : b = F.op.length := by omega
          have ho2 := hown.kp hkq
          have hk3 := hkp.trans hkq
          have hlen := unbTo_len F a
          have hbl : w.heap.size + 1 ≤ wr.heap.size := Nat.le_trans hs1 hk3.le
          cases t
          · have hu : Hid (unbB F a = true) := by show unbB F a = true; rw [unbB, ← Ht.out]; rfl
            go_wp2_with (at_builtin; go_loud (refine wpl_app rfl (.tmp 41) (.tmp 43) rfl (w.heap.size + 1) _ (unbTo F a) a rfl rfl ho2 hbl (by omega) ?_); intro v' w' ho' ht' _; have hk4 := ho2.kp_turn hk3 hs2 ht')
            go_roundw
            case rel => exact ⟨a + 1, by omega, by go_num, by rw [unbTo_yes hu.out]; exact ho', hk4⟩
            case measure => simp [intOf]; omega
          · have hu : Hid (unbB F a = false) := by show unbB F a = false; rw [unbB, ← Ht.out]; rfl
            go_wp2_with fail
            go_roundw
            case rel => exact ⟨a + 1, by omega, by go_num, by rw [unbTo_no hu.out]; exact ho2, hk3⟩
            case measure => simp [intOf]; omega
    · obtain rfl : a = F.op.length := by omega
      go_wp2_with fail
      go_ret2
      exact ⟨_, by rw [Hg.out]; rfl, by rw [unbL_yes Hg.out]; exact hown.mono (Nat.le_succ _), hk0.trans hkp⟩

set_option maxRecDepth 100000 in
set_option maxHeartbeats 1000000 in
theorem implUnb_any (f : Value) (F : Fld) (w : World) (hf : FldAt w f F) :
    Calls Try.prog 6 #[f] w fun e w' => ∃ v, e = .returned (.tuple #[v, .bool (goodF F)]) ∧ Own w' w.heap.size v (unbL F) ∧ Kp w w' := by
  obtain ⟨A, c, B, d, rfl, hA, hB⟩ := hf
  have hk0 : Kp w (w.alloc (.cells #[.slice A F.op.length c, .slice B F.di.length d] 27)) := (Kp.refl w).alloc _
  obtain ⟨d0, d1⟩ := box2 w (.slice A F.op.length c) (.slice B F.di.length d) 27
  have hFA := FldAt.kp (show FldAt w (.agg #[.slice A F.op.length c, .slice B F.di.length d]) F from ⟨A, c, B, d, rfl, hA, hB⟩) hk0
  have hAl := hA.1
  have hs1 : w.heap.size + 1 ≤ (w.alloc (.cells #[.slice A F.op.length c, .slice B F.di.length d] 27)).heap.size := by simp
  have hs2 : (w.alloc (.cells #[.slice A F.op.length c, .slice B F.di.length d] 27)).heap.size ≤ w.heap.size + 1 := by simp
  go_enter Try.func6, Try.ntmps6
  go_wp2_with fail
  have CC := Lib.hid (isField_any _ F _ hFA)
  with_reducible refine Calls.mono CC.out ?_
  rintro e w1 ⟨rfl, hk1⟩
  clear CC
  generalize (w.alloc (.cells #[.slice A F.op.length c, .slice B F.di.length d] 27)) = wb at *
  have hkb := hk1
  have e0 := hkb.get d0; have e1 := hkb.get d1
  cases hg : goodF F
  · have Hg := Lib.hid hg; clear hg
    go_wp2_with fail
    go_ret2
    exact ⟨_, by rw [Hg.out]; rfl, by rw [unbL_no Hg.out]; exact Own.nil _ _, hk0.trans hkb⟩
  have Hg := Lib.hid hg; clear hg
  have hG := goodF_iff.1 Hg.out
  have hn1 := hG.1.1
  have hn7 := hG.1.2
  have hd7 := hG.2.2.1
  clear hG
  have ho0 := own_new0 w1 (w.heap.size + 1) (Nat.le_trans hs1 hk1.le)
  have hkn := hk1.alloc (.cells #[] 3)
  replace e0 := hkn.get d0
  replace e1 := hkn.get d1
  go_wp2_with fail
  go_loopw [4, 15] (fun ov ix wr => ∃ a : Nat, a ≤ F.op.length ∧ ix = .int .i64 a ∧ Own wr (w.heap.size + 1) ov (unbTo F a) ∧ Kp wb wr) (fun _ ix _ => F.op.length - (intOf ix).toNat)
  case atStart => exact ⟨0, by omega, rfl, ho0, hkn⟩
  case round =>
    obtain ⟨a, ha, rfl, hown, hkp⟩ := hrel
    obtain ⟨wo, rfl⟩ : ∃ wo : World, wo = wr := ⟨_, rfl⟩
    have q0 := hkp.get d0; have q1 := hkp.get d1
    by_cases hlt : a < F.op.length
    · go_wp2_with fail
      go_loopw [6, 21] (fun bt jx wi => ∃ (b : Nat) (t : Bool), b ≤ F.op.length ∧ jx = .int .i64 b ∧ bt = .bool t ∧ Hid (t = (List.range b).any (beatsB F a)) ∧ Kp wo wi) (fun _ jx _ => F.op.length - (intOf jx).toNat)
      case atStart => exact ⟨0, false, by omega, rfl, rfl, rfl, Kp.refl _⟩
      case round =>
        obtain ⟨b, t, hb, rfl, rfl, Ht, hkq⟩ := hrel
        have f0 := hkq.get q0; have f1 := hkq.get q1
        by_cases hlb : b < F.op.length
        · cases t
          · have r0 := cell_regrown f0; have r1 := cell_regrown f1
            have Cv := Lib.hid (fun (x y : Nat) (hx : x < F.op.length) (hy : y < F.op.length) (dd : Nat) (os : Array Obj) => Calls.regrown_of (votes_any _ F x y _ (((hFA.kp hkp).kp hkq).kp (kp_rg wr dd os)) Hg.out hx hy))
            go_wp2_with fail
            refine wp_region_quiet_below (by kernel_rfl) (by kernel_rfl) ?_
            repeat (quiet_step (with_reducible exact Cv.out _ _ (by assumption) (by assumption) _ _))
            refine wpQuiet_nil ?_
            intro wq hw'
            have hkz := kp_of_rg hw'
            clear hw' r0 r1 Cv
            go_wp2_with fail
            go_roundw
            case rel =>
              refine ⟨b + 1, beatsB F a b, by omega, by go_num, ?_, ?_, hkq.trans hkz⟩
              · simp [beatsB]
              · show beatsB F a b = _
                rw [any_range_succ, ← Ht.out, Bool.false_or]
            case measure => simp [intOf]; omega
          · go_wp2_with fail
            go_quiet (fail)
            go_wp2_with fail
            go_roundw
            case rel =>
              refine ⟨b + 1, true, by omega, by go_num, rfl, ?_, hkq.drewN _⟩
              show true = _
              rw [any_range_succ, ← Ht.out, Bool.true_or]
            case measure => simp [intOf]; omega
        · obtain rfl : b = F.op.length := by omega
          have ho2 := hown.kp hkq
          have hk3 := hkp.trans hkq
          have hlen := unbTo_len F a
          have hbl : w.heap.size + 1 ≤ wr.heap.size := Nat.le_trans hs1 hk3.le
          cases t
          · have hu : Hid (unbB F a = true) := by show unbB F a = true; rw [unbB, ← Ht.out]; rfl
            go_wp2_with (at_builtin; go_loud (refine wpl_app rfl (.tmp 39) (.tmp 41) rfl (w.heap.size + 1) _ (unbTo F a) a rfl rfl ho2 hbl (by omega) ?_); intro v' w' ho' ht' _; have hk4 := ho2.kp_turn hk3 hs2 ht')
            go_roundw
            case rel => exact ⟨a + 1, by omega, by go_num, by rw [unbTo_yes hu.out]; exact ho', hk4⟩
            case measure => simp [intOf]; omega
          · have hu : Hid (unbB F a = false) := by show unbB F a = false; rw [unbB, ← Ht.out]; rfl
            go_wp2_with fail
            go_roundw
            case rel => exact ⟨a + 1, by omega, by go_num, by rw [unbTo_no hu.out]; exact ho2, hk3⟩
            case measure => simp [intOf]; omega
    · obtain rfl : a = F.op.length := by omega
      go_wp2_with fail
      go_ret2
      exact ⟨_, by rw [Hg.out]; rfl, by rw [unbL_yes Hg.out]; exact hown.mono (Nat.le_succ _), hk0.trans hkp⟩
end Go.Proofs.Ytcccmndkolmboaa

namespace Go.Proofs.Ytcccmndkolmboaa
open Go.RowKit Go.Sort

theorem ofInt_u64 (a : Nat) (ha : a < 18446744073709551616) : (BitVec.ofInt 64 (a : Int)).toNat = a := by
  rw [BitVec.ofInt_natCast, BitVec.toNat_ofNat]; exact Nat.mod_eq_of_lt ha
theorem u64_and_nat (a b : Nat) (ha : a < 18446744073709551616) (hb : b < 18446744073709551616) : bits .and .u64 (a : Int) (b : Int) = ((a &&& b : Nat) : Int) := by
  have hx : a &&& b < 2 ^ 64 := Nat.and_lt_two_pow _ (by omega)
  show IntKind.u64.wrap ((BitVec.ofInt 64 (a : Int) &&& BitVec.ofInt 64 (b : Int)).toNat : Int) = _
  rw [BitVec.toNat_and, ofInt_u64 a ha, ofInt_u64 b hb, IntKind.wrap_u64]
  omega
theorem u64_or_nat (a b : Nat) (ha : a < 18446744073709551616) (hb : b < 18446744073709551616) : bits .or .u64 (a : Int) (b : Int) = ((a ||| b : Nat) : Int) := by
  have hx : a ||| b < 2 ^ 64 := Nat.or_lt_two_pow (by omega) (by omega)
  show IntKind.u64.wrap ((BitVec.ofInt 64 (a : Int) ||| BitVec.ofInt 64 (b : Int)).toNat : Int) = _
  rw [BitVec.toNat_or, ofInt_u64 a ha, ofInt_u64 b hb, IntKind.wrap_u64]
  omega
theorem div_pow_nat (b x : Nat) : ((b : Int) / 2 ^ x) = ((b / 2 ^ x : Nat) : Int) := by
  rw [Int.natCast_ediv]; simp
theorem bit_one (b x : Nat) : (((b / 2 ^ x &&& 1 : Nat) : Int) == 1) = b.testBit x := by
  rw [Nat.testBit_eq_decide_div_mod_eq, Nat.and_one_is_mod]
  generalize b / 2 ^ x % 2 = r
  rw [Bool.eq_iff_iff, beq_iff_eq, decide_eq_true_eq]
  constructor <;> intro h <;> omega
theorem u64_has (b x : Nat) (hb : b < 18446744073709551616) : (bits BinOp.and IntKind.u64 ((b : Int) / 2 ^ x) 1 == 1) = b.testBit x := by
  have h : b / 2 ^ x < 18446744073709551616 := Nat.lt_of_le_of_lt (Nat.div_le_self _ _) hb
  have := u64_and_nat (b / 2 ^ x) 1 h (by omega)
  rw [div_pow_nat, show (1 : Int) = ((1 : Nat) : Int) from rfl, this]
  exact bit_one b x
theorem i64_has (b x : Nat) (hb : b < 9223372036854775808) : (bits BinOp.and IntKind.i64 ((b : Int) / 2 ^ x) 1 == 1) = b.testBit x := by
  have h : b / 2 ^ x < 9223372036854775808 := Nat.lt_of_le_of_lt (Nat.div_le_self _ _) hb
  have := i64_and_nat (b / 2 ^ x) 1 h (by omega)
  rw [div_pow_nat, show (1 : Int) = ((1 : Nat) : Int) from rfl, this]
  exact bit_one b x
theorem u64_one_shl (a : Int) (h0 : 0 ≤ a) (h1 : a < 32) : IntKind.u64.wrap (2 ^ a.toNat) = ((2 ^ a.toNat : Nat) : Int) := by
  have h : 2 ^ a.toNat ≤ 2 ^ 31 := Nat.pow_le_pow_right (by omega) (by omega)
  have h2 : ((2 ^ a.toNat : Nat) : Int) = 2 ^ a.toNat := by simp
  rw [← h2, IntKind.wrap_u64]
  generalize 2 ^ a.toNat = q at h
  omega
theorem bag_next {S : List Int} {k : Nat} (hk : k < S.length) : bagN (S.take (k + 1)) = bagN (S.take k) ||| 2 ^ (S[k]).toNat := by
  rw [List.take_succ_eq_append_getElem hk, bagN, bagTo, List.foldl_append]; rfl

theorem has_any (b x : Nat) (w : World) (hb : b < 18446744073709551616) (hx : x < 64) :
    Calls Try.prog 64 #[.int .u64 b, .int .i64 x] w fun e w' => e = .returned (.bool (b.testBit x)) ∧ w = w' := by
  go_enter Try.func64, Try.ntmps64
  have H := Lib.hid (u64_has b x hb)
  go_wp2_with fail
  go_ret
  exact ⟨ret_bool H.out, rfl⟩

/-- The members of a set, rising. -/
theorem div_pow_pos {b x n : Nat} (h : 0 < b / 2 ^ x) (hb : b < 2 ^ n) : x < n := by
  rcases Nat.lt_or_ge x n with h1 | h1
  · exact h1
  · have h2 : 2 ^ n ≤ 2 ^ x := Nat.pow_le_pow_right (by omega) h1
    rw [Nat.div_eq_of_lt (by omega)] at h; omega
theorem div_pow_zero {b x : Nat} (h : ¬ 0 < b / 2 ^ x) : b < 2 ^ x := by
  rcases Nat.lt_or_ge b (2 ^ x) with h1 | h1
  · exact h1
  · have := Nat.div_pos h1 (Nat.two_pow_pos x); omega

set_option maxRecDepth 100000 in
set_option maxHeartbeats 1000000 in
theorem list_any (b n : Nat) (w : World) (hb : b < 2 ^ n) (hn : n ≤ 32) :
    Calls Try.prog 55 #[.int .u64 b] w fun e w' => ∃ v, e = .returned v ∧ Own w' w.heap.size v (bitsL n b) ∧ Kp w w' := by
  have hb32 : b < 4294967296 := Nat.lt_of_lt_of_le hb (Nat.le_trans (Nat.pow_le_pow_right (by omega) hn) (by decide))
  have Hb := Lib.hid hb
  clear hb
  go_enter Try.func55, Try.ntmps55
  go_wp2_with fail
  go_loopw [3, 4] (fun ov iv wr => ∃ k : Nat, k ≤ n ∧ iv = .int .i64 k ∧ Own wr w.heap.size ov (bitsL k b) ∧ Kp w wr) (fun _ iv _ => n + 1 - (intOf iv).toNat)
  case atStart => exact ⟨0, by omega, rfl, own_new0 _ _ (Nat.le_refl _), (Kp.refl _).alloc _⟩
  case round =>
    obtain ⟨k, hk, rfl, ho, hkp⟩ := hrel
    have hq := Lib.hid (div_pow_nat b k)
    by_cases hlt : 0 < b / 2 ^ k
    · have hkn := div_pow_pos hlt Hb.out
      have t0 : (0 : Int) < (b : Int) / 2 ^ k := by rw [hq.out]; omega
      have t1 : decide ((0 : Int) < (b : Int) / 2 ^ k) = true := by simpa using t0
      have hlen := bitsL_len k b
      have hlen2 : (bitsL k b).length < 1048576 := by omega
      clear hlt
      go_wp2_with fail
      have CC := Lib.hid (has_any b k wr (by omega) (by omega))
      with_reducible refine Calls.mono CC.out ?_
      rintro e w1 ⟨rfl, hw⟩
      obtain rfl := hw
      clear CC t0 t1
      cases ht : b.testBit k
      · have Hno := Lib.hid (bitsL_no ht)
        clear ht
        go_wp2_with fail
        go_roundw
        case rel => exact ⟨k + 1, by omega, by go_num, by rw [Hno.out]; exact ho, hkp⟩
        case measure => simp [intOf]; omega
      · have Hyes := Lib.hid (bitsL_yes ht)
        clear ht
        go_wp2_with (at_builtin; refine wpl_app rfl (.tmp 15) (.tmp 17) rfl w.heap.size _ (bitsL k b) k rfl rfl ho hkp.le hlen2 ?_; intro v' w' ho' ht' _; have hk4 := ho.kp_turn hkp (Nat.le_refl _) ht')
        go_roundw
        case rel => exact ⟨k + 1, by omega, by go_num, by rw [Hyes.out]; exact ho', hk4⟩
        case measure => simp [intOf]; omega
    · have hz := Lib.hid (div_pow_zero hlt)
      have t0 : ¬ (0 : Int) < (b : Int) / 2 ^ k := by rw [hq.out]; omega
      have t1 : decide ((0 : Int) < (b : Int) / 2 ^ k) = false := by simpa using t0
      clear hlt
      go_wp2_with fail
      go_ret
      exact ⟨_, rfl, by rw [bitsL_more hz.out hk]; exact ho, hkp⟩

/-- A number sought in a list. -/
def idxTo (S : List Int) (a : Int) (k : Nat) : Bool := (S.take k).any (fun x => x == a)
end Go.Proofs.Ytcccmndkolmboaa

namespace Go.Proofs.Ytcccmndkolmboaa
def lget (xs : List Int) (k : Nat) : Int := xs.getD k 0
theorem lget_at {xs : List Int} {k : Nat} (h : k < xs.length) : lget xs k = xs[k] := by simp [lget, List.getD, h]
end Go.Proofs.Ytcccmndkolmboaa

namespace Go.Proofs.Ytcccmndkolmboaa
open Go.RowKit Go.Sort

set_option maxHeartbeats 400000 in
theorem sumL_any (A0 : Option Addr) (L : List Int) (n c0 : Nat) (w : World) (hL : IntsAt w A0 L) (hn : L.length = n) (hb : ∀ k, k ≤ n → -1000000000 ≤ (L.take k).sum ∧ (L.take k).sum ≤ 1000000000) (he : ∀ x ∈ L, -1000000000 ≤ x ∧ x ≤ 1000000000) :
    Calls Try.prog 58 #[.slice A0 n c0] w fun e w' => e = .returned (.int .i64 L.sum) ∧ w = w' := by
  have hm : n ≤ 9223372036854775807 := hn ▸ hL.1
  have Hn := Lib.hid hn; have Hb := Lib.hid hb; have He := Lib.hid he
  clear hn hb he
  go_enter Try.func58, Try.ntmps58
  go_wp2_with fail
  go_loop [3, 8] (fun sv iv => ∃ k : Nat, k ≤ n ∧ iv = .int .i64 k ∧ sv = .int .i64 (L.take k).sum) (fun _ iv => n - (intOf iv).toNat)
  case atStart => exact ⟨0, by omega, rfl, rfl⟩
  case round =>
    obtain ⟨k, hk, rfl, rfl⟩ := hrel
    by_cases hlt : k < n
    · have lx : k < L.length := by rw [Hn.out]; exact hlt
      obtain ⟨ad, rfl, hc⟩ := hL.at_ lx
      obtain ⟨b1, b2⟩ := Hb.out k hk
      obtain ⟨b3, b4⟩ := He.out _ (List.getElem_mem lx)
      have hsu : Hid ((L.take (k + 1)).sum = (L.take k).sum + L[k]) := by show _ = _; rw [List.take_succ_eq_append_getElem lx, List.sum_append]; simp
      generalize (L.take k).sum = q at *
      go_wp2_with fail
      go_round
      case rel => exact ⟨k + 1, by omega, by go_num, by rw [hsu.out]⟩
      case measure => simp [intOf]; omega
    · have htk := Lib.hid (show (L.take k).sum = L.sum from by rw [List.take_of_length_le (by rw [Hn.out]; omega)])
      go_wp2_with fail
      go_ret
      exact ⟨ret_int htk.out, rfl⟩
end Go.Proofs.Ytcccmndkolmboaa

namespace Go.Proofs.Ytcccmndkolmboaa
open Go.RowKit Go.Sort

/-- The service of a set. -/
def serveF (F : Fld) (T : List Int) : Int := sumTo (fun i => nearF F i T) F.di.length
theorem serveF_bd {F : Fld} (h : goodF F = true) (T : List Int) : 0 ≤ serveF F T ∧ serveF F T ≤ 693 := by
  have h1 := sumTo_bd (g := fun i => nearF F i T) (b := 99) (fun i => nearF_bd h T i) F.di.length
  have h7 := (goodF_iff.1 h).2.2.1
  unfold serveF; omega
theorem mapTo_take (g : Nat → Int) (n k : Nat) (h : k ≤ n) : (mapTo g n).take k = mapTo g k := by
  induction n with
  | zero => obtain rfl : k = 0 := by omega
            rfl
  | succ n ih =>
    by_cases e : k = n + 1
    · subst e; rw [List.take_of_length_le (by rw [mapTo_len]; omega)]
    · rw [mapTo_succ, List.take_append_of_le_length (by rw [mapTo_len]; omega)]
      exact ih (by omega)
theorem mem_mapTo {g : Nat → Int} {x : Int} : ∀ {n : Nat}, x ∈ mapTo g n → ∃ i, i < n ∧ x = g i
  | 0, h => by cases h
  | n + 1, h => by
    rw [mapTo_succ, List.mem_append] at h
    rcases h with h | h
    · obtain ⟨i, hi, e⟩ := mem_mapTo h
      exact ⟨i, by omega, e⟩
    · exact ⟨n, by omega, by simpa using h⟩
set_option maxHeartbeats 400000 in
theorem service_any (f : Value) (F : Fld) (A0 : Option Addr) (T : List Int) (n c0 : Nat) (w : World) (hf : FldAt w f F) (hT : IntsAt w A0 T) (hn : T.length = n) (hg : goodF F = true) (hs : setB F T = true) (hne : T ≠ []) :
    Calls Try.prog 48 #[f, .slice A0 n c0] w fun e w' => e = .returned (.int .i64 (serveF F T)) ∧ Kp w w' := by
  have h7 := (goodF_iff.1 hg).2.2.1
  obtain ⟨A, c, B, d, rfl, hA, hB⟩ := hf
  have hk0 : Kp w (w.alloc (.cells #[.slice A F.op.length c, .slice B F.di.length d] 27)) := (Kp.refl w).alloc _
  obtain ⟨d0, d1⟩ := box2 w (.slice A F.op.length c) (.slice B F.di.length d) 27
  have hFA := FldAt.kp (show FldAt w (.agg #[.slice A F.op.length c, .slice B F.di.length d]) F from ⟨A, c, B, d, rfl, hA, hB⟩) hk0
  replace hT := hT.kp hk0
  have HG := Lib.hid hg; have HS := Lib.hid hs; have HE := Lib.hid hne; have Hn := Lib.hid hn
  clear hA hB hg hs hne hn
  go_enter Try.func48, Try.ntmps48
  go_wp2_with fail
  have hsz : Hid ((w.alloc (.cells #[.slice A F.op.length c, .slice B F.di.length d] 27)).heap.size = w.heap.size + 1) := by show _ = _; simp
  generalize w.alloc (.cells #[.slice A F.op.length c, .slice B F.di.length d] 27) = wb at *
  have hkb : Kp wb wb := Kp.refl _
  have hkw := hk0
  have CC := Lib.hid (lengths_any _ F A0 T n c0 _ (hFA.kp hkb) (hT.kp hkb) Hn.out HG.out HS.out HE.out)
  with_reducible refine Calls.mono CC.out ?_
  rintro e w1 ⟨v, rfl, ho, hk1⟩
  clear CC
  replace hkb := hkb.trans hk1
  obtain ⟨Av, cv, hve, hiv⟩ := ho.ints (by rw [mapTo_len]; omega)
  subst hve
  have CC := Lib.hid (sumL_any Av _ _ cv w1 hiv rfl (fun k hk => by
    rw [mapTo_len] at hk
    rw [mapTo_take _ _ _ hk]
    have h1 := sumTo_bd (g := fun i => nearF F i T) (b := 99) (fun i => nearF_bd HG.out T i) k
    unfold sumTo at h1
    omega) (fun x hx => by
    obtain ⟨i, _, rfl⟩ := mem_mapTo hx
    have := nearF_bd HG.out T i
    omega))
  have q_d0 := hkb.get d0
  have q_d1 := hkb.get d1
  go_wp2_with fail
  with_reducible refine Calls.mono CC.out ?_
  rintro e w2 ⟨rfl, hw⟩
  obtain rfl := hw
  clear CC
  go_wp2_with fail
  go_ret
  exact ⟨rfl, hkw.trans hkb⟩

end Go.Proofs.Ytcccmndkolmboaa

namespace Go.Proofs.Ytcccmndkolmboaa
open Go.RowKit Go.Sort

/-- Which of two lists comes first, number by number. -/
def lexC : List Int → List Int → Int
  | [], [] => 0
  | [], _ :: _ => -1
  | _ :: _, [] => 1
  | x :: xs, y :: ys => if x < y then -1 else if y < x then 1 else lexC xs ys
theorem lexC_anti : ∀ a b : List Int, lexC b a = - lexC a b
  | [], [] => rfl
  | [], _ :: _ => rfl
  | _ :: _, [] => rfl
  | x :: xs, y :: ys => by
    unfold lexC
    have ih := lexC_anti xs ys
    by_cases h1 : x < y
    · simp [h1, show ¬ y < x by omega]
    · by_cases h2 : y < x
      · simp [h1, h2]
      · simp [h1, h2]; exact ih
theorem lexC_zero : ∀ a b : List Int, lexC a b = 0 → a = b
  | [], [], _ => rfl
  | [], _ :: _, h => by simp [lexC] at h
  | _ :: _, [], h => by simp [lexC] at h
  | x :: xs, y :: ys, h => by
    unfold lexC at h
    by_cases h1 : x < y
    · rw [if_pos h1] at h; omega
    · by_cases h2 : y < x
      · rw [if_neg h1, if_pos h2] at h; omega
      · rw [if_neg h1, if_neg h2] at h
        rw [lexC_zero xs ys h, show x = y by omega]
theorem lexC_trans : ∀ a b c : List Int, lexC a b < 0 → lexC b c < 0 → lexC a c < 0
  | [], [], _, h, _ => by simp [lexC] at h
  | [], _ :: _, [], _, h => by simp [lexC] at h
  | [], _ :: _, _ :: _, _, _ => by simp [lexC]
  | _ :: _, [], _, h, _ => by simp [lexC] at h
  | _ :: _, _ :: _, [], _, h => by simp [lexC] at h
  | x :: xs, y :: ys, z :: zs, h, h' => by
    unfold lexC at h h' ⊢
    have ih := lexC_trans xs ys zs
    by_cases h1 : x < y
    · by_cases h2 : z < y
      · rw [if_neg (by omega), if_pos h2] at h'; omega
      · rw [if_pos (by omega)]; omega
    · by_cases h2 : y < x
      · rw [if_neg h1, if_pos h2] at h; omega
      · rw [if_neg h1, if_neg h2] at h
        have e : x = y := by omega
        subst e
        by_cases h3 : x < z
        · rw [if_pos h3]; omega
        · by_cases h4 : z < x
          · rw [if_neg h3, if_pos h4] at h'; omega
          · rw [if_neg h3, if_neg h4] at h' ⊢
            exact ih h h'
/-- First by how many there are, then number by number. -/
def cmpS (a b : List Int) : Int := if a.length < b.length then -1 else if b.length < a.length then 1 else lexC a b
def befB (a b : List Int) : Bool := decide (cmpS a b < 0)
theorem cmpS_anti (a b : List Int) : cmpS b a = - cmpS a b := by
  unfold cmpS
  by_cases h1 : a.length < b.length
  · simp [h1, show ¬ b.length < a.length by omega]
  · by_cases h2 : b.length < a.length
    · simp [h1, h2]
    · simp [h1, h2]; exact lexC_anti a b
theorem cmpS_zero {a b : List Int} (h : cmpS a b = 0) : a = b := by
  unfold cmpS at h
  by_cases h1 : a.length < b.length
  · rw [if_pos h1] at h; omega
  · by_cases h2 : b.length < a.length
    · rw [if_neg h1, if_pos h2] at h; omega
    · rw [if_neg h1, if_neg h2] at h; exact lexC_zero a b h
theorem cmpS_trans {a b c : List Int} (h : cmpS a b < 0) (h' : cmpS b c < 0) : cmpS a c < 0 := by
  unfold cmpS at *
  by_cases h1 : a.length < c.length
  · rw [if_pos h1]; omega
  · have hb : ¬ b.length < a.length := fun hh => by rw [if_neg (by omega), if_pos hh] at h; omega
    have hc : ¬ c.length < b.length := fun hh => by rw [if_neg (by omega), if_pos hh] at h'; omega
    rw [if_neg (by omega), if_neg hb] at h
    rw [if_neg (by omega), if_neg hc] at h'
    rw [if_neg h1, if_neg (by omega)]
    exact lexC_trans a b c h h'
theorem befB_irrefl (a : List Int) : befB a a = false := by
  have := cmpS_anti a a
  simp [befB]; omega
theorem befB_trans {a b c : List Int} (h : befB a b = true) (h' : befB b c = true) : befB a c = true := by
  simp only [befB, decide_eq_true_eq] at *; exact cmpS_trans h h'
theorem befB_total {a b : List Int} (h : befB a b = false) (h' : befB b a = false) : a = b := by
  simp only [befB, decide_eq_false_iff_not] at *
  have := cmpS_anti a b
  exact cmpS_zero (by omega)
theorem befB_asymm {a b : List Int} (h : befB a b = true) : befB b a = false := by
  cases h' : befB b a with
  | false => rfl
  | true => have := befB_trans h h'; rw [befB_irrefl] at this; cases this
/-- What is not behind. -/
def notB (a b : List Int) : Bool := !befB b a
theorem notB_trans (a b c : List Int) (h : notB a b = true) (h' : notB b c = true) : notB a c = true := by
  simp only [notB, Bool.not_eq_true'] at *
  by_cases e1 : a = b
  · subst e1; exact h'
  by_cases e2 : b = c
  · subst e2; exact h
  have g1 : befB a b = true := by
    cases hh : befB a b with
    | true => rfl
    | false => exact absurd (befB_total hh h) e1
  have g2 : befB b c = true := by
    cases hh : befB b c with
    | true => rfl
    | false => exact absurd (befB_total hh h') e2
  exact befB_asymm (befB_trans g1 g2)
theorem notB_total (a b : List Int) : (notB a b || notB b a) = true := by
  cases h : befB b a with
  | false => simp [notB, h]
  | true => simp [notB, befB_asymm h]
/-- The codes of the sets with at least one member, in the order of codes. -/
def codesL (n : Nat) : List (List Int) := (List.range (2 ^ n - 1)).map fun c => bitsL n (c + 1)
def setsL (n : Nat) : List (List Int) := (codesL n).mergeSort notB
theorem setsL_perm (n : Nat) : (setsL n).Perm (codesL n) := List.mergeSort_perm _ _
theorem setsL_len (n : Nat) : (setsL n).length = 2 ^ n - 1 := by rw [(setsL_perm n).length_eq]; simp [codesL]
theorem bitsL_inj {n a b : Nat} (ha : a < 2 ^ n) (hb : b < 2 ^ n) (h : bitsL n a = bitsL n b) : a = b := by
  apply Nat.eq_of_testBit_eq
  intro i
  by_cases hi : i < n
  · have h1 := mem_bitsL (n := n) (b := a) (x := (i : Int))
    have h2 := mem_bitsL (n := n) (b := b) (x := (i : Int))
    rw [h] at h1
    have h3 := h1.symm.trans h2
    rw [Bool.eq_iff_iff]
    simp only [Int.toNat_natCast] at h3
    constructor
    · intro hx; exact (h3.1 ⟨by omega, by omega, hx⟩).2.2
    · intro hx; exact (h3.2 ⟨by omega, by omega, hx⟩).2.2
  · rw [Nat.testBit_lt_two_pow (Nat.lt_of_lt_of_le ha (Nat.pow_le_pow_right (by omega) (by omega))), Nat.testBit_lt_two_pow (Nat.lt_of_lt_of_le hb (Nat.pow_le_pow_right (by omega) (by omega)))]
theorem codesL_nodup (n : Nat) : (codesL n).Nodup := by
  unfold codesL List.Nodup
  rw [List.pairwise_map]
  refine (List.pairwise_iff_getElem.2 ?_)
  intro i j hi hj hij e
  have hi' : i < 2 ^ n - 1 := by simpa using hi
  have hj' : j < 2 ^ n - 1 := by simpa using hj
  simp only [List.getElem_range] at e
  have := bitsL_inj (n := n) (by omega) (by omega) e
  omega
theorem setsL_nodup (n : Nat) : (setsL n).Nodup := (setsL_perm n).nodup_iff.2 (codesL_nodup n)
theorem setsL_sorted (n : Nat) : (setsL n).Pairwise (fun a b => befB a b = true) := by
  have h1 : (setsL n).Pairwise (fun a b => notB a b = true) := List.pairwise_mergeSort notB_trans notB_total _
  have h2 := setsL_nodup n
  rw [List.pairwise_iff_getElem] at h1 ⊢
  unfold List.Nodup at h2
  rw [List.pairwise_iff_getElem] at h2
  intro i j hi hj hij
  have h3 := h1 i j hi hj hij
  have h4 := h2 i j hi hj hij
  simp only [notB, Bool.not_eq_true'] at h3
  cases hh : befB (setsL n)[i] (setsL n)[j] with
  | true => rfl
  | false => exact absurd (befB_total hh h3) h4
/-- There is one list of all sets in order. -/
theorem setsL_uniq {n : Nat} {l : List (List Int)} (hp : l.Perm (codesL n)) (hs : l.Pairwise (fun a b => befB a b = true)) : l = setsL n :=
  List.Perm.eq_of_pairwise (le := fun a b => befB a b = true) (fun a b _ _ h h' => by have := befB_asymm h; rw [h'] at this; cases this) hs (setsL_sorted n) (hp.trans (setsL_perm n).symm)
theorem mem_codesL {n : Nat} {S : List Int} : S ∈ codesL n ↔ S ≠ [] ∧ risB S 0 ((n : Int) - 1) = true := by
  constructor
  · intro h
    simp only [codesL, List.mem_map, List.mem_range] at h
    obtain ⟨c, hc, rfl⟩ := h
    refine ⟨fun e => ?_, bitsL_ris _ _ _ (Int.le_refl _)⟩
    have h0 : bitsL n 0 = [] := by simp [bitsL, bitsN]
    have := bitsL_inj (n := n) (a := c + 1) (b := 0) (by omega) (Nat.two_pow_pos n) (e.trans h0.symm)
    omega
  · rintro ⟨hne, hr⟩
    have hr' := ris_iff.1 hr
    have hm : ∀ y ∈ S, 0 ≤ y ∧ y < n := fun y hy => by have := hr'.2 y hy; omega
    have hb := bits_bag hr'.1 hm
    have hlt := bagN_lt hm
    simp only [codesL, List.mem_map, List.mem_range]
    have hpos : 0 < bagN S := by
      rcases Nat.eq_zero_or_pos (bagN S) with h | h
      · rw [h] at hb; exact absurd (by rw [← hb]; simp [bitsL, bitsN]) hne
      · exact h
    exact ⟨bagN S - 1, by omega, by rw [Nat.sub_add_cancel hpos]; exact hb⟩
theorem mem_setsL {n : Nat} {S : List Int} : S ∈ setsL n ↔ S ≠ [] ∧ risB S 0 ((n : Int) - 1) = true := (setsL_perm n).mem_iff.trans mem_codesL
theorem risB_len {n : Nat} {S : List Int} (h : risB S 0 ((n : Int) - 1) = true) : S.length ≤ n := by
  have hr' := ris_iff.1 h
  have hm : ∀ y ∈ S, 0 ≤ y ∧ y < n := fun y hy => by have := hr'.2 y hy; omega
  have := bitsL_len n (bagN S)
  rwa [bits_bag hr'.1 hm] at this
/-- The first one with the least value. -/
def bestStep (v : List Int → Int) (b s : List Int) : List Int := if v s < v b then s else b
def bestL (v : List Int → Int) (l : List (List Int)) : List Int := l.foldl (bestStep v) (l.getD 0 [])
end Go.Proofs.Ytcccmndkolmboaa

namespace Go.Proofs.Ytcccmndkolmboaa
open Go.RowKit Go.Sort Go.Shelf

/-- Draws, and new blocks behind. -/
def Gw (w w' : World) : Prop := ∃ q os, w' = grow (w.drewN q) os
theorem Gw.refl (w : World) : Gw w w := ⟨0, #[], by rw [grow_empty]; rfl⟩
theorem Gw.drewN {a w : World} (h : Gw a w) (n : Nat) : Gw a (w.drewN n) := by
  obtain ⟨q, os, rfl⟩ := h
  refine ⟨q + n, os, ?_⟩
  rw [← World.drewN_drewN]; rfl
theorem Gw.drew {a w : World} (h : Gw a w) : Gw a w.drew := h.drewN 1
theorem Gw.alloc {a w : World} (h : Gw a w) (o : Obj) : Gw a (w.alloc o) := by
  obtain ⟨q, os, rfl⟩ := h
  refine ⟨q, os ++ #[o], ?_⟩
  rw [alloc_eq_grow, grow_grow]
theorem Gw.trans {a b c : World} (h : Gw a b) (k : Gw b c) : Gw a c := by
  obtain ⟨q, os, rfl⟩ := h
  obtain ⟨q2, os2, rfl⟩ := k
  refine ⟨q + q2, os ++ os2, ?_⟩
  rw [← grow_grow, ← World.drewN_drewN]; rfl
theorem Gw.kp {w w' : World} (h : Gw w w') : Kp w w' := by
  obtain ⟨q, os, rfl⟩ := h
  exact ⟨rfl, rfl, rfl, by simp, fun i hi => heap_grow_old (w.drewN q) os hi⟩
theorem Gw.of_dr {w w' : World} (h : Dr w w') : Gw w w' := by
  obtain ⟨q, rfl⟩ := h; exact (Gw.refl w).drewN q

def rowD (rows : List (List Int)) (i : Nat) : List Int := rows.getD i []
def hdD (hs : List Value) (i : Nat) : Value := hs.getD i (.slice none 0 0)
def cmpD (rows : List (List Int)) (i j : Nat) : Int := cmpS (rowD rows i) (rowD rows j)
theorem swo_cmpD (rows : List (List Int)) : SWO (ltOf (cmpD rows)) where
  irrefl x := befB_irrefl _
  trans x y z h1 h2 := befB_trans (a := rowD rows x) (b := rowD rows y) (c := rowD rows z) h1 h2
  ntrans x y z h1 h2 := by
    have e1 : befB (rowD rows x) (rowD rows y) = false := h1
    have e2 : befB (rowD rows y) (rowD rows z) = false := h2
    have h3 := notB_trans (rowD rows z) (rowD rows y) (rowD rows x) (by simp [notB, e2]) (by simp [notB, e1])
    have h4 : befB (rowD rows x) (rowD rows z) = false := by simpa [notB] using h3
    exact h4
/-- The comparison as the sort calls it. -/
theorem cmp_lays {g blk base : Nat} {lo : Option Nat} {hs : List Value} {rows : List (List Int)} {v : Value} {w : World} (size : Nat)
    (hC : ∀ (A1 A2 : Option Addr) (xs ys : List Int) (n m c d : Nat) (W : World), IntsAt W A1 xs → xs.length = n → IntsAt W A2 ys → ys.length = m → Calls Try.prog g #[.slice A1 n c, .slice A2 m d] W fun e w' => e = .returned (.int .i64 (cmpS xs ys)) ∧ Gw W w')
    (h1 : w.ownsRow base 24 1 v rows.length hs)
    (h2 : ∀ j (hj : j < rows.length), ∃ u, hs[j]? = some u ∧ RowP w lo u rows[j] ∧ ((rows[j] ≠ [] ∨ lo ≠ none) → ∀ i, u.ownBlock = some i → blk ≠ i)) :
    CmpLays1 Try.prog g #[] (hdD hs) (cmpD rows) blk 0 size w := by
  intro m os dk _ x y
  have hW : ∀ i, i ≠ blk → i < w.heap.size → (sortWorld (hdD hs) w blk 0 m dk os).heap[i]? = w.heap[i]? := fun i hi hlt => by
    unfold sortWorld
    rw [heap_grow_old _ _ (by simpa using hlt)]
    simp [putRow, mapBlock, Sort.ahead, Array.getElem?_modify, Ne.symm hi]
  have hT : Turn (fun i => i = blk) w (sortWorld (hdD hs) w blk 0 m dk os) := ⟨rfl, rfl, rfl, by simp [sortWorld], fun i hi hn => hW i hn hi⟩
  have hlen : hs.length = rows.length := by rw [h1.1]; omega
  have key : ∀ i, ∃ A n c, hdD hs i = .slice A n c ∧ (rowD rows i).length = n ∧ IntsAt (sortWorld (hdD hs) w blk 0 m dk os) A (rowD rows i) := fun i => by
    by_cases hi : i < rows.length
    · obtain ⟨u, e1, e2, e3⟩ := h2 i hi
      have er : rowD rows i = rows[i] := by simp [rowD, List.getD, hi]
      obtain ⟨A, c, rfl, _, e5⟩ := (e2.turn hT (fun hn g hg hh => e3 hn g hg hh.symm)).read
      refine ⟨A, rows[i].length, c, by simp [hdD, List.getD, e1], by rw [er], ?_⟩
      rw [er]
      exact e5
    · refine ⟨none, 0, 0, ?_, ?_, ?_⟩
      · simp [hdD, List.getD, List.getElem?_eq_none (show hs.length ≤ i by omega)]
      · simp [rowD, List.getD, List.getElem?_eq_none (show rows.length ≤ i by omega)]
      · have : rowD rows i = [] := by simp [rowD, List.getD, List.getElem?_eq_none (show rows.length ≤ i by omega)]
        rw [this]; exact IntsAt.nil _ _
  obtain ⟨A1, n1, c1, e1, l1, i1⟩ := key x
  obtain ⟨A2, n2, c2, e2, l2, i2⟩ := key y
  rw [e1, e2]
  exact hC A1 A2 _ _ n1 n2 c1 c2 _ i1 l1 i2 l2
/-- Behind the sort the same slice holds all the rows in order. -/
theorem gown_sorted {g cap base : Nat} {lo : Option Nat} {rows : List (List Int)} {hs : List Value} {w : World} {n : Nat} {os : Array Obj} {d' : Array Nat}
    (h1 : w.ownsRow base 24 1 (.slice (some ⟨g, 0, none⟩) rows.length cap) rows.length hs)
    (h2 : ∀ j (hj : j < rows.length), ∃ u, hs[j]? = some u ∧ RowP w lo u rows[j] ∧ ((rows[j] ≠ [] ∨ lo ≠ none) → ∀ i, u.ownBlock = some i → (Value.slice (some ⟨g, 0, none⟩) rows.length cap).ownBlock ≠ some i))
    (hp : PermIn 0 rows.length (Array.range rows.length) d') :
    GOwn (sortWorld (hdD hs) w g 0 n d' os) lo base (.slice (some ⟨g, 0, none⟩) rows.length cap) (d'.toList.map (rowD rows)) := by
  obtain ⟨hsz, _, hperm⟩ := hp
  have hlen : hs.length = rows.length := by rw [h1.1]; omega
  have hd : d'.size = rows.length := by simpa using hsz
  have hmem : ∀ i (hi : i < d'.size), d'[i] < rows.length := fun i hi => by
    have e : (d'.extract 0 rows.length) = d' := by rw [← hd]; simp
    rw [e] at hperm
    have h3 : d'[i] ∈ (Array.range rows.length).extract 0 rows.length := by
      have := hperm.subset (Array.getElem_mem_toList hi)
      simpa using this
    have e2 : (Array.range rows.length).extract 0 rows.length = Array.range rows.length := by
      have : rows.length = (Array.range rows.length).size := by simp
      conv => lhs; rw [this]
      simp
    rw [e2] at h3
    simpa using h3
  have hs0 : hs = (List.range rows.length).map (hdD hs) := by
    apply List.ext_getElem
    · simp [hlen]
    · intro i hi hi2
      simp [hdD, List.getD, hi]
  have h1' : w.ownsRow base 24 1 (.slice (some ⟨g, 0, none⟩) rows.length cap) rows.length ((List.range rows.length).map (hdD hs)) := by rw [← hs0]; exact h1
  have h3 := Lib.ownsRow_putRow (q := n) (k := rows.length) (ys := d'.toList) h1' (by simpa using hd) (Nat.le_refl _)
  rw [List.take_of_length_le (by simp; omega)] at h3
  have h4 := Lib.ownsRow_grow h3 0 os
  have hT : Turn (fun i => i = g) w (sortWorld (hdD hs) w g 0 n d' os) := ⟨rfl, rfl, rfl, by simp [sortWorld], fun i hi hn => by
    unfold sortWorld
    rw [heap_grow_old _ _ (by simpa using hi)]
    simp [putRow, mapBlock, Sort.ahead, Array.getElem?_modify, Ne.symm hn]⟩
  refine ⟨d'.toList.map (hdD hs), ?_, fun j hj => ?_⟩
  · have e : (d'.toList.map (rowD rows)).length = rows.length := by simp [hd]
    rw [e]
    exact h4
  · have hj' : j < d'.size := by simpa using hj
    have hm := hmem j hj'
    obtain ⟨u, e1, e2, e3⟩ := h2 _ hm
    have er : (d'.toList.map (rowD rows))[j] = rows[d'[j]] := by simp [rowD, List.getD, hm]
    rw [er]
    refine ⟨u, ?_, e2.turn hT (fun hn i hi hh => e3 hn i hi (by rw [hh]; rfl)), e3⟩
    simp [hj', hdD, List.getD, e1]
theorem perm_full {m : Nat} {d' : Array Nat} (hp : PermIn 0 m (Array.range m) d') : d'.toList.Perm (List.range m) := by
  obtain ⟨hsz, _, hperm⟩ := hp
  have hd : d'.size = m := by simpa using hsz
  have e : (d'.extract 0 m) = d' := by rw [← hd]; simp
  have e2 : (Array.range m).extract 0 m = Array.range m := by
    have : m = (Array.range m).size := by simp
    conv => lhs; rw [this]
    simp
  rw [e, e2] at hperm
  simpa using hperm
theorem rows_range (rows : List (List Int)) : (List.range rows.length).map (rowD rows) = rows := by
  apply List.ext_getElem
  · simp
  · intro i hi hi2
    simp [rowD, List.getD, hi2]
/-- Sorted, they are all sets in their order. -/
theorem sorted_sets {n : Nat} {rows : List (List Int)} {d' : Array Nat} (hr : rows.Perm (codesL n)) (hp : PermIn 0 rows.length (Array.range rows.length) d') (hs : SortedIn (ltOf (cmpD rows)) 0 rows.length d') : d'.toList.map (rowD rows) = setsL n := by
  have hsz : d'.size = rows.length := by have := hp.1; simpa using this
  have hperm : (d'.toList.map (rowD rows)).Perm rows := by
    have := (perm_full hp).map (rowD rows)
    rwa [rows_range] at this
  have hall := hperm.trans hr
  refine setsL_uniq hall ?_
  have hnd : (d'.toList.map (rowD rows)).Nodup := hall.nodup_iff.2 (codesL_nodup n)
  unfold List.Nodup at hnd
  rw [List.pairwise_iff_getElem] at hnd ⊢
  intro i j hi hj hij
  have h3 := hnd i j hi hj hij
  have hi' : i < d'.size := by simpa using hi
  have hj' : j < d'.size := by simpa using hj
  have h4 := hs i j (Nat.zero_le _) hij (by omega)
  rw [getElem!_pos d' i hi', getElem!_pos d' j hj'] at h4
  have h5 : befB (d'.toList.map (rowD rows))[j] (d'.toList.map (rowD rows))[i] = false := by
    rw [List.getElem_map, List.getElem_map]
    exact h4
  cases hh : befB (d'.toList.map (rowD rows))[i] (d'.toList.map (rowD rows))[j] with
  | true => rfl
  | false => exact absurd (befB_total hh h5) h3
end Go.Proofs.Ytcccmndkolmboaa

/- Votes of clients between two sites: the program's answer and the reference's. No condition. -/
import Derived.Test.YtiihkekicfpnoaaGood
import Derived.Test.YtiihkekicfpnoaaLawU
namespace Go.Proofs.Ytiihkekicfpnoaa
open Go.RowKit Go.Sort

def nearB (a b : Nat) (r : List Int) : Bool := decide (r.getD a 0 < r.getD b 0)
theorem nearB_val {r : List Int} {a b : Nat} (ha : a < r.length) (hb : b < r.length) : nearB a b r = decide (r[a] < r[b]) := by simp [nearB, List.getD, ha, hb]
/-- How many clients are nearer to a than to b. -/
def votesN (F : Fld) (a b : Nat) : Nat := F.di.countP (nearB a b)
theorem count_take_succ {α : Type} {p : α → Bool} {xs : List α} {k : Nat} (hk : k < xs.length) : (xs.take (k + 1)).countP p = (xs.take k).countP p + if p xs[k] then 1 else 0 := by
  rw [List.take_succ_eq_append_getElem hk, List.countP_append]; simp [List.countP_cons]
theorem good_row {F : Fld} (h : goodF F = true) {k : Nat} (hk : k < F.di.length) : F.di[k].length = F.op.length := ((goodF_iff.1 h).2.2.2 _ (List.getElem_mem hk)).2
theorem count_le_len {α : Type} (p : α → Bool) (xs : List α) (k : Nat) : (xs.take k).countP p ≤ k := Nat.le_trans List.countP_le_length (by rw [List.length_take]; omega)

set_option maxRecDepth 100000 in
set_option maxHeartbeats 1000000 in
theorem l9Votes_any (f : Value) (F : Fld) (a b : Nat) (w : World) (hf : FldAt w f F) (hg : goodF F = true) (ha : a < F.op.length) (hb : b < F.op.length) :
    Calls Try.prog 41 #[f, .int .i64 a, .int .i64 b] w fun e w' => e = .returned (.int .i64 (votesN F a b)) ∧ Kp w w' := by
  obtain ⟨A, c, B, d, rfl, hA, hB⟩ := hf
  have hk0 : Kp w (w.alloc (.cells #[.slice A F.op.length c, .slice B F.di.length d] 34)) := (Kp.refl w).alloc _
  have d1 : (w.alloc (.cells #[.slice A F.op.length c, .slice B F.di.length d] 34)).cell? ⟨w.heap.size, 1, none⟩ = some (.slice B F.di.length d) := by
    rw [World.cell?_alloc_at _ _ _ _ rfl]; rfl
  have hG := goodF_iff.1 hg
  have hn7 := hG.1.2
  have hd7 := hG.2.2.1
  have HG := Lib.hid hg; clear hg hG
  go_enter Try.func41, Try.ntmps41
  go_wp2_with fail
  go_loopw [7, 8] (fun cv i wr => ∃ k : Nat, k ≤ F.di.length ∧ i = .int .i64 k ∧ cv = .int .i64 ((F.di.take k).countP (nearB a b)) ∧ Dr (w.alloc (.cells #[.slice A F.op.length c, .slice B F.di.length d] 34)) wr) (fun _ i _ => F.di.length - (intOf i).toNat)
  case atStart => exact ⟨0, by omega, rfl, by simp, Dr.refl _⟩
  case round =>
    obtain ⟨k, hk, rfl, rfl, hdr⟩ := hrel
    have hb1 := hdr.kp.get d1
    by_cases hlt : k < F.di.length
    · obtain ⟨bd, A', c', rfl, hc, hr⟩ := ((hB.kp hk0).kp hdr.kp).at_ hlt
      have hl := good_row HG.out hlt
      have la : a < F.di[k].length := by omega
      have lb : b < F.di[k].length := by omega
      have Hl := Lib.hid hl; clear hl
      obtain ⟨rd, rfl, hca⟩ := hr.at_ la
      have hcb := hr.some_ lb
      have hct := count_le_len (nearB a b) F.di k
      have hnx := Lib.hid (count_take_succ (p := nearB a b) hlt)
      have eqv := Lib.hid (nearB_val la lb)
      go_wp2_with fail
      go_quiet (fail)
      go_wp2_with fail
      · have h2 : F.di[k][a] < F.di[k][b] := by assumption
        go_roundw
        case rel =>
          refine ⟨k + 1, by omega, by go_num, ?_, hdr.drewN nq⟩
          rw [hnx.out, eqv.out, if_pos (by simpa using h2)]
          go_num
        case measure => simp [intOf]; omega
      · have h2 : F.di[k][b] ≤ F.di[k][a] := by assumption
        go_roundw
        case rel =>
          refine ⟨k + 1, by omega, by go_num, ?_, hdr.drewN nq⟩
          rw [hnx.out, eqv.out, if_neg (by simpa using h2)]
          simp
        case measure => simp [intOf]; omega
    · go_wp2_with fail
      go_ret
      refine ⟨ret_int ?_, hk0.trans hdr.kp⟩
      rw [List.take_of_length_le (by omega)]
      rfl

set_option maxRecDepth 100000 in
set_option maxHeartbeats 1000000 in
theorem votes_any (f : Value) (F : Fld) (a b : Nat) (w : World) (hf : FldAt w f F) (hg : goodF F = true) (ha : a < F.op.length) (hb : b < F.op.length) :
    Calls Try.prog 45 #[f, .int .i64 a, .int .i64 b] w fun e w' => e = .returned (.int .i64 (votesN F a b)) ∧ Kp w w' := by
  obtain ⟨A, c, B, d, rfl, hA, hB⟩ := hf
  have hk0 : Kp w (w.alloc (.cells #[.slice A F.op.length c, .slice B F.di.length d] 34)) := (Kp.refl w).alloc _
  have hG := goodF_iff.1 hg
  have hn7 := hG.1.2
  have hd7 := hG.2.2.1
  have HG := Lib.hid hg; clear hg hG
  go_enter Try.func45, Try.ntmps45
  go_wp2_with fail
  go_loopw [7, 13] (fun cv i wr => ∃ k : Nat, k ≤ F.di.length ∧ i = .int .i64 k ∧ cv = .int .i64 ((F.di.take k).countP (nearB a b)) ∧ Dr (w.alloc (.cells #[.slice A F.op.length c, .slice B F.di.length d] 34)) wr) (fun _ i _ => F.di.length - (intOf i).toNat)
  case atStart => exact ⟨0, by omega, rfl, by simp, Dr.refl _⟩
  case round =>
    obtain ⟨k, hk, rfl, rfl, hdr⟩ := hrel
    by_cases hlt : k < F.di.length
    · obtain ⟨bd, A', c', rfl, hc, hr⟩ := ((hB.kp hk0).kp hdr.kp).at_ hlt
      have hl := good_row HG.out hlt
      have la : a < F.di[k].length := by omega
      have lb : b < F.di[k].length := by omega
      have Hl := Lib.hid hl; clear hl
      obtain ⟨rd, rfl, hca⟩ := hr.at_ la
      have hcb := hr.some_ lb
      have hct := count_le_len (nearB a b) F.di k
      have hnx := Lib.hid (count_take_succ (p := nearB a b) hlt)
      have eqv := Lib.hid (nearB_val la lb)
      go_wp2_with fail
      go_quiet (fail)
      go_wp2_with fail
      · have h2 : F.di[k][a] < F.di[k][b] := by assumption
        go_roundw
        case rel =>
          refine ⟨k + 1, by omega, by go_num, ?_, hdr.drewN nq⟩
          rw [hnx.out, eqv.out, if_pos (by simpa using h2)]
          go_num
        case measure => simp [intOf]; omega
      · have h2 : F.di[k][b] ≤ F.di[k][a] := by assumption
        go_roundw
        case rel =>
          refine ⟨k + 1, by omega, by go_num, ?_, hdr.drewN nq⟩
          rw [hnx.out, eqv.out, if_neg (by simpa using h2)]
          simp
        case measure => simp [intOf]; omega
    · go_wp2_with fail
      go_ret
      refine ⟨ret_int ?_, hk0.trans hdr.kp⟩
      rw [List.take_of_length_le (by omega)]
      rfl

def siteB (F : Fld) (a : Int) : Bool := inB a 0 (F.op.length - 1)
def votesOk (F : Fld) (a b : Int) : Bool := goodF F && siteB F a && siteB F b
def votes1 (F : Fld) (a b : Int) : Nat := if votesOk F a b = true then votesN F a.toNat b.toNat else 0
def votes2 (F : Fld) (a b : Int) : Nat := if votesOk F a b = true then votesN F b.toNat a.toNat else 0
theorem votes_no {F : Fld} {a b : Int} (h : votesOk F a b = false) : Ending.returned (.tuple #[.int .i64 (votes1 F a b), .int .i64 (votes2 F a b), .bool (votesOk F a b)]) = .returned (.tuple #[.int .i64 0, .int .i64 0, .bool false]) := by
  simp [votes1, votes2, h]
theorem votes_yes {F : Fld} {a b : Nat} (h : votesOk F a b = true) : Ending.returned (.tuple #[.int .i64 (votes1 F a b), .int .i64 (votes2 F a b), .bool (votesOk F a b)]) = .returned (.tuple #[.int .i64 (votesN F a b), .int .i64 (votesN F b a), .bool true]) := by
  simp [votes1, votes2, h]
theorem siteB_iff {F : Fld} {a : Int} : siteB F a = true ↔ 0 ≤ a ∧ a ≤ (F.op.length : Int) - 1 := inB_iff
set_option maxRecDepth 100000 in
set_option maxHeartbeats 1000000 in
theorem specVotes_any (f : Value) (F : Fld) (a b : Int) (w : World) (hf : FldAt w f F) :
    Calls Try.prog 17 #[f, .int .i64 a, .int .i64 b] w fun e w' =>
      e = .returned (.tuple #[.int .i64 (votes1 F a b), .int .i64 (votes2 F a b), .bool (votesOk F a b)]) ∧ Kp w w' := by
  obtain ⟨A, c, B, d, rfl, hA, hB⟩ := hf
  have hk0 : Kp w (w.alloc (.cells #[.slice A F.op.length c, .slice B F.di.length d] 34)) := (Kp.refl w).alloc _
  obtain ⟨d0, d1⟩ := box2 w (.slice A F.op.length c) (.slice B F.di.length d) 34
  have hFA : FldAt w (.agg #[.slice A F.op.length c, .slice B F.di.length d]) F := ⟨A, c, B, d, rfl, hA, hB⟩
  have hAl := hA.1
  go_enter Try.func17, Try.ntmps17
  go_wp2_with fail
  have CC := Lib.hid (l2Good_any _ F _ (hFA.kp hk0))
  with_reducible refine Calls.mono CC.out ?_
  rintro e w1 ⟨rfl, hk1⟩
  clear CC
  have e0 := hk1.get d0; have e1 := hk1.get d1
  cases hg : goodF F
  · have Hg := Lib.hid hg; clear hg
    go_wp2_with fail
    go_ret3
    have : votesOk F a b = false := by simp [votesOk, Hg.out]
    exact ⟨(votes_no this).symm, hk0.trans hk1⟩
  have Hg := Lib.hid hg; clear hg
  go_wp2_with fail
  refine (l1In_any _ _ _ _).mono ?_
  rintro e w' ⟨rfl, rfl⟩
  cases h2 : inB a 0 (F.op.length - 1)
  · have H2 := Lib.hid h2; clear h2
    go_wp2_with fail
    go_ret3
    have : votesOk F a b = false := by simp [votesOk, siteB, H2.out]
    exact ⟨(votes_no this).symm, hk0.trans hk1⟩
  have H2 := Lib.hid h2; clear h2
  go_wp2_with fail
  refine (l1In_any _ _ _ _).mono ?_
  rintro e w' ⟨rfl, rfl⟩
  cases h3 : inB b 0 (F.op.length - 1)
  · have H3 := Lib.hid h3; clear h3
    go_wp2_with fail
    go_ret3
    have : votesOk F a b = false := by simp [votesOk, siteB, H3.out]
    exact ⟨(votes_no this).symm, hk0.trans hk1⟩
  have H3 := Lib.hid h3; clear h3
  obtain ⟨a0, a1⟩ := inB_iff.1 H2.out
  obtain ⟨b0, b1⟩ := inB_iff.1 H3.out
  obtain ⟨a, rfl⟩ := Int.eq_ofNat_of_zero_le a0
  obtain ⟨b, rfl⟩ := Int.eq_ofNat_of_zero_le b0
  have q0 := cell_regrown e0; have q1 := cell_regrown e1
  have hk2 := hk0.trans hk1
  have hv : Hid (votesOk F a b = true) := by show votesOk F a b = true; simp only [votesOk, siteB, Hg.out, H2.out, H3.out]; rfl
  have la : a < F.op.length := by omega
  have lb : b < F.op.length := by omega
  have Cv := Lib.hid (fun (x y : Nat) (hx : x < F.op.length) (hy : y < F.op.length) (dd : Nat) (os : Array Obj) => Calls.regrown_of (l9Votes_any _ F x y _ ((hFA.kp hk2).kp (kp_rg w1 dd os)) Hg.out hx hy))
  go_wp2_with fail
  refine wp_region_quiet_below (by kernel_rfl) (by kernel_rfl) ?_
  repeat (quiet_step (with_reducible exact Cv.out _ _ (by assumption) (by assumption) _ _))
  refine wpQuiet_nil ?_
  intro wq hw'
  have hkq := kp_of_rg hw'
  clear hw'
  go_wp2_with fail
  go_ret3
  exact ⟨(votes_yes hv.out).symm, hk2.trans hkq⟩

set_option maxRecDepth 100000 in
set_option maxHeartbeats 1000000 in
theorem implVotes_any (f : Value) (F : Fld) (a b : Int) (w : World) (hf : FldAt w f F) :
    Calls Try.prog 19 #[f, .int .i64 a, .int .i64 b] w fun e w' =>
      e = .returned (.tuple #[.int .i64 (votes1 F a b), .int .i64 (votes2 F a b), .bool (votesOk F a b)]) ∧ Kp w w' := by
  obtain ⟨A, c, B, d, rfl, hA, hB⟩ := hf
  have hk0 : Kp w (w.alloc (.cells #[.slice A F.op.length c, .slice B F.di.length d] 34)) := (Kp.refl w).alloc _
  obtain ⟨d0, d1⟩ := box2 w (.slice A F.op.length c) (.slice B F.di.length d) 34
  have hFA : FldAt w (.agg #[.slice A F.op.length c, .slice B F.di.length d]) F := ⟨A, c, B, d, rfl, hA, hB⟩
  have hAl := hA.1
  go_enter Try.func19, Try.ntmps19
  go_wp2_with fail
  have CC := Lib.hid (isField_any _ F _ (hFA.kp hk0))
  with_reducible refine Calls.mono CC.out ?_
  rintro e w1 ⟨rfl, hk1⟩
  clear CC
  have e0 := hk1.get d0; have e1 := hk1.get d1
  cases hg : goodF F
  · have Hg := Lib.hid hg; clear hg
    go_wp2_with fail
    go_ret3
    have : votesOk F a b = false := by simp [votesOk, Hg.out]
    exact ⟨(votes_no this).symm, hk0.trans hk1⟩
  have Hg := Lib.hid hg; clear hg
  have hr := row2 w1 (.int .i64 a) (.int .i64 b) 3
  have hi : IntsAt (w1.alloc (.cells #[.int .i64 a, .int .i64 b] 3)) (some ⟨w1.heap.size, 0, none⟩) [a, b] := by
    refine IntRow.ints (hr.congr (fun i hi => ?_)) (by simp)
    have : i = 0 ∨ i = 1 := by omega
    rcases this with rfl | rfl <;> rfl
  have hk1' := (hk0.trans hk1).alloc (.cells #[.int .i64 a, .int .i64 b] 3)
  have e0' := ((Kp.refl w1).alloc (.cells #[.int .i64 a, .int .i64 b] 3)).get e0
  have e1' := ((Kp.refl w1).alloc (.cells #[.int .i64 a, .int .i64 b] 3)).get e1
  clear hr
  go_wp2_with fail
  have CC := Lib.hid (areBetween_any (some ⟨w1.heap.size, 0, none⟩) [a, b] 2 2 0 (F.op.length - 1) _ hi rfl)
  with_reducible refine Calls.mono CC.out ?_
  rintro e w2 ⟨rfl, hk2⟩
  clear CC
  have f0 := hk2.get e0'; have f1 := hk2.get e1'
  have hk3 := hk1'.trans hk2
  cases h2 : allB [a, b] 0 (F.op.length - 1)
  · have H2 := Lib.hid h2; clear h2
    go_wp2_with fail
    go_ret3
    have : votesOk F a b = false := by
      have := H2.out
      simp [allB] at this
      rw [votesOk, siteB, siteB]
      cases h1 : inB a 0 (F.op.length - 1)
      · simp
      · simp [this h1]
    exact ⟨(votes_no this).symm, hk3⟩
  have H2 := Lib.hid h2; clear h2
  have H3 := allB_iff.1 H2.out
  obtain ⟨a0, a1⟩ := H3 a (by simp)
  obtain ⟨b0, b1⟩ := H3 b (by simp)
  clear H3
  obtain ⟨a, rfl⟩ := Int.eq_ofNat_of_zero_le a0
  obtain ⟨b, rfl⟩ := Int.eq_ofNat_of_zero_le b0
  have q0 := cell_regrown f0; have q1 := cell_regrown f1
  have hv : Hid (votesOk F a b = true) := by
    show votesOk F a b = true
    have h1 : siteB F a = true := siteB_iff.2 ⟨by omega, by omega⟩
    have h2 : siteB F b = true := siteB_iff.2 ⟨by omega, by omega⟩
    rw [votesOk, Hg.out, h1, h2]; rfl
  have la : a < F.op.length := by omega
  have lb : b < F.op.length := by omega
  have Cv := Lib.hid (fun (x y : Nat) (hx : x < F.op.length) (hy : y < F.op.length) (dd : Nat) (os : Array Obj) => Calls.regrown_of (votes_any _ F x y _ ((hFA.kp hk3).kp (kp_rg w2 dd os)) Hg.out hx hy))
  clear hi e0 e1 e0' e1'
  go_wp2_with fail
  refine wp_region_quiet_below (by kernel_rfl) (by kernel_rfl) ?_
  repeat (quiet_step (with_reducible exact Cv.out _ _ (by assumption) (by assumption) _ _))
  refine wpQuiet_nil ?_
  intro wq hw'
  have hkq := kp_of_rg hw'
  clear hw'
  go_wp2_with fail
  go_ret3
  exact ⟨(votes_yes hv.out).symm, hk3.trans hkq⟩
end Go.Proofs.Ytiihkekicfpnoaa

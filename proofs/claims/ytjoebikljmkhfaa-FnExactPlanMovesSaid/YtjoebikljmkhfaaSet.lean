/- Which lists are sets of sites: the program's answer and the reference's. No condition. -/
import Derived.Test.YtjoebikljmkhfaaGood
import Derived.Test.YtjoebikljmkhfaaLawU
import Derived.Test.YtjoebikljmkhfaaMono
namespace Go.Proofs.Ytjoebikljmkhfaa
open Go.RowKit Go.Sort

def okR (xs : List Int) (lo hi : Int) (i : Nat) : Bool := inB (xs.getD i 0) lo hi && (decide (i = 0) || decide (xs.getD (i - 1) 0 < xs.getD i 0))
/-- Strictly rising, within bounds. -/
def risB (xs : List Int) (lo hi : Int) : Bool := (List.range xs.length).all (okR xs lo hi)
theorem okR_out {xs : List Int} {lo hi : Int} {i : Nat} (hi' : i < xs.length) (h : inB xs[i] lo hi = false) : okR xs lo hi i = false := by simp [okR, List.getD, hi', h]
theorem okR_zero {xs : List Int} {lo hi : Int} {i : Nat} (hi' : i < xs.length) (h0 : ¬ 0 < i) (h : inB xs[i] lo hi = true) : okR xs lo hi i = true := by
  have e : i = 0 := by omega
  subst e
  simp [okR, List.getD, hi', h]
theorem okR_succ {xs : List Int} {lo hi : Int} {i : Nat} (hi' : i < xs.length) (h0 : 0 < i) (h : inB xs[i] lo hi = true) : okR xs lo hi i = decide (xs[i - 1] < xs[i]) := by
  have h1 : i - 1 < xs.length := by omega
  have h2 : ¬ i = 0 := by omega
  simp [okR, List.getD, hi', h1, h, h2]
theorem ris_no {xs : List Int} {lo hi : Int} {i n : Nat} (hn : Hid (xs.length = n)) (hi' : i < n) (h : okR xs lo hi i = false) : risB xs lo hi = false := by
  have := hn.out; subst this; exact all_range_false hi' h
theorem ris_yes {xs : List Int} {lo hi : Int} {i n : Nat} (hn : Hid (xs.length = n)) (hk : i ≤ n) (hge : ¬ i < n) (h : Hid ((List.range i).all (okR xs lo hi) = true)) : risB xs lo hi = true := by
  have := hn.out; subst this
  have e : i = xs.length := by omega
  subst e; exact h

set_option maxRecDepth 100000 in
set_option maxHeartbeats 1000000 in
theorem l1Rising_any (A : Option Addr) (xs : List Int) (n c : Nat) (lo hi : Int) (w : World) (hx : IntsAt w A xs) (hnx : xs.length = n) :
    Calls Try.prog 35 #[.slice A n c, .int .i64 lo, .int .i64 hi] w fun e w' => e = .returned (.bool (risB xs lo hi)) ∧ Dr w w' := by
  have hm : n ≤ 9223372036854775807 := hnx ▸ hx.1
  have Hx := Lib.hid hnx; clear hnx
  go_enter Try.func35, Try.ntmps35
  go_wp2_with fail
  go_loopw [7] (fun i wr => ∃ k : Nat, k ≤ n ∧ i = .int .i64 k ∧ Hid ((List.range k).all (okR xs lo hi) = true) ∧ Dr w wr) (fun i _ => n - (intOf i).toNat)
  case atStart => exact ⟨0, by omega, rfl, rfl, Dr.refl _⟩
  case round =>
    obtain ⟨k, hk, rfl, Hp, hdr⟩ := hrel
    by_cases hlt : k < n
    · have lx : k < xs.length := by rw [Hx.out]; exact hlt
      obtain ⟨ad, rfl, hc⟩ := (hx.kp hdr.kp).at_ lx
      cases hB : inB xs[k] lo hi
      · have HB := Lib.hid hB
        have Cin := Lib.hid (fun W : World => by have := l1In_any xs[k] lo hi W; rw [hB] at this; exact this)
        clear hB
        go_wp2_with fail
        go_quiet ((go_at_call 29; exact Calls.same_quiet (Cin.out _)))
        go_wp2_with fail
        go_ret
        exact ⟨ret_bool (ris_no Hx hlt (okR_out lx HB.out)).symm, hdr.drewN nq⟩
      · have HB := Lib.hid hB
        have Cin := Lib.hid (fun W : World => by have := l1In_any xs[k] lo hi W; rw [hB] at this; exact this)
        clear hB
        by_cases h0 : 0 < k
        · have hc1 := (hx.kp hdr.kp).some_ (k := k - 1) (by omega)
          have a1 : IntKind.i64.wrap ((k : Int) - 1) = (k : Int) - 1 := IntWalk.i64_in _ (by omega)
          have a2 : ((k : Int) - 1).toNat = k - 1 := by omega
          have a3 : (0 : Int) ≤ (k : Int) - 1 := by omega
          have a4 : (k : Int) - 1 < n := by omega
          have a5 : decide ((0 : Int) < (k : Int)) = true := by simp; omega
          have a6 : 1 ≤ k := h0
          have hok := Lib.hid (okR_succ lx h0 HB.out)
          go_wp2_with fail
          go_quiet ((go_at_call 29; exact Calls.same_quiet (Cin.out _)))
          clear a1 a2 a3 a4 a5
          go_wp2_with fail
          · have h2 : xs[k] ≤ xs[k - 1] := by assumption
            go_ret
            exact ⟨ret_bool (ris_no Hx hlt (by rw [hok.out]; simp; omega)).symm, hdr.drewN nq⟩
          · have h2 : xs[k - 1] < xs[k] := by assumption
            go_roundw
            case rel => exact ⟨k + 1, by omega, by go_num, all_next Hp (by rw [hok.out]; simp; omega), hdr.drewN nq⟩
            case measure => simp [intOf]; omega
        · have hok := Lib.hid (okR_zero lx h0 HB.out)
          have a5 : decide ((0 : Int) < (k : Int)) = false := by simp; omega
          have a6 : k ≤ 0 := by omega
          go_wp2_with fail
          go_quiet ((go_at_call 29; exact Calls.same_quiet (Cin.out _)))
          go_wp2_with fail
          go_roundw
          case rel => exact ⟨k + 1, by omega, by go_num, all_next Hp hok.out, hdr.drewN nq⟩
          case measure => simp [intOf]; omega
    · go_wp2_with fail
      go_ret
      exact ⟨ret_bool (ris_yes Hx hk hlt Hp).symm, hdr⟩

set_option maxRecDepth 100000 in
set_option maxHeartbeats 1000000 in
theorem isRising_any (A : Option Addr) (xs : List Int) (n c : Nat) (b : Int) (w : World) (hx : IntsAt w A xs) (hnx : xs.length = n) (hb0 : 0 ≤ b) (hb1 : b ≤ 9223372036854775807) :
    Calls Try.prog 55 #[.slice A n c, .int .i64 b] w fun e w' => e = .returned (.bool (risB xs 0 (b - 1))) ∧ w = w' := by
  have hm : n ≤ 9223372036854775807 := hnx ▸ hx.1
  have Hx := Lib.hid hnx; clear hnx
  go_enter Try.func55, Try.ntmps55
  go_wp2_with fail
  go_loop [9] (fun i => ∃ k : Nat, k ≤ n ∧ i = .int .i64 k ∧ Hid ((List.range k).all (okR xs 0 (b - 1)) = true)) (fun i => n - (intOf i).toNat)
  case atStart => exact ⟨0, by omega, rfl, rfl⟩
  case round =>
    obtain ⟨k, hk, rfl, Hp⟩ := hrel
    by_cases hlt : k < n
    · have lx : k < xs.length := by rw [Hx.out]; exact hlt
      obtain ⟨ad, rfl, hc⟩ := hx.at_ lx
      go_wp2_with fail
      refine (between_any _ _ _ _).mono ?_
      rintro e w' ⟨rfl, rfl⟩
      cases hB : inB xs[k] 0 (b - 1)
      · have HB := Lib.hid hB; clear hB
        go_wp2_with fail
        go_ret
        exact ⟨ret_bool (ris_no Hx hlt (okR_out lx HB.out)).symm, rfl⟩
      · have HB := Lib.hid hB; clear hB
        by_cases h0 : 0 < k
        · have hc1 := hx.some_ (k := k - 1) (by omega)
          have a6 : 1 ≤ k := h0
          have a5 : decide ((0 : Int) < (k : Int)) = true := by simp; omega
          have hok := Lib.hid (okR_succ lx h0 HB.out)
          go_wp2_with fail
          · have h2 : xs[k] ≤ xs[k - 1] := by assumption
            go_ret
            exact ⟨ret_bool (ris_no Hx hlt (by rw [hok.out]; simp; omega)).symm, rfl⟩
          · have h2 : xs[k - 1] < xs[k] := by assumption
            go_round
            case rel => exact ⟨k + 1, by omega, by go_num, all_next Hp (by rw [hok.out]; simp; omega)⟩
            case measure => simp [intOf]; omega
        · have hok := Lib.hid (okR_zero lx h0 HB.out)
          have a5 : decide ((0 : Int) < (k : Int)) = false := by simp; omega
          have a6 : k ≤ 0 := by omega
          go_wp2_with fail
          go_round
          case rel => exact ⟨k + 1, by omega, by go_num, all_next Hp hok.out⟩
          case measure => simp [intOf]; omega
    · go_wp2_with fail
      go_ret
      exact ⟨ret_bool (ris_yes Hx hk hlt Hp).symm, rfl⟩

/-- A set of sites of a field. -/
def setB (F : Fld) (S : List Int) : Bool := risB S 0 ((F.op.length : Int) - 1)
end Go.Proofs.Ytjoebikljmkhfaa

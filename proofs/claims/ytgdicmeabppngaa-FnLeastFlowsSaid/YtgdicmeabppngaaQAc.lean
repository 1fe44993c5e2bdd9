/- The frame of a law's proof whose argument is a slice of bytes; Which tables are monotone, which are submodular: the program's answer and the reference's; Which lists are sets of sites: the program's answer and the reference's; By which site of a set a client is served, and how far it is: the program's answer and the reference's; Gains of sets: the program's answer and the reference's; Fields with a set of at least one site: the program's test and the reference's; Rooms and needs: reference and program; A number of a list, 0 behind its end; Flows of needs through sites: what both programs find, in plain words. No condition. -/
import Derived.Test.YtgdicmeabppngaaQAa
import Derived.Test.YtgdicmeabppngaaQAb
namespace Go.Proofs.Ytgdicmeabppngaa
open Go.ChangeShapes Go.WideShapes Go.ChangeAt Go.RowKit

section
variable {H : Type} {enc : TypeId × Value → H} {P : Program}
theorem open_bytesAt {W : World} {v : Value} {d : DataW H} {p : List MemPlace} {t e : TypeId} (ht : P.underlying t = some (.slice e)) (he : P.underlying e = some (.int .u8)) (hc : P.cellsOf e = 1)
    (hv : Value.okWide P W .any 0 t v) (h : DataW.Trod enc P W 0 (fun _ => true) true t v d p) : ∃ A n c, v = .slice A n c ∧ BytesAt W A n := by
  obtain ⟨a, len, cap, rfl⟩ := okWide_slice ht hv
  obtain ⟨fuel, hf⟩ := h
  rcases open_ints ht he hc hf with ⟨hcs, _⟩ | ⟨a', len', cap', zs, hcs, _, hl, hm, hz, _, hcell, hwf⟩
  · simp [Value.cells] at hcs
    obtain ⟨rfl, rfl, rfl⟩ := hcs
    exact ⟨none, 0, 0, rfl, by omega, fun k hk => by omega⟩
  · simp [Value.cells] at hcs
    obtain ⟨rfl, rfl, rfl⟩ := hcs
    simp only [if_true] at hz
    refine ⟨some a', len, cap, rfl, by unfold maxLen at hm; omega, fun k hk => ?_⟩
    refine ⟨a', zs.getD k 0, rfl, hcell k (by omega), ?_⟩
    have hw := hwf (zs.getD k 0) (by
      have hk2 : k < zs.length := by omega
      simp [List.getD, hk2])
    have h0 : IntKind.u8.min = 0 := by decide
    have h1 : IntKind.u8.max = 255 := by decide
    generalize zs.getD k 0 = z at *
    simp [Lit.wf, h0, h1] at hw
    omega
theorem open_bytesAtC {W : World} {v : Value} {d : DataW H} {p : List MemPlace} {t e : TypeId} (ht : P.underlying t = some (.slice e)) (he : P.underlying e = some (.int .u8)) (hc : P.cellsOf e = 1)
    (hv : Value.okWide P W .any 0 t v) (h : DataW.Trod enc P W 0 (fun _ => true) true t v d p) : ∃ A n c, v = .slice A n c ∧ BytesAt W A n ∧ n ≤ c := by
  obtain ⟨a, len, cap, rfl⟩ := okWide_slice ht hv
  obtain ⟨fuel, hf⟩ := h
  rcases open_ints ht he hc hf with ⟨hcs, _⟩ | ⟨a', len', cap', zs, hcs, _, hl, hm, hz, _, hcell, hwf⟩
  · simp [Value.cells] at hcs
    obtain ⟨rfl, rfl, rfl⟩ := hcs
    exact ⟨none, 0, 0, rfl, ⟨by omega, fun k hk => by omega⟩, Nat.le_refl _⟩
  · simp [Value.cells] at hcs
    obtain ⟨rfl, rfl, rfl⟩ := hcs
    simp only [if_true] at hz
    refine ⟨some a', len, cap, rfl, ⟨by unfold maxLen at hm; omega, fun k hk => ?_⟩, by omega⟩
    refine ⟨a', zs.getD k 0, rfl, hcell k (by omega), ?_⟩
    have hw := hwf (zs.getD k 0) (by
      have hk2 : k < zs.length := by omega
      simp [List.getD, hk2])
    have h0 : IntKind.u8.min = 0 := by decide
    have h1 : IntKind.u8.max = 255 := by decide
    generalize zs.getD k 0 = z at *
    simp [Lit.wf, h0, h1] at hw
    omega
end
end Go.Proofs.Ytgdicmeabppngaa

namespace Go.Proofs.Ytgdicmeabppngaa
open Go.RowKit

def okM (xs : List Int) (a b : Nat) : Bool := !(((a &&& b : Nat) : Int) == (a : Int) && decide (xs.getD b 0 < xs.getD a 0))
def monoB (xs : List Int) : Bool := (List.range xs.length).all fun a => (List.range xs.length).all (okM xs a)
theorem okM_guard {xs : List Int} {a b : Nat} (h : (((a &&& b : Nat) : Int) == (a : Int)) = false) : okM xs a b = true := by simp [okM, h]
theorem okM_val {xs : List Int} {a b : Nat} (ha : a < xs.length) (hb : b < xs.length) (h : (((a &&& b : Nat) : Int) == (a : Int)) = true) : okM xs a b = !decide (xs[b] < xs[a]) := by
  simp [okM, h, List.getD, ha, hb]
theorem all_next {p : Nat → Bool} {k : Nat} (h : Hid ((List.range k).all p = true)) (e : p k = true) : Hid ((List.range (k + 1)).all p = true) := by
  show (List.range (k + 1)).all p = true
  rw [all_range_succ, h.out, e]; rfl
theorem not_all2 {p : Nat → Nat → Bool} {a b n m : Nat} (ha : a < n) (hb : b < m) (h : p a b = false) : ((List.range n).all fun a => (List.range m).all (p a)) = false :=
  all_range_false ha (all_range_false hb h)
theorem not_mono {xs : List Int} {a b n : Nat} (hn : Hid (xs.length = n)) (ha : a < n) (hb : b < n) (h : okM xs a b = false) : monoB xs = false := by
  have e := hn.out; subst e; exact not_all2 ha hb h
theorem is_mono {xs : List Int} {a n : Nat} (hn : Hid (xs.length = n)) (hk : a ≤ n) (hge : ¬ a < n) (h : Hid (((List.range a).all fun a => (List.range n).all (okM xs a)) = true)) : monoB xs = true := by
  have e := hn.out; subst e
  have : a = xs.length := by omega
  subst this; exact h
theorem row_done {p : Nat → Bool} {b n : Nat} (hk : b ≤ n) (hge : ¬ b < n) (h : Hid ((List.range b).all p = true)) : (List.range n).all p = true := by
  have : b = n := by omega
  subst this; exact h

end Go.Proofs.Ytgdicmeabppngaa

namespace Go.Proofs.Ytgdicmeabppngaa
open Go.RowKit Go.Sort

def okR (xs : List Int) (lo hi : Int) (i : Nat) : Bool := inB (xs.getD i 0) lo hi && (decide (i = 0) || decide (xs.getD (i - 1) 0 < xs.getD i 0))
/-- Strictly rising, within bounds. -/
def risB (xs : List Int) (lo hi : Int) : Bool := (List.range xs.length).all (okR xs lo hi)
theorem okR_out {xs : List Int} {lo hi : Int} {i : Nat} (hi' : i < xs.length) (h : inB xs[i] lo hi = false) : okR xs lo hi i = false := by simp [okR, List.getD, hi', h]
theorem okR_zero {xs : List Int} {lo hi : Int} {i : Nat} (hi' : i < xs.length) (h0 : ¬ 0 < i) (h : inB xs[i] lo hi = true) : okR xs lo hi i = true := by
  have e : i = 0 := by omega
  subst e
  simp [okR, List.getD, hi', h]
theorem okR_succ {xs : List Int} {lo hi : Int} {i : Nat} (hi' : i < xs.length) (h0 : 0 < i) (h : inB xs[i] lo hi = true) : okR xs lo hi i = decide (xs[i - 1] < xs[i]) := by
  have h1 : i - 1 < xs.length := by omega
  have h2 : ¬ i = 0 := by omega
  simp [okR, List.getD, hi', h1, h, h2]
theorem ris_no {xs : List Int} {lo hi : Int} {i n : Nat} (hn : Hid (xs.length = n)) (hi' : i < n) (h : okR xs lo hi i = false) : risB xs lo hi = false := by
  have := hn.out; subst this; exact all_range_false hi' h
theorem ris_yes {xs : List Int} {lo hi : Int} {i n : Nat} (hn : Hid (xs.length = n)) (hk : i ≤ n) (hge : ¬ i < n) (h : Hid ((List.range i).all (okR xs lo hi) = true)) : risB xs lo hi = true := by
  have := hn.out; subst this
  have e : i = xs.length := by omega
  subst e; exact h

set_option maxRecDepth 100000 in
set_option maxHeartbeats 1000000 in
theorem l1Rising_any (A : Option Addr) (xs : List Int) (n c : Nat) (lo hi : Int) (w : World) (hx : IntsAt w A xs) (hnx : xs.length = n) :
    Calls Try.prog 91 #[.slice A n c, .int .i64 lo, .int .i64 hi] w fun e w' => e = .returned (.bool (risB xs lo hi)) ∧ Dr w w' := by
  have hm : n ≤ 9223372036854775807 := hnx ▸ hx.1
  have Hx := Lib.hid hnx; clear hnx
  go_enter Try.func91, Try.ntmps91
  go_wp2_with fail
  go_loopw [7] (fun i wr => ∃ k : Nat, k ≤ n ∧ i = .int .i64 k ∧ Hid ((List.range k).all (okR xs lo hi) = true) ∧ Dr w wr) (fun i _ => n - (intOf i).toNat)
  case atStart => exact ⟨0, by omega, rfl, rfl, Dr.refl _⟩
  case round =>
    obtain ⟨k, hk, rfl, Hp, hdr⟩ := hrel
    by_cases hlt : k < n
    · have lx : k < xs.length := by rw [Hx.out]; exact hlt
      obtain ⟨ad, rfl, hc⟩ := (hx.kp hdr.kp).at_ lx
      cases hB : inB xs[k] lo hi
      · have HB := Lib.hid hB
        have Cin := Lib.hid (fun W : World => by have := l1In_any xs[k] lo hi W; rw [hB] at this; exact this)
        clear hB
        go_wp2_with fail
        go_quiet ((go_at_call 90; exact Calls.same_quiet (Cin.out _)))
        go_wp2_with fail
        go_ret
        exact ⟨ret_bool (ris_no Hx hlt (okR_out lx HB.out)).symm, hdr.drewN nq⟩
      · have HB := Lib.hid hB
        have Cin := Lib.hid (fun W : World => by have := l1In_any xs[k] lo hi W; rw [hB] at this; exact this)
        clear hB
        by_cases h0 : 0 < k
        · have hc1 := (hx.kp hdr.kp).some_ (k := k - 1) (by omega)
          have a1 : IntKind.i64.wrap ((k : Int) - 1) = (k : Int) - 1 := IntWalk.i64_in _ (by omega)
          have a2 : ((k : Int) - 1).toNat = k - 1 := by omega
          have a3 : (0 : Int) ≤ (k : Int) - 1 := by omega
          have a4 : (k : Int) - 1 < n := by omega
          have a5 : decide ((0 : Int) < (k : Int)) = true := by simp; omega
          have a6 : 1 ≤ k := h0
          have hok := Lib.hid (okR_succ lx h0 HB.out)
          go_wp2_with fail
          go_quiet ((go_at_call 90; exact Calls.same_quiet (Cin.out _)))
          clear a1 a2 a3 a4 a5
          go_wp2_with fail
          · have h2 : xs[k] ≤ xs[k - 1] := by assumption
            go_ret
            exact ⟨ret_bool (ris_no Hx hlt (by rw [hok.out]; simp; omega)).symm, hdr.drewN nq⟩
          · have h2 : xs[k - 1] < xs[k] := by assumption
            go_roundw
            case rel => exact ⟨k + 1, by omega, by go_num, all_next Hp (by rw [hok.out]; simp; omega), hdr.drewN nq⟩
            case measure => simp [intOf]; omega
        · have hok := Lib.hid (okR_zero lx h0 HB.out)
          have a5 : decide ((0 : Int) < (k : Int)) = false := by simp; omega
          have a6 : k ≤ 0 := by omega
          go_wp2_with fail
          go_quiet ((go_at_call 90; exact Calls.same_quiet (Cin.out _)))
          go_wp2_with fail
          go_roundw
          case rel => exact ⟨k + 1, by omega, by go_num, all_next Hp hok.out, hdr.drewN nq⟩
          case measure => simp [intOf]; omega
    · go_wp2_with fail
      go_ret
      exact ⟨ret_bool (ris_yes Hx hk hlt Hp).symm, hdr⟩

set_option maxRecDepth 100000 in
set_option maxHeartbeats 1000000 in
theorem isRising_any (A : Option Addr) (xs : List Int) (n c : Nat) (b : Int) (w : World) (hx : IntsAt w A xs) (hnx : xs.length = n) (hb0 : 0 ≤ b) (hb1 : b ≤ 9223372036854775807) :
    Calls Try.prog 87 #[.slice A n c, .int .i64 b] w fun e w' => e = .returned (.bool (risB xs 0 (b - 1))) ∧ w = w' := by
  have hm : n ≤ 9223372036854775807 := hnx ▸ hx.1
  have Hx := Lib.hid hnx; clear hnx
  go_enter Try.func87, Try.ntmps87
  go_wp2_with fail
  go_loop [9] (fun i => ∃ k : Nat, k ≤ n ∧ i = .int .i64 k ∧ Hid ((List.range k).all (okR xs 0 (b - 1)) = true)) (fun i => n - (intOf i).toNat)
  case atStart => exact ⟨0, by omega, rfl, rfl⟩
  case round =>
    obtain ⟨k, hk, rfl, Hp⟩ := hrel
    by_cases hlt : k < n
    · have lx : k < xs.length := by rw [Hx.out]; exact hlt
      obtain ⟨ad, rfl, hc⟩ := hx.at_ lx
      go_wp2_with fail
      refine (between_any _ _ _ _).mono ?_
      rintro e w' ⟨rfl, rfl⟩
      cases hB : inB xs[k] 0 (b - 1)
      · have HB := Lib.hid hB; clear hB
        go_wp2_with fail
        go_ret
        exact ⟨ret_bool (ris_no Hx hlt (okR_out lx HB.out)).symm, rfl⟩
      · have HB := Lib.hid hB; clear hB
        by_cases h0 : 0 < k
        · have hc1 := hx.some_ (k := k - 1) (by omega)
          have a6 : 1 ≤ k := h0
          have a5 : decide ((0 : Int) < (k : Int)) = true := by simp; omega
          have hok := Lib.hid (okR_succ lx h0 HB.out)
          go_wp2_with fail
          · have h2 : xs[k] ≤ xs[k - 1] := by assumption
            go_ret
            exact ⟨ret_bool (ris_no Hx hlt (by rw [hok.out]; simp; omega)).symm, rfl⟩
          · have h2 : xs[k - 1] < xs[k] := by assumption
            go_round
            case rel => exact ⟨k + 1, by omega, by go_num, all_next Hp (by rw [hok.out]; simp; omega)⟩
            case measure => simp [intOf]; omega
        · have hok := Lib.hid (okR_zero lx h0 HB.out)
          have a5 : decide ((0 : Int) < (k : Int)) = false := by simp; omega
          have a6 : k ≤ 0 := by omega
          go_wp2_with fail
          go_round
          case rel => exact ⟨k + 1, by omega, by go_num, all_next Hp hok.out⟩
          case measure => simp [intOf]; omega
    · go_wp2_with fail
      go_ret
      exact ⟨ret_bool (ris_yes Hx hk hlt Hp).symm, rfl⟩

/-- A set of sites of a field. -/
def setB (F : Fld) (S : List Int) : Bool := risB S 0 ((F.op.length : Int) - 1)
theorem l2Set_any (f : Value) (F : Fld) (A : Option Addr) (xs : List Int) (n c : Nat) (w : World) (hf : FldAt w f F) (hx : IntsAt w A xs) (hnx : xs.length = n) :
    Calls Try.prog 82 #[f, .slice A n c] w fun e w' => e = .returned (.bool (setB F xs)) ∧ Kp w w' := by
  obtain ⟨A', c', B, d, rfl, hA, hB⟩ := hf
  have hk0 : Kp w (w.alloc (.cells #[.slice A' F.op.length c', .slice B F.di.length d] 27)) := (Kp.refl w).alloc _
  have hAl := hA.1
  have Hx := Lib.hid hnx; clear hnx
  go_enter Try.func82, Try.ntmps82
  go_wp2_with fail
  have CC := Lib.hid (l1Rising_any A xs n c 0 (F.op.length - 1) _ (hx.kp hk0) Hx.out)
  with_reducible refine Calls.mono CC.out ?_
  rintro e w1 ⟨rfl, hk1⟩
  clear CC
  go_wp2_with fail
  go_ret
  exact ⟨rfl, hk0.trans hk1.kp⟩
end Go.Proofs.Ytgdicmeabppngaa

namespace Go.Proofs.Ytgdicmeabppngaa
open Go.RowKit Go.Sort

/-- The length from a client to a site. -/
def dAt (F : Fld) (i : Nat) (a : Int) : Int := (F.di.getD i []).getD a.toNat 0
def stepS (F : Fld) (i : Nat) (best a : Int) : Int := if dAt F i a < dAt F i best then a else best
/-- The best of the first k sites. -/
def siteTo (F : Fld) (i : Nat) (S : List Int) (k : Nat) : Int := (S.take k).foldl (stepS F i) (S.headD 0)
def siteF (F : Fld) (i : Nat) (S : List Int) : Int := S.foldl (stepS F i) (S.headD 0)
def nearF (F : Fld) (i : Nat) (S : List Int) : Int := dAt F i (siteF F i S)

theorem set_mem {F : Fld} {S : List Int} (h : setB F S = true) : ∀ x ∈ S, 0 ≤ x ∧ x < F.op.length := by
  intro x hx
  obtain ⟨k, hk, rfl⟩ := List.getElem_of_mem hx
  have := List.all_eq_true.1 h k (by simpa using hk)
  simp only [okR, Bool.and_eq_true] at this
  have h1 := inB_iff.1 this.1
  simp [List.getD, hk] at h1
  omega
theorem stepS_lt {F : Fld} {i : Nat} {b a : Int} (h : dAt F i a < dAt F i b) : stepS F i b a = a := if_pos h
theorem stepS_ge {F : Fld} {i : Nat} {b a : Int} (h : dAt F i b ≤ dAt F i a) : stepS F i b a = b := if_neg (by omega)
theorem siteTo_succ {F : Fld} {i : Nat} {S : List Int} {k : Nat} (hk : k < S.length) : siteTo F i S (k + 1) = stepS F i (siteTo F i S k) S[k] := by
  rw [siteTo, List.take_succ_eq_append_getElem hk, List.foldl_append]; rfl
theorem fold_mem {F : Fld} {i : Nat} : ∀ (L : List Int) (b : Int), L.foldl (stepS F i) b = b ∨ L.foldl (stepS F i) b ∈ L
  | [], b => .inl rfl
  | a :: L, b => by
    simp only [List.foldl_cons]
    rcases fold_mem L (stepS F i b a) with h | h
    · rw [h]
      unfold stepS
      by_cases hl : dAt F i a < dAt F i b
      · rw [if_pos hl]; exact .inr (by simp)
      · rw [if_neg hl]; exact .inl rfl
    · exact .inr (by simp [h])
theorem siteTo_mem {F : Fld} {i : Nat} {S : List Int} (h : S ≠ []) (k : Nat) : siteTo F i S k ∈ S := by
  have hh : S.headD 0 ∈ S := by
    cases S with
    | nil => exact absurd rfl h
    | cons a S => simp
  rcases fold_mem (F := F) (i := i) (S.take k) (S.headD 0) with e | e
  · rw [siteTo, e]; exact hh
  · exact List.mem_of_mem_take e
theorem siteTo_all {F : Fld} {i : Nat} {S : List Int} {k : Nat} (h : S.length ≤ k) : siteTo F i S k = siteF F i S := by
  rw [siteTo, List.take_of_length_le h]; rfl
theorem siteF_mem {F : Fld} {i : Nat} {S : List Int} (h : S ≠ []) : siteF F i S ∈ S := by
  rw [← siteTo_all (Nat.le_refl _)]; exact siteTo_mem h _
theorem siteTo_one {F : Fld} {i : Nat} {S : List Int} (h : 0 < S.length) : siteTo F i S 1 = S[0] := by
  cases S with
  | nil => simp at h
  | cons a S => simp [siteTo, stepS]
theorem siteTo_zero {F : Fld} {i : Nat} {S : List Int} (h : 0 < S.length) : siteTo F i S 0 = S[0] := by
  cases S with
  | nil => simp at h
  | cons a S => simp [siteTo]
/-- The cell of a length. -/
theorem dCell {w : World} {rd : Addr} {F : Fld} {i : Nat} {a : Int} (hi : i < F.di.length) (hr : IntsAt w (some rd) F.di[i]) (h0 : 0 ≤ a) (h1 : a < F.di[i].length) : w.cell? (rd.add a.toNat) = some (.int .i64 (dAt F i a)) := by
  have h2 : a.toNat < F.di[i].length := by omega
  rw [hr.some_ h2]
  simp [dAt, List.getD, hi, h2]

end Go.Proofs.Ytgdicmeabppngaa

namespace Go.Proofs.Ytgdicmeabppngaa
open Go.RowKit Go.Sort

def mapTo (g : Nat → Int) (k : Nat) : List Int := (List.range k).map g
theorem mapTo_len (g : Nat → Int) (k : Nat) : (mapTo g k).length = k := by simp [mapTo]
theorem mapTo_succ (g : Nat → Int) (k : Nat) : mapTo g (k + 1) = mapTo g k ++ [g k] := by simp [mapTo, List.range_succ]
theorem mapTo_get {g : Nat → Int} {k i : Nat} (h : i < k) (h' : i < (mapTo g k).length) : (mapTo g k)[i] = g i := by simp [mapTo]
def sumTo (g : Nat → Int) (k : Nat) : Int := (mapTo g k).sum
theorem sumTo_zero (g : Nat → Int) : sumTo g 0 = 0 := rfl
theorem sumTo_succ (g : Nat → Int) (k : Nat) : sumTo g (k + 1) = sumTo g k + g k := by simp [sumTo, mapTo_succ]
theorem sumTo_bd {g : Nat → Int} {b : Int} (h : ∀ i, 0 ≤ g i ∧ g i ≤ b) : ∀ k : Nat, 0 ≤ sumTo g k ∧ sumTo g k ≤ k * b
  | 0 => by simp [sumTo_zero]
  | k + 1 => by
    have h1 := sumTo_bd h k
    have h2 := h k
    rw [sumTo_succ]
    have h3 : ((k + 1 : Nat) : Int) * b = k * b + b := by
      rw [Int.natCast_add, Int.add_mul]; simp
    omega

theorem dAt_bd {F : Fld} (h : goodF F = true) {i : Nat} (hi : i < F.di.length) (a : Int) : 0 ≤ dAt F i a ∧ dAt F i a ≤ 99 := by
  have e : F.di.getD i [] = F.di[i] := by simp [List.getD, hi]
  rw [dAt, e]
  by_cases ha : a.toNat < F.di[i].length
  · have := ((goodF_iff.1 h).2.2.2 _ (List.getElem_mem hi)).1 _ (List.getElem_mem ha)
    simpa [List.getD, ha] using this
  · simp [List.getD, ha]

/-- What client i brings. -/
def gainAt (F : Fld) (worth : Int) (S : List Int) (i : Nat) : Int := max 0 (worth - nearF F i S)
def gainF (F : Fld) (worth : Int) (S : List Int) : Int := if S = [] then 0 else sumTo (gainAt F worth S) F.di.length
theorem gainF_nil {F : Fld} {worth : Int} : gainF F worth [] = 0 := if_pos rfl
theorem gainF_cons {F : Fld} {worth : Int} {S : List Int} (h : S ≠ []) : gainF F worth S = sumTo (gainAt F worth S) F.di.length := if_neg h
theorem siteF_bd {F : Fld} {S : List Int} (hs : setB F S = true) (hne : S ≠ []) (i : Nat) : 0 ≤ siteF F i S ∧ siteF F i S < F.op.length := set_mem hs _ (siteF_mem hne)

theorem l1Most_any (a b : Int) (w : World) :
    Calls Try.prog 78 #[.int .i64 a, .int .i64 b] w fun e w' => e = .returned (.int .i64 (max a b)) ∧ w = w' := by
  go_enter Try.func78, Try.ntmps78
  go_wp2
  all_goals go_ret
  all_goals exact ⟨ret_int (by omega), rfl⟩
theorem gainAt_if {F : Fld} {worth : Int} {S : List Int} {i : Nat} : (if nearF F i S < worth then worth - nearF F i S else 0) = gainAt F worth S i := by
  unfold gainAt; split <;> omega
theorem gainAt_bd {F : Fld} {worth : Int} {S : List Int} (hw0 : 0 ≤ worth) (hw : worth ≤ 999) (hn : ∀ i, 0 ≤ nearF F i S) (i : Nat) : 0 ≤ gainAt F worth S i ∧ gainAt F worth S i ≤ 999 := by
  have := hn i
  unfold gainAt; omega
theorem nearF_bd {F : Fld} (hg : goodF F = true) (S : List Int) (i : Nat) : 0 ≤ nearF F i S ∧ nearF F i S ≤ 99 := by
  by_cases hi : i < F.di.length
  · exact dAt_bd hg hi _
  · have e : F.di.getD i [] = [] := by simp [List.getD, List.getElem?_eq_none (by omega : F.di.length ≤ i)]
    rw [nearF, dAt, e]; simp

def worthB (worth : Int) : Bool := inB worth 0 999
def gainOk (F : Fld) (worth : Int) (S : List Int) : Bool := goodF F && worthB worth && setB F S
def gainR (F : Fld) (worth : Int) (S : List Int) : Int := if gainOk F worth S = true then gainF F worth S else 0
theorem gainR_no {F : Fld} {worth : Int} {S : List Int} (h : gainOk F worth S = false) : Ending.returned (.tuple #[.int .i64 (gainR F worth S), .bool (gainOk F worth S)]) = .returned (.tuple #[.int .i64 0, .bool false]) := by
  simp [gainR, h]
theorem gainR_yes {F : Fld} {worth : Int} {S : List Int} (h : gainOk F worth S = true) : Ending.returned (.tuple #[.int .i64 (gainR F worth S), .bool (gainOk F worth S)]) = .returned (.tuple #[.int .i64 (gainF F worth S), .bool true]) := by
  simp [gainR, h]
theorem gainOk_parts {F : Fld} {worth : Int} {S : List Int} (h : gainOk F worth S = true) : goodF F = true ∧ setB F S = true ∧ 0 ≤ worth ∧ worth ≤ 999 := by
  simp only [gainOk, Bool.and_eq_true, worthB, inB_iff] at h
  exact ⟨h.1.1, h.2, h.1.2.1, h.1.2.2⟩

end Go.Proofs.Ytgdicmeabppngaa

namespace Go.Proofs.Ytgdicmeabppngaa
open Go.RowKit Go.Sort

def openedB (F : Fld) (S : List Int) : Bool := goodF F && setB F S && decide (0 < S.length)
theorem openedB_parts {F : Fld} {S : List Int} (h : openedB F S = true) : goodF F = true ∧ setB F S = true ∧ S ≠ [] := by
  simp only [openedB, Bool.and_eq_true, decide_eq_true_eq] at h
  exact ⟨h.1.1, h.1.2, List.length_pos_iff.1 h.2⟩
theorem l2Two_any (f : Value) (F : Fld) (A0 : Option Addr) (S : List Int) (n c0 : Nat) (w : World) (hf : FldAt w f F) (hS : IntsAt w A0 S) (hn : S.length = n) :
    Calls Try.prog 68 #[f, .slice A0 n c0] w fun e w' => e = .returned (.bool (openedB F S)) ∧ Kp w w' := by
  obtain ⟨A, c, B, d, rfl, hA, hB⟩ := hf
  have hk0 : Kp w (w.alloc (.cells #[.slice A F.op.length c, .slice B F.di.length d] 27)) := (Kp.refl w).alloc _
  obtain ⟨d0, d1⟩ := box2 w (.slice A F.op.length c) (.slice B F.di.length d) 27
  have hFA := FldAt.kp (show FldAt w (.agg #[.slice A F.op.length c, .slice B F.di.length d]) F from ⟨A, c, B, d, rfl, hA, hB⟩) hk0
  have Hn := Lib.hid hn; clear hn
  go_enter Try.func68, Try.ntmps68
  go_wp2_with fail
  generalize w.alloc (.cells #[.slice A F.op.length c, .slice B F.di.length d] 27) = wb at *
  have CC := Lib.hid (l2Good_any _ F _ hFA)
  with_reducible refine Calls.mono CC.out ?_
  rintro e w1 ⟨rfl, hk1⟩
  clear CC
  have e0 := hk1.get d0; have e1 := hk1.get d1
  have K := hk0.trans hk1
  cases hg : goodF F
  · have Hg := Lib.hid hg; clear hg
    go_wp2_with fail
    go_ret
    exact ⟨ret_bool (by simp [openedB, Hg.out, Array.getD]), K⟩
  have Hg := Lib.hid hg; clear hg
  go_wp2_with fail
  have CC := Lib.hid (l2Set_any _ F A0 S n c0 _ (hFA.kp hk1) (hS.kp K) Hn.out)
  with_reducible refine Calls.mono CC.out ?_
  rintro e w2 ⟨rfl, hk2⟩
  clear CC
  cases h2 : setB F S
  · have H2 := Lib.hid h2; clear h2
    go_wp2_with fail
    go_ret
    exact ⟨ret_bool (by simp [openedB, H2.out, Array.getD]), K.trans hk2⟩
  have H2 := Lib.hid h2; clear h2
  go_wp2_with fail
  go_ret
  refine ⟨ret_bool ?_, K.trans hk2⟩
  rw [openedB, Hg.out, H2.out, Hn.out, Bool.eq_iff_iff]
  simp [Array.getD]
theorem isSet_any (f : Value) (F : Fld) (A0 : Option Addr) (S : List Int) (n c0 : Nat) (w : World) (hf : FldAt w f F) (hS : IntsAt w A0 S) (hn : S.length = n) :
    Calls Try.prog 72 #[f, .slice A0 n c0] w fun e w' => e = .returned (.bool (setB F S && decide (0 < S.length))) ∧ Kp w w' := by
  obtain ⟨A, c, B, d, rfl, hA, hB⟩ := hf
  have hk0 : Kp w (w.alloc (.cells #[.slice A F.op.length c, .slice B F.di.length d] 27)) := (Kp.refl w).alloc _
  have hAl := hA.1
  have Hn := Lib.hid hn; clear hn
  by_cases hp : 0 < n
  · have t1 : decide ((0 : Int) < (n : Int)) = true := by simp; omega
    go_enter Try.func72, Try.ntmps72
    go_wp2_with fail
    have CC := Lib.hid (isRising_any A0 S n c0 F.op.length _ (hS.kp hk0) Hn.out (by omega) (by omega))
    with_reducible refine Calls.mono CC.out ?_
    rintro e w2 ⟨rfl, hw2⟩
    obtain rfl := hw2
    clear CC
    go_wp2_with fail
    go_ret
    refine ⟨ret_bool ?_, hk0⟩
    rw [Hn.out]
    simp [setB, Array.getD, hp]
  · have t1 : decide ((0 : Int) < (n : Int)) = false := by simp; omega
    have t2 : n ≤ 0 := by omega
    go_enter Try.func72, Try.ntmps72
    go_wp2_with fail
    go_ret
    refine ⟨ret_bool ?_, hk0⟩
    rw [Hn.out]
    simp [Array.getD, hp]
theorem isOpened_any (f : Value) (F : Fld) (A0 : Option Addr) (S : List Int) (n c0 : Nat) (w : World) (hf : FldAt w f F) (hS : IntsAt w A0 S) (hn : S.length = n) :
    Calls Try.prog 55 #[f, .slice A0 n c0] w fun e w' => e = .returned (.bool (openedB F S)) ∧ Kp w w' := by
  obtain ⟨A, c, B, d, rfl, hA, hB⟩ := hf
  have hk0 : Kp w (w.alloc (.cells #[.slice A F.op.length c, .slice B F.di.length d] 27)) := (Kp.refl w).alloc _
  obtain ⟨d0, d1⟩ := box2 w (.slice A F.op.length c) (.slice B F.di.length d) 27
  have hFA := FldAt.kp (show FldAt w (.agg #[.slice A F.op.length c, .slice B F.di.length d]) F from ⟨A, c, B, d, rfl, hA, hB⟩) hk0
  have Hn := Lib.hid hn; clear hn
  go_enter Try.func55, Try.ntmps55
  go_wp2_with fail
  generalize w.alloc (.cells #[.slice A F.op.length c, .slice B F.di.length d] 27) = wb at *
  have CC := Lib.hid (isField_any _ F _ hFA)
  with_reducible refine Calls.mono CC.out ?_
  rintro e w1 ⟨rfl, hk1⟩
  clear CC
  have e0 := hk1.get d0; have e1 := hk1.get d1
  have K := hk0.trans hk1
  cases hg : goodF F
  · have Hg := Lib.hid hg; clear hg
    go_wp2_with fail
    go_ret
    exact ⟨ret_bool (by simp [openedB, Hg.out, Array.getD]), K⟩
  have Hg := Lib.hid hg; clear hg
  go_wp2_with fail
  have CC := Lib.hid (isSet_any _ F A0 S n c0 _ (hFA.kp hk1) (hS.kp K) Hn.out)
  with_reducible refine Calls.mono CC.out ?_
  rintro e w2 ⟨rfl, hk2⟩
  clear CC
  go_wp2_with fail
  go_ret
  exact ⟨ret_bool (by rw [openedB, Hg.out, Bool.true_and]), K.trans hk2⟩
end Go.Proofs.Ytgdicmeabppngaa

namespace Go.Proofs.Ytgdicmeabppngaa
open Go.RowKit Go.Sort

def numsB (xs : List Int) (n : Nat) (most : Int) : Bool := xs.all (fun x => inB x 0 most) && decide (xs.length = n)
def needsB (F : Fld) (rooms needs : List Int) : Bool := numsB rooms F.op.length 20 && numsB needs F.di.length 5
def haulB (F : Fld) (rooms needs S : List Int) : Bool := openedB F S && needsB F rooms needs
theorem numsB_iff {xs : List Int} {n : Nat} {most : Int} : numsB xs n most = true ↔ (∀ x ∈ xs, 0 ≤ x ∧ x ≤ most) ∧ xs.length = n := by
  unfold numsB inB
  rw [Bool.and_eq_true, List.all_eq_true, decide_eq_true_eq]
  simp
theorem haulB_iff {F : Fld} {rooms needs S : List Int} : haulB F rooms needs S = true ↔ openedB F S = true ∧ ((∀ x ∈ rooms, 0 ≤ x ∧ x ≤ 20) ∧ rooms.length = F.op.length) ∧ ((∀ x ∈ needs, 0 ≤ x ∧ x ≤ 5) ∧ needs.length = F.di.length) := by
  unfold haulB needsB
  rw [Bool.and_eq_true, Bool.and_eq_true, numsB_iff, numsB_iff]
set_option maxHeartbeats 400000 in
theorem l7Numbers_any (A0 : Option Addr) (xs : List Int) (n0 c0 : Nat) (n : Nat) (most : Int) (w : World) (hx : IntsAt w A0 xs) (hn0 : xs.length = n0) :
    Calls Try.prog 83 #[.slice A0 n0 c0, .int .i64 n, .int .i64 most] w fun e w' => e = .returned (.bool (numsB xs n most)) ∧ w = w' := by
  have hm : n0 ≤ 9223372036854775807 := hn0 ▸ hx.1
  have Hn0 := Lib.hid hn0
  have HB : Hid (numsB xs n most = ((!xs.any fun x => !inB x 0 most) && decide (n0 = n))) := by
    show _ = _
    unfold numsB
    rw [List.all_eq_not_any_not, hn0]
  clear hn0
  go_enter Try.func83, Try.ntmps83
  go_wp2_with fail
  go_loop [7] (fun iv => ∃ k : Nat, k ≤ n0 ∧ iv = .int .i64 k ∧ Hid ((xs.take k).any (fun x => !inB x 0 most) = false)) (fun iv => n0 - (intOf iv).toNat)
  case atStart => exact ⟨0, by omega, rfl, rfl⟩
  case round =>
    obtain ⟨k, hk, rfl, Hp⟩ := hrel
    by_cases hlt : k < n0
    · have lx : k < xs.length := by rw [Hn0.out]; exact hlt
      obtain ⟨ad, rfl, hc⟩ := hx.at_ lx
      go_wp2_with fail
      have CC := Lib.hid (l1In_any xs[k] 0 most w)
      with_reducible refine Calls.mono CC.out ?_
      rintro e w3 ⟨rfl, hw⟩
      obtain rfl := hw
      clear CC
      cases ht : inB xs[k] 0 most
      · have Ht := Lib.hid ht; clear ht
        go_wp2_with fail
        go_ret
        exact ⟨by rw [HB.out, any_of (p := fun x => !inB x 0 most) lx (by rw [Ht.out]; rfl)]; rfl, rfl⟩
      · have Ht := Lib.hid ht; clear ht
        go_wp2_with fail
        go_round
        case rel => exact ⟨k + 1, by omega, by go_num, any_take_succ Hp.out lx (by rw [Ht.out]; rfl)⟩
        case measure => simp [intOf]; omega
    · go_wp2_with fail
      go_ret
      have hp := Hp.out
      rw [List.take_of_length_le (by rw [Hn0.out]; omega)] at hp
      refine ⟨ret_bool ?_, rfl⟩
      rw [HB.out, hp]
      by_cases he : n0 = n
      · simp [he]
      · simp [he]; omega
set_option maxRecDepth 100000 in
set_option maxHeartbeats 400000 in
theorem l7Needs_any (f : Value) (F : Fld) (A1 : Option Addr) (rooms : List Int) (n1 c1 : Nat) (A2 : Option Addr) (needs : List Int) (n2 c2 : Nat) (w : World) (hf : FldAt w f F) (h1 : IntsAt w A1 rooms) (hn1 : rooms.length = n1) (h2 : IntsAt w A2 needs) (hn2 : needs.length = n2) :
    Calls Try.prog 69 #[f, .slice A1 n1 c1, .slice A2 n2 c2] w fun e w' => e = .returned (.bool (needsB F rooms needs)) ∧ Kp w w' := by
  obtain ⟨A, c, B, d, rfl, hA, hB⟩ := hf
  have hk0 : Kp w (w.alloc (.cells #[.slice A F.op.length c, .slice B F.di.length d] 27)) := (Kp.refl w).alloc _
  obtain ⟨d0, d1⟩ := box2 w (.slice A F.op.length c) (.slice B F.di.length d) 27
  have hFA := FldAt.kp (show FldAt w (.agg #[.slice A F.op.length c, .slice B F.di.length d]) F from ⟨A, c, B, d, rfl, hA, hB⟩) hk0
  replace h1 := h1.kp hk0
  replace h2 := h2.kp hk0
  have Hn1 := Lib.hid hn1; have Hn2 := Lib.hid hn2
  clear hA hB hn1 hn2
  go_enter Try.func69, Try.ntmps69
  go_wp2_with fail
  have hsz : Hid ((w.alloc (.cells #[.slice A F.op.length c, .slice B F.di.length d] 27)).heap.size = w.heap.size + 1) := by show _ = _; simp
  generalize w.alloc (.cells #[.slice A F.op.length c, .slice B F.di.length d] 27) = wb at *
  have hkb : Kp wb wb := Kp.refl _
  have hkw := hk0
  have q_d0 := hkb.get d0
  have q_d1 := hkb.get d1
  go_wp2_with fail
  have CC := Lib.hid (l7Numbers_any A1 rooms n1 c1 F.op.length 20 wb h1 Hn1.out)
  with_reducible refine Calls.mono CC.out ?_
  rintro e w1 ⟨rfl, hw⟩
  obtain rfl := hw
  clear CC q_d0 q_d1
  cases hg_ : numsB rooms F.op.length 20
  · have Hno : Hid (needsB F rooms needs = false) := by show _ = _; rw [needsB, hg_]; rfl
    clear hg_
    have q_d0 := hkb.get d0
    have q_d1 := hkb.get d1
    go_wp2_with fail
    go_ret
    exact ⟨by rw [Hno.out]; rfl, hkw⟩
  have Hy : Hid (needsB F rooms needs = numsB needs F.di.length 5) := by show _ = _; rw [needsB, hg_]; rfl
  clear hg_
  have q_d0 := hkb.get d0
  have q_d1 := hkb.get d1
  go_wp2_with fail
  have CC := Lib.hid (l7Numbers_any A2 needs n2 c2 F.di.length 5 wb h2 Hn2.out)
  with_reducible refine Calls.mono CC.out ?_
  rintro e w2 ⟨rfl, hw⟩
  obtain rfl := hw
  clear CC q_d0 q_d1
  have q_d0 := hkb.get d0
  have q_d1 := hkb.get d1
  go_wp2_with fail
  go_ret
  exact ⟨by rw [Hy.out]; rfl, hkw⟩
set_option maxRecDepth 100000 in
set_option maxHeartbeats 400000 in
theorem l7Given_any (f : Value) (F : Fld) (A1 : Option Addr) (rooms : List Int) (n1 c1 : Nat) (A2 : Option Addr) (needs : List Int) (n2 c2 : Nat) (A3 : Option Addr) (S : List Int) (n3 c3 : Nat) (w : World) (hf : FldAt w f F) (h1 : IntsAt w A1 rooms) (hn1 : rooms.length = n1) (h2 : IntsAt w A2 needs) (hn2 : needs.length = n2) (h3 : IntsAt w A3 S) (hn3 : S.length = n3) :
    Calls Try.prog 42 #[f, .slice A1 n1 c1, .slice A2 n2 c2, .slice A3 n3 c3] w fun e w' => e = .returned (.bool (haulB F rooms needs S)) ∧ Kp w w' := by
  obtain ⟨A, c, B, d, rfl, hA, hB⟩ := hf
  have hk0 : Kp w (w.alloc (.cells #[.slice A F.op.length c, .slice B F.di.length d] 27)) := (Kp.refl w).alloc _
  obtain ⟨d0, d1⟩ := box2 w (.slice A F.op.length c) (.slice B F.di.length d) 27
  have hFA := FldAt.kp (show FldAt w (.agg #[.slice A F.op.length c, .slice B F.di.length d]) F from ⟨A, c, B, d, rfl, hA, hB⟩) hk0
  replace h1 := h1.kp hk0
  replace h2 := h2.kp hk0
  replace h3 := h3.kp hk0
  have Hn1 := Lib.hid hn1; have Hn2 := Lib.hid hn2; have Hn3 := Lib.hid hn3
  clear hA hB hn1 hn2 hn3
  go_enter Try.func42, Try.ntmps42
  go_wp2_with fail
  have hsz : Hid ((w.alloc (.cells #[.slice A F.op.length c, .slice B F.di.length d] 27)).heap.size = w.heap.size + 1) := by show _ = _; simp
  generalize w.alloc (.cells #[.slice A F.op.length c, .slice B F.di.length d] 27) = wb at *
  have hkb : Kp wb wb := Kp.refl _
  have hkw := hk0
  have q_d0 := hkb.get d0
  have q_d1 := hkb.get d1
  go_wp2_with fail
  have CC := Lib.hid (l2Two_any _ F A3 S n3 c3 wb hFA h3 Hn3.out)
  with_reducible refine Calls.mono CC.out ?_
  rintro e w1 ⟨rfl, hk1⟩
  clear CC q_d0 q_d1
  replace hkb := hkb.trans hk1
  cases hg_ : openedB F S
  · have Hno : Hid (haulB F rooms needs S = false) := by show _ = _; rw [haulB, hg_]; rfl
    clear hg_
    have q_d0 := hkb.get d0
    have q_d1 := hkb.get d1
    go_wp2_with fail
    go_ret
    exact ⟨by rw [Hno.out]; rfl, hkw.trans hkb⟩
  have Hy : Hid (haulB F rooms needs S = needsB F rooms needs) := by show _ = _; rw [haulB, hg_]; rfl
  clear hg_
  have q_d0 := hkb.get d0
  have q_d1 := hkb.get d1
  go_wp2_with fail
  have CC := Lib.hid (l7Needs_any _ F A1 rooms n1 c1 A2 needs n2 c2 _ (hFA.kp hkb) (h1.kp hkb) Hn1.out (h2.kp hkb) Hn2.out)
  with_reducible refine Calls.mono CC.out ?_
  rintro e w2 ⟨rfl, hk2⟩
  clear CC q_d0 q_d1
  replace hkb := hkb.trans hk2
  have q_d0 := hkb.get d0
  have q_d1 := hkb.get d1
  go_wp2_with fail
  go_ret
  exact ⟨by rw [Hy.out]; rfl, hkw.trans hkb⟩
set_option maxRecDepth 100000 in
set_option maxHeartbeats 400000 in
theorem areNeeds_any (f : Value) (F : Fld) (A1 : Option Addr) (rooms : List Int) (n1 c1 : Nat) (A2 : Option Addr) (needs : List Int) (n2 c2 : Nat) (w : World) (hf : FldAt w f F) (h1 : IntsAt w A1 rooms) (hn1 : rooms.length = n1) (h2 : IntsAt w A2 needs) (hn2 : needs.length = n2) :
    Calls Try.prog 56 #[f, .slice A1 n1 c1, .slice A2 n2 c2] w fun e w' => e = .returned (.bool (needsB F rooms needs)) ∧ Kp w w' := by
  obtain ⟨A, c, B, d, rfl, hA, hB⟩ := hf
  have hk0 : Kp w (w.alloc (.cells #[.slice A F.op.length c, .slice B F.di.length d] 27)) := (Kp.refl w).alloc _
  obtain ⟨d0, d1⟩ := box2 w (.slice A F.op.length c) (.slice B F.di.length d) 27
  have hFA := FldAt.kp (show FldAt w (.agg #[.slice A F.op.length c, .slice B F.di.length d]) F from ⟨A, c, B, d, rfl, hA, hB⟩) hk0
  replace h1 := h1.kp hk0
  replace h2 := h2.kp hk0
  have Hn1 := Lib.hid hn1; have Hn2 := Lib.hid hn2
  clear hA hB hn1 hn2
  have HB : Hid (needsB F rooms needs = (decide (n1 = F.op.length) && allB rooms 0 20 && decide (n2 = F.di.length) && allB needs 0 5)) := by
    show _ = _
    unfold needsB numsB
    rw [Hn1.out, Hn2.out]
    change ((allB rooms 0 20 && decide (n1 = F.op.length)) && (allB needs 0 5 && decide (n2 = F.di.length))) = _
    cases decide (n1 = F.op.length) <;> cases decide (n2 = F.di.length) <;> cases allB rooms 0 20 <;> cases allB needs 0 5 <;> rfl
  go_enter Try.func56, Try.ntmps56
  by_cases e1 : n1 = F.op.length
  · subst e1
    have hd1 : (((F.op.length : Nat) : Int) == ((F.op.length : Nat) : Int)) = true := by simp
    go_wp2_with fail
    have hsz : Hid ((w.alloc (.cells #[.slice A F.op.length c, .slice B F.di.length d] 27)).heap.size = w.heap.size + 1) := by show _ = _; simp
    generalize w.alloc (.cells #[.slice A F.op.length c, .slice B F.di.length d] 27) = wb at *
    have hkb : Kp wb wb := Kp.refl _
    have hkw := hk0
    have CC := Lib.hid (areBetween_any A1 rooms F.op.length c1 0 20 wb h1 Hn1.out)
    with_reducible refine Calls.mono CC.out ?_
    rintro e w1 ⟨rfl, hk1⟩
    clear CC
    replace hkb := hkb.trans hk1
    cases hg_ : allB rooms 0 20
    · have Hno : Hid (needsB F rooms needs = false) := by show _ = _; rw [HB.out, hg_]; simp
      clear hg_
      have q_d0 := hkb.get d0
      have q_d1 := hkb.get d1
      go_wp2_with fail
      go_ret
      exact ⟨by rw [Hno.out]; rfl, hkw.trans hkb⟩
    have Hr := Lib.hid hg_; clear hg_
    by_cases e2 : n2 = F.di.length
    · subst e2
      have Hy : Hid (needsB F rooms needs = allB needs 0 5) := by show _ = _; rw [HB.out, Hr.out]; simp
      have q_d0 := hkb.get d0
      have q_d1 := hkb.get d1
      go_wp2_with fail
      have CC := Lib.hid (areBetween_any A2 needs F.di.length c2 0 5 _ (h2.kp hkb) Hn2.out)
      with_reducible refine Calls.mono CC.out ?_
      rintro e w2 ⟨rfl, hk2⟩
      clear CC q_d0 q_d1
      replace hkb := hkb.trans hk2
      have q_d0 := hkb.get d0
      have q_d1 := hkb.get d1
      go_wp2_with fail
      go_ret
      exact ⟨by rw [Hy.out]; rfl, hkw.trans hkb⟩
    · have Hno : Hid (needsB F rooms needs = false) := by show _ = _; rw [HB.out, decide_eq_false e2]; simp
      have hd2 : ((n2 : Int) == (F.di.length : Int)) = false := by simp; omega
      clear e2
      have q_d0 := hkb.get d0
      have q_d1 := hkb.get d1
      go_wp2_with fail
      go_ret
      exact ⟨by rw [Hno.out]; rfl, hkw.trans hkb⟩
  · have Hno : Hid (needsB F rooms needs = false) := by show _ = _; rw [HB.out, decide_eq_false e1]; rfl
    have hd1 : ((n1 : Int) == (F.op.length : Int)) = false := by simp; omega
    clear e1
    go_wp2_with fail
    have hsz : Hid ((w.alloc (.cells #[.slice A F.op.length c, .slice B F.di.length d] 27)).heap.size = w.heap.size + 1) := by show _ = _; simp
    generalize w.alloc (.cells #[.slice A F.op.length c, .slice B F.di.length d] 27) = wb at *
    have hkb : Kp wb wb := Kp.refl _
    have hkw := hk0
    have q_d0 := hkb.get d0
    have q_d1 := hkb.get d1
    go_wp2_with fail
    go_ret
    exact ⟨by rw [Hno.out]; rfl, hkw⟩
set_option maxRecDepth 100000 in
set_option maxHeartbeats 400000 in
theorem isHaul_any (f : Value) (F : Fld) (A1 : Option Addr) (rooms : List Int) (n1 c1 : Nat) (A2 : Option Addr) (needs : List Int) (n2 c2 : Nat) (A3 : Option Addr) (S : List Int) (n3 c3 : Nat) (w : World) (hf : FldAt w f F) (h1 : IntsAt w A1 rooms) (hn1 : rooms.length = n1) (h2 : IntsAt w A2 needs) (hn2 : needs.length = n2) (h3 : IntsAt w A3 S) (hn3 : S.length = n3) :
    Calls Try.prog 30 #[f, .slice A1 n1 c1, .slice A2 n2 c2, .slice A3 n3 c3] w fun e w' => e = .returned (.bool (haulB F rooms needs S)) ∧ Kp w w' := by
  obtain ⟨A, c, B, d, rfl, hA, hB⟩ := hf
  have hk0 : Kp w (w.alloc (.cells #[.slice A F.op.length c, .slice B F.di.length d] 27)) := (Kp.refl w).alloc _
  obtain ⟨d0, d1⟩ := box2 w (.slice A F.op.length c) (.slice B F.di.length d) 27
  have hFA := FldAt.kp (show FldAt w (.agg #[.slice A F.op.length c, .slice B F.di.length d]) F from ⟨A, c, B, d, rfl, hA, hB⟩) hk0
  replace h1 := h1.kp hk0
  replace h2 := h2.kp hk0
  replace h3 := h3.kp hk0
  have Hn1 := Lib.hid hn1; have Hn2 := Lib.hid hn2; have Hn3 := Lib.hid hn3
  clear hA hB hn1 hn2 hn3
  go_enter Try.func30, Try.ntmps30
  go_wp2_with fail
  have hsz : Hid ((w.alloc (.cells #[.slice A F.op.length c, .slice B F.di.length d] 27)).heap.size = w.heap.size + 1) := by show _ = _; simp
  generalize w.alloc (.cells #[.slice A F.op.length c, .slice B F.di.length d] 27) = wb at *
  have hkb : Kp wb wb := Kp.refl _
  have hkw := hk0
  have q_d0 := hkb.get d0
  have q_d1 := hkb.get d1
  go_wp2_with fail
  have CC := Lib.hid (isOpened_any _ F A3 S n3 c3 wb hFA h3 Hn3.out)
  with_reducible refine Calls.mono CC.out ?_
  rintro e w1 ⟨rfl, hk1⟩
  clear CC q_d0 q_d1
  replace hkb := hkb.trans hk1
  cases hg_ : openedB F S
  · have Hno : Hid (haulB F rooms needs S = false) := by show _ = _; rw [haulB, hg_]; rfl
    clear hg_
    have q_d0 := hkb.get d0
    have q_d1 := hkb.get d1
    go_wp2_with fail
    go_ret
    exact ⟨by rw [Hno.out]; rfl, hkw.trans hkb⟩
  have Hy : Hid (haulB F rooms needs S = needsB F rooms needs) := by show _ = _; rw [haulB, hg_]; rfl
  clear hg_
  have q_d0 := hkb.get d0
  have q_d1 := hkb.get d1
  go_wp2_with fail
  have CC := Lib.hid (areNeeds_any _ F A1 rooms n1 c1 A2 needs n2 c2 _ (hFA.kp hkb) (h1.kp hkb) Hn1.out (h2.kp hkb) Hn2.out)
  with_reducible refine Calls.mono CC.out ?_
  rintro e w2 ⟨rfl, hk2⟩
  clear CC q_d0 q_d1
  replace hkb := hkb.trans hk2
  have q_d0 := hkb.get d0
  have q_d1 := hkb.get d1
  go_wp2_with fail
  go_ret
  exact ⟨by rw [Hy.out]; rfl, hkw.trans hkb⟩
end Go.Proofs.Ytgdicmeabppngaa

namespace Go.Proofs.Ytgdicmeabppngaa
def lget (xs : List Int) (k : Nat) : Int := xs.getD k 0
theorem lget_at {xs : List Int} {k : Nat} (h : k < xs.length) : lget xs k = xs[k] := by simp [lget, List.getD, h]
end Go.Proofs.Ytgdicmeabppngaa

namespace Go.Proofs.Ytgdicmeabppngaa
open Go.RowKit Go.Sort

theorem sumTo_pos {g : Nat → Int} {K : Nat} (h : ∀ i, i < K → 0 ≤ g i) : ∀ k, k ≤ K → 0 ≤ sumTo g k
  | 0, _ => by simp [sumTo_zero]
  | k + 1, hk => by
    have h1 := sumTo_pos h k (by omega)
    have h2 := h k (by omega)
    rw [sumTo_succ]; omega
theorem sumTo_le {g : Nat → Int} {K : Nat} (h : ∀ i, i < K → 0 ≤ g i) {k : Nat} : ∀ m, k ≤ m → m ≤ K → sumTo g k ≤ sumTo g m
  | 0, hk, _ => by obtain rfl : k = 0 := by omega
                   exact Int.le_refl _
  | m + 1, hk, hm => by
    by_cases e : k = m + 1
    · subst e; exact Int.le_refl _
    · have h1 := sumTo_le (k := k) h m (by omega) (by omega)
      have h2 := h m (by omega)
      rw [sumTo_succ]; omega
theorem sumTo_lget (xs : List Int) : sumTo (lget xs) xs.length = xs.sum := by
  unfold sumTo mapTo
  congr 1
  apply List.ext_getElem
  · simp
  · intro i hi hi2
    simp [lget, List.getD, hi2]
theorem sum_small {xs : List Int} {M : Int} (h : ∀ x ∈ xs, 0 ≤ x ∧ x ≤ M) : ∀ k, k ≤ xs.length → 0 ≤ (xs.take k).sum ∧ (xs.take k).sum ≤ k * M
  | 0, _ => by simp
  | k + 1, hk => by
    have h1 := sum_small h k (by omega)
    have h2 := h _ (List.getElem_mem (show k < xs.length by omega))
    rw [List.take_succ_eq_append_getElem (show k < xs.length by omega), List.sum_append]
    simp only [List.sum_cons, List.sum_nil]
    have h3 : ((k + 1 : Nat) : Int) * M = k * M + M := by rw [Int.natCast_add, Int.add_mul]; simp
    omega

/-- Row j of a flow, its number for site a, and what is sent to site a by the first clients. -/
def flAt (flow : List (List Int)) (j a : Nat) : Int := lget (flow.getD j []) a
def colS (flow : List (List Int)) (a k : Nat) : Int := sumTo (fun j => flAt flow j a) k
def flHas (S : List Int) (a : Nat) : Bool := S.any fun y => y == (a : Int)
def flCell (need : Int) (S : List Int) (x : Int) (a : Nat) : Bool := inB x 0 need && !(decide (0 < x) && !flHas S a)
def flCells (need : Int) (S row : List Int) (k : Nat) : Bool := (List.range k).all fun a => flCell need S (lget row a) a
def flRow (n : Nat) (need : Int) (S row : List Int) : Bool := flCells need S row row.length && (decide (row.length = n) && decide (row.sum = need))
def flRows (n : Nat) (needs S : List Int) (flow : List (List Int)) (k : Nat) : Bool := (List.range k).all fun j => flRow n (lget needs j) S (flow.getD j [])
def flCols (rooms : List Int) (flow : List (List Int)) (k : Nat) : Bool := (List.range k).all fun a => decide (colS flow a flow.length ≤ lget rooms a)
def flowB (F : Fld) (rooms needs S : List Int) (flow : List (List Int)) : Bool :=
  decide (flow.length = F.di.length) && (flRows F.op.length needs S flow flow.length && flCols rooms flow F.op.length)
theorem flCell_iff {need : Int} {S : List Int} {x : Int} {a : Nat} : flCell need S x a = true ↔ 0 ≤ x ∧ x ≤ need ∧ (0 < x → flHas S a = true) := by
  unfold flCell
  rw [Bool.and_eq_true, inB_iff]
  by_cases hx : 0 < x <;> cases hf : flHas S a <;> simp [hx]
theorem flCells_iff {need : Int} {S row : List Int} {k : Nat} : flCells need S row k = true ↔ ∀ a, a < k → 0 ≤ lget row a ∧ lget row a ≤ need ∧ (0 < lget row a → flHas S a = true) := by
  unfold flCells
  rw [List.all_eq_true]
  constructor
  · intro h a ha; exact flCell_iff.1 (h a (List.mem_range.2 ha))
  · intro h a ha; exact flCell_iff.2 (h a (List.mem_range.1 ha))
theorem flRow_iff {n : Nat} {need : Int} {S row : List Int} : flRow n need S row = true ↔ row.length = n ∧ (∀ a, a < n → 0 ≤ lget row a ∧ lget row a ≤ need ∧ (0 < lget row a → flHas S a = true)) ∧ sumTo (lget row) n = need := by
  unfold flRow
  rw [Bool.and_eq_true, Bool.and_eq_true, decide_eq_true_eq, decide_eq_true_eq, flCells_iff, ← sumTo_lget]
  constructor
  · rintro ⟨h1, rfl, h3⟩; exact ⟨rfl, h1, h3⟩
  · rintro ⟨rfl, h1, h3⟩; exact ⟨h1, rfl, h3⟩
theorem flRows_iff {n : Nat} {needs S : List Int} {flow : List (List Int)} {k : Nat} : flRows n needs S flow k = true ↔ ∀ j, j < k → flRow n (lget needs j) S (flow.getD j []) = true := by
  unfold flRows
  rw [List.all_eq_true]
  exact ⟨fun h j hj => h j (List.mem_range.2 hj), fun h j hj => h j (List.mem_range.1 hj)⟩
theorem flRows_succ {n : Nat} {needs S : List Int} {flow : List (List Int)} {k : Nat} : flRows n needs S flow (k + 1) = (flRows n needs S flow k && flRow n (lget needs k) S (flow.getD k [])) := by
  unfold flRows; rw [List.range_succ, List.all_append]; simp
theorem flCols_iff {rooms : List Int} {flow : List (List Int)} {k : Nat} : flCols rooms flow k = true ↔ ∀ a, a < k → colS flow a flow.length ≤ lget rooms a := by
  unfold flCols
  rw [List.all_eq_true]
  exact ⟨fun h j hj => by simpa using h j (List.mem_range.2 hj), fun h j hj => by simpa using h j (List.mem_range.1 hj)⟩
theorem flCols_succ {rooms : List Int} {flow : List (List Int)} {k : Nat} : flCols rooms flow (k + 1) = (flCols rooms flow k && decide (colS flow k flow.length ≤ lget rooms k)) := by
  unfold flCols; rw [List.range_succ, List.all_append]; simp
theorem flCells_succ {need : Int} {S row : List Int} {k : Nat} : flCells need S row (k + 1) = (flCells need S row k && flCell need S (lget row k) k) := by
  unfold flCells; rw [List.range_succ, List.all_append]; simp
theorem colS_succ (flow : List (List Int)) (a k : Nat) : colS flow a (k + 1) = colS flow a k + flAt flow k a := sumTo_succ _ _
/-- The three ways in which lists are no flow. -/
theorem flow_len {F : Fld} {rooms needs S : List Int} {flow : List (List Int)} (h : flow.length ≠ F.di.length) : flowB F rooms needs S flow = false := by simp [flowB, h]
theorem flow_row {F : Fld} {rooms needs S : List Int} {flow : List (List Int)} {j : Nat} (hj : j < flow.length) (h : flRow F.op.length (lget needs j) S (flow.getD j []) = false) : flowB F rooms needs S flow = false := by
  cases hb : flowB F rooms needs S flow
  · rfl
  · simp only [flowB, Bool.and_eq_true, decide_eq_true_eq] at hb
    rw [flRows_iff.1 hb.2.1 j hj] at h; exact absurd h (by simp)
theorem flow_col {F : Fld} {rooms needs S : List Int} {flow : List (List Int)} {a : Nat} (ha : a < F.op.length) (h : ¬ colS flow a flow.length ≤ lget rooms a) : flowB F rooms needs S flow = false := by
  cases hb : flowB F rooms needs S flow
  · rfl
  · simp only [flowB, Bool.and_eq_true, decide_eq_true_eq] at hb
    exact absurd (flCols_iff.1 hb.2.2 a ha) h
theorem flow_yes {F : Fld} {rooms needs S : List Int} {flow : List (List Int)} (h1 : flow.length = F.di.length) (h2 : flRows F.op.length needs S flow flow.length = true) (h3 : flCols rooms flow F.op.length = true) : flowB F rooms needs S flow = true := by
  simp [flowB, h1, h3]; rw [← h1]; exact h2
theorem flow_parts {F : Fld} {rooms needs S : List Int} {flow : List (List Int)} (h : flowB F rooms needs S flow = true) : flow.length = F.di.length ∧ (∀ j, j < flow.length → flRow F.op.length (lget needs j) S (flow.getD j []) = true) ∧ ∀ a, a < F.op.length → colS flow a flow.length ≤ lget rooms a := by
  simp only [flowB, Bool.and_eq_true, decide_eq_true_eq] at h
  exact ⟨h.1, flRows_iff.1 h.2.1, flCols_iff.1 h.2.2⟩
theorem flAt_pos {n : Nat} {needs S : List Int} {flow : List (List Int)} {j a : Nat} (h : flRow n (lget needs j) S (flow.getD j []) = true) (ha : a < n) : 0 ≤ flAt flow j a ∧ flAt flow j a ≤ lget needs j := by
  have := (flRow_iff.1 h).2.1 a ha
  exact ⟨this.1, this.2.1⟩
theorem col_bd {n : Nat} {needs S : List Int} {flow : List (List Int)} {a : Nat} (hn : ∀ j, lget needs j ≤ 5) (ha : a < n) : ∀ k, flRows n needs S flow k = true → 0 ≤ colS flow a k ∧ colS flow a k ≤ k * 5
  | 0, _ => by simp [colS, sumTo_zero]
  | k + 1, h => by
    rw [flRows_succ, Bool.and_eq_true] at h
    have h1 := col_bd hn ha k h.1
    have h2 := flAt_pos h.2 ha
    have h3 := hn k
    rw [colS_succ]; omega
/-- What is used when client k has sent to the first a sites. -/
def usedL (flow : List (List Int)) (n k a : Nat) : List Int := (List.range n).map fun b => if b < a then colS flow b (k + 1) else colS flow b k
theorem usedL_len (flow : List (List Int)) (n k a : Nat) : (usedL flow n k a).length = n := by simp [usedL]
theorem usedL_zero (flow : List (List Int)) (n : Nat) : usedL flow n 0 0 = List.replicate n 0 := by
  unfold usedL
  apply List.ext_getElem
  · simp
  · intro i h1 h2; simp [colS, sumTo_zero]
theorem usedL_end (flow : List (List Int)) (n k : Nat) : usedL flow n k n = usedL flow n (k + 1) 0 := by
  unfold usedL
  apply List.map_congr_left
  intro b hb
  have := List.mem_range.1 hb
  simp [this]
theorem usedL_at (flow : List (List Int)) {n k a : Nat} (ha : a < n) (a0 : Nat) (h0 : a0 ≤ a) : lget (usedL flow n k a0) a = colS flow a k := by
  rw [lget_at (by rw [usedL_len]; exact ha)]
  simp [usedL]; omega
theorem usedL_set (flow : List (List Int)) {n k a : Nat} : (usedL flow n k a).set a (colS flow a k + flAt flow k a) = usedL flow n k (a + 1) := by
  apply List.ext_getElem
  · simp [usedL]
  · intro i h1 h2
    rw [List.getElem_set]
    by_cases e : a = i
    · subst e; simp [usedL, colS_succ]
    · simp only [if_neg e, usedL, List.getElem_map, List.getElem_range]
      by_cases hl : i < a
      · rw [if_pos hl, if_pos (by omega)]
      · rw [if_neg hl, if_neg (by omega)]
/-- What is left of the rooms then. -/
def leftL (rooms : List Int) (flow : List (List Int)) (n k a : Nat) : List Int := (List.range n).map fun b => lget rooms b - (if b < a then colS flow b (k + 1) else colS flow b k)
theorem leftL_len (rooms : List Int) (flow : List (List Int)) (n k a : Nat) : (leftL rooms flow n k a).length = n := by simp [leftL]
theorem leftL_zero {rooms : List Int} {flow : List (List Int)} {n : Nat} (h : rooms.length = n) : leftL rooms flow n 0 0 = rooms := by
  unfold leftL
  apply List.ext_getElem
  · simp [h]
  · intro i h1 h2; simp [colS, sumTo_zero, lget, List.getD, h2]
theorem leftL_end (rooms : List Int) (flow : List (List Int)) (n k : Nat) : leftL rooms flow n k n = leftL rooms flow n (k + 1) 0 := by
  unfold leftL
  apply List.map_congr_left
  intro b hb
  have := List.mem_range.1 hb
  simp [this]
theorem leftL_at (rooms : List Int) (flow : List (List Int)) {n k a : Nat} (ha : a < n) : lget (leftL rooms flow n k a) a = lget rooms a - colS flow a k := by
  rw [lget_at (by rw [leftL_len]; exact ha)]
  simp [leftL]
theorem leftL_set (rooms : List Int) (flow : List (List Int)) {n k a : Nat} : (leftL rooms flow n k a).set a (lget rooms a - colS flow a k - flAt flow k a) = leftL rooms flow n k (a + 1) := by
  apply List.ext_getElem
  · simp [leftL]
  · intro i h1 h2
    rw [List.getElem_set]
    by_cases e : a = i
    · subst e; simp [leftL, colS_succ]; omega
    · simp only [if_neg e, leftL, List.getElem_map, List.getElem_range]
      by_cases hl : i < a
      · rw [if_pos hl, if_pos (by omega)]
      · rw [if_neg hl, if_neg (by omega)]
/-- The program's state: all rows before are rows of a flow, the first numbers of this row are good, no site has more than its rooms. -/
structure flSt (F : Fld) (rooms needs S : List Int) (flow : List (List Int)) (k a : Nat) : Prop where
  rows : flRows F.op.length needs S flow k = true
  cells : ∀ b, b < a → 0 ≤ flAt flow k b ∧ flAt flow k b ≤ lget needs k ∧ (0 < flAt flow k b → flHas S b = true)
  sum : sumTo (flAt flow k) a ≤ lget needs k
  room : ∀ b, b < F.op.length → (if b < a then colS flow b (k + 1) else colS flow b k) ≤ lget rooms b
theorem flSt_first {F : Fld} {rooms needs S : List Int} {flow : List (List Int)} (h0 : ∀ a, 0 ≤ lget rooms a) (h1 : ∀ a, 0 ≤ lget needs a) : flSt F rooms needs S flow 0 0 :=
  ⟨rfl, fun b hb => absurd hb (by omega), by rw [sumTo_zero]; exact h1 0, fun b _ => by simp [colS, sumTo_zero, h0 b]⟩
theorem flSt.pos {F : Fld} {rooms needs S : List Int} {flow : List (List Int)} {k a : Nat} (h : flSt F rooms needs S flow k a) : 0 ≤ sumTo (flAt flow k) a := sumTo_pos (fun b hb => (h.cells b hb).1) a (Nat.le_refl _)
theorem flSt.next {F : Fld} {rooms needs S : List Int} {flow : List (List Int)} {k a : Nat} (h : flSt F rooms needs S flow k a) (ha : a < F.op.length) (h0 : 0 ≤ flAt flow k a) (h1 : flAt flow k a ≤ lget needs k - sumTo (flAt flow k) a) (h2 : flAt flow k a ≤ lget rooms a - colS flow a k) (h3 : 0 < flAt flow k a → flHas S a = true) : flSt F rooms needs S flow k (a + 1) := by
  have hp := h.pos
  refine ⟨h.rows, fun b hb => ?_, by rw [sumTo_succ]; omega, fun b hb => ?_⟩
  · by_cases e : b = a
    · subst e; exact ⟨h0, by omega, h3⟩
    · exact h.cells b (by omega)
  · by_cases e : b = a
    · subst e; rw [if_pos (by omega), colS_succ]; omega
    · have := h.room b hb
      by_cases hl : b < a
      · rw [if_pos hl] at this; rw [if_pos (by omega)]; exact this
      · rw [if_neg hl] at this; rw [if_neg (by omega)]; exact this
theorem flSt.bad {F : Fld} {rooms needs S : List Int} {flow : List (List Int)} {k a : Nat} (hk : k < flow.length) (ha : a < F.op.length) (hb : ¬ (0 ≤ flAt flow k a ∧ flAt flow k a ≤ lget needs k - sumTo (flAt flow k) a ∧ flAt flow k a ≤ lget rooms a - colS flow a k ∧ (0 < flAt flow k a → flHas S a = true))) : flowB F rooms needs S flow = false := by
  cases hf : flowB F rooms needs S flow
  · rfl
  · exfalso
    obtain ⟨p1, p2, p3⟩ := flow_parts hf
    obtain ⟨r1, r2, r3⟩ := flRow_iff.1 (p2 k hk)
    have c := r2 a ha
    have s1 := sumTo_le (g := flAt flow k) (K := F.op.length) (fun i hi => (r2 i hi).1) (k := a + 1) F.op.length (by omega) (Nat.le_refl _)
    have e : sumTo (flAt flow k) F.op.length = lget needs k := r3
    rw [e, sumTo_succ] at s1
    have s2 := sumTo_le (g := fun j => flAt flow j a) (K := flow.length) (fun i hi => ((flRow_iff.1 (p2 i hi)).2.1 a ha).1) (k := k + 1) flow.length (by omega) (Nat.le_refl _)
    have s3 : colS flow a (k + 1) ≤ lget rooms a := Int.le_trans s2 (p3 a ha)
    rw [colS_succ] at s3
    exact hb ⟨c.1, by omega, by omega, c.2.2⟩
theorem flSt.row {F : Fld} {rooms needs S : List Int} {flow : List (List Int)} {k : Nat} (h : flSt F rooms needs S flow k F.op.length) (hl : (flow.getD k []).length = F.op.length) (hn : sumTo (flAt flow k) F.op.length = lget needs k) (h1 : ∀ a, 0 ≤ lget needs a) : flSt F rooms needs S flow (k + 1) 0 := by
  refine ⟨?_, fun b hb => absurd hb (by omega), by rw [sumTo_zero]; exact h1 _, fun b hb => ?_⟩
  · rw [flRows_succ, h.rows, Bool.true_and]
    exact flRow_iff.2 ⟨hl, fun a ha => h.cells a ha, hn⟩
  · have := h.room b hb
    rw [if_pos hb] at this
    rw [if_neg (by omega)]; exact this
theorem flSt.short {F : Fld} {rooms needs S : List Int} {flow : List (List Int)} {k : Nat} (hk : k < flow.length) (hn : sumTo (flAt flow k) F.op.length ≠ lget needs k) : flowB F rooms needs S flow = false := by
  refine flow_row hk ?_
  cases h : flRow F.op.length (lget needs k) S (flow.getD k [])
  · rfl
  · exact absurd (flRow_iff.1 h).2.2 hn
theorem flow_rowlen {F : Fld} {rooms needs S : List Int} {flow : List (List Int)} {k : Nat} (hk : k < flow.length) (hn : (flow.getD k []).length ≠ F.op.length) : flowB F rooms needs S flow = false := by
  refine flow_row hk ?_
  cases h : flRow F.op.length (lget needs k) S (flow.getD k [])
  · rfl
  · exact absurd (flRow_iff.1 h).1 hn
theorem flSt.done {F : Fld} {rooms needs S : List Int} {flow : List (List Int)} {k : Nat} (h : flSt F rooms needs S flow k 0) (hk : k = flow.length) (hl : flow.length = F.di.length) : flowB F rooms needs S flow = true := by
  subst hk
  refine flow_yes hl h.rows (flCols_iff.2 fun a ha => ?_)
  have := h.room a ha
  rw [if_neg (by omega)] at this; exact this

/-- What a flow costs. -/
def costRow (F : Fld) (flow : List (List Int)) (j a : Nat) : Int := sumTo (fun a => flAt flow j a * dAt F j (a : Int)) a
def costFl (F : Fld) (flow : List (List Int)) (k : Nat) : Int := sumTo (fun j => costRow F flow j F.op.length) k
theorem prod_bd {x y : Int} (h0 : 0 ≤ x) (h1 : x ≤ 5) (h2 : 0 ≤ y) (h3 : y ≤ 99) : 0 ≤ x * y ∧ x * y ≤ 495 := by
  refine ⟨Int.mul_nonneg h0 h2, ?_⟩
  have := Int.mul_le_mul h1 h3 h2 (by omega)
  omega
theorem costRow_bd {F : Fld} {needs S : List Int} {flow : List (List Int)} {j : Nat} (hg : goodF F = true) (hj : j < F.di.length) (hn : ∀ j, lget needs j ≤ 5) (h : flRow F.op.length (lget needs j) S (flow.getD j []) = true) : ∀ a, a ≤ F.op.length → 0 ≤ costRow F flow j a ∧ costRow F flow j a ≤ a * 495
  | 0, _ => by simp [costRow, sumTo_zero]
  | a + 1, ha => by
    have h1 := costRow_bd hg hj hn h a (by omega)
    obtain ⟨h2, h3⟩ := flAt_pos h (show a < F.op.length by omega)
    obtain ⟨h4, h5⟩ := dAt_bd hg hj (a : Int)
    have h6 := hn j
    obtain ⟨h7, h8⟩ := prod_bd h2 (by omega) h4 h5
    have e : costRow F flow j (a + 1) = costRow F flow j a + flAt flow j a * dAt F j (a : Int) := sumTo_succ _ _
    rw [e]; omega
theorem costFl_bd {F : Fld} {needs S : List Int} {flow : List (List Int)} (hg : goodF F = true) (hn : ∀ j, lget needs j ≤ 5) (h : ∀ j, j < F.di.length → flRow F.op.length (lget needs j) S (flow.getD j []) = true) : ∀ k, k ≤ F.di.length → 0 ≤ costFl F flow k ∧ costFl F flow k ≤ k * 3465
  | 0, _ => by simp [costFl, sumTo_zero]
  | k + 1, hk => by
    have h1 := costFl_bd hg hn h k (by omega)
    obtain ⟨h2, h3⟩ := costRow_bd hg (show k < F.di.length by omega) hn (h k (by omega)) F.op.length (Nat.le_refl _)
    have h7 := (goodF_iff.1 hg).1.2
    have e : costFl F flow (k + 1) = costFl F flow k + costRow F flow k F.op.length := sumTo_succ _ _
    rw [e]; omega
theorem lget_all {xs : List Int} {M : Int} (hM : 0 ≤ M) (h : ∀ x ∈ xs, 0 ≤ x ∧ x ≤ M) (i : Nat) : 0 ≤ lget xs i ∧ lget xs i ≤ M := by
  by_cases hi : i < xs.length
  · rw [lget_at hi]; exact h _ (List.getElem_mem hi)
  · have : lget xs i = 0 := by unfold lget; rw [List.getD_eq_getElem?_getD, List.getElem?_eq_none (by omega)]; rfl
    rw [this]; exact ⟨Int.le_refl _, hM⟩
def fcIn (F : Fld) (rooms needs S : List Int) (flow : List (List Int)) : Bool := haulB F rooms needs S && flowB F rooms needs S flow
def fcV (F : Fld) (rooms needs S : List Int) (flow : List (List Int)) : Int := if fcIn F rooms needs S flow = true then costFl F flow F.di.length else 0
end Go.Proofs.Ytgdicmeabppngaa

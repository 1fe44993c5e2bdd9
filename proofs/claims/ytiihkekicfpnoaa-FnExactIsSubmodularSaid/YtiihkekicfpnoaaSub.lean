/- Which tables are submodular: the program's answer and the reference's. No condition. -/
import Derived.Test.YtiihkekicfpnoaaMono
namespace Go.Proofs.Ytiihkekicfpnoaa
open Go.RowKit

def okS (xs : List Int) (a b : Nat) : Bool := !decide (xs.getD a 0 + xs.getD b 0 < xs.getD (a &&& b) 0 + xs.getD (a ||| b) 0)
def subB (xs : List Int) : Bool := (List.range xs.length).all fun a => (List.range xs.length).all (okS xs a)
theorem okS_val {xs : List Int} {a b : Nat} (ha : a < xs.length) (hb : b < xs.length) (h1 : a &&& b < xs.length) (h2 : a ||| b < xs.length) : okS xs a b = !decide (xs[a] + xs[b] < xs[a &&& b] + xs[a ||| b]) := by
  simp [okS, List.getD, ha, hb, h1, h2]
theorem not_sub {xs : List Int} {a b n : Nat} (hn : Hid (xs.length = n)) (ha : a < n) (hb : b < n) (h : okS xs a b = false) : subB xs = false := by
  have e := hn.out; subst e; exact not_all2 ha hb h
theorem is_sub {xs : List Int} {a n : Nat} (hn : Hid (xs.length = n)) (hk : a ≤ n) (hge : ¬ a < n) (h : Hid (((List.range a).all fun a => (List.range n).all (okS xs a)) = true)) : subB xs = true := by
  have e := hn.out; subst e
  have : a = xs.length := by omega
  subst this; exact h
theorem isTab_or {n : Int} {xs : List Int} (h : isTab n xs = true) {a b : Nat} (ha : a < xs.length) (hb : b < xs.length) : a ||| b < xs.length := by
  simp only [isTab, Bool.and_eq_true, beq_iff_eq, inB_iff] at h
  rw [h.1.2] at ha hb ⊢
  exact Nat.or_lt_two_pow ha hb
theorem sum_bd {xs : List Int} (h : ∀ x ∈ xs, -1000000 ≤ x ∧ x ≤ 1000000) {a b : Nat} (ha : a < xs.length) (hb : b < xs.length) : IntKind.i64.wrap (xs[a] + xs[b]) = xs[a] + xs[b] := by
  have h1 := h _ (List.getElem_mem ha)
  have h2 := h _ (List.getElem_mem hb)
  exact IntWalk.i64_in _ (by omega)

set_option maxHeartbeats 1000000 in
theorem specSub_any (A : Option Addr) (xs : List Int) (m c : Nat) (n : Int) (w : World) (hx : IntsAt w A xs) (hnx : xs.length = m) :
    Calls Try.prog 14 #[.int .i64 n, .slice A m c] w fun e w' => e = .returned (.tuple #[.bool (isTab n xs && subB xs), .bool (isTab n xs)]) ∧ Kp w w' := by
  have hm : m ≤ 9223372036854775807 := hnx ▸ hx.1
  have Hx := Lib.hid hnx; clear hnx
  cases hT : isTab n xs
  · have HT := Lib.hid hT; clear hT
    go_enter Try.func14, Try.ntmps14
    go_wp2_with fail
    refine (l8Table_any A xs m c n _ hx Hx.out).mono ?_
    rintro e w' ⟨rfl, rfl⟩
    rw [HT.out]
    go_wp2
    go_ret2
    exact ⟨rfl, Kp.refl _⟩
  · have HT := Lib.hid hT; clear hT
    go_enter Try.func14, Try.ntmps14
    go_wp2_with fail
    refine (l8Table_any A xs m c n _ hx Hx.out).mono ?_
    rintro e w' ⟨rfl, rfl⟩
    rw [HT.out]
    go_wp2_with fail
    go_loopw [6, 7] (fun i j wr => ∃ a : Nat, a ≤ m ∧ i = .int .i64 a ∧ Hid (((List.range a).all fun a => (List.range m).all (okS xs a)) = true) ∧ Kp w wr) (fun i _ _ => m - (intOf i).toNat)
    case atStart => exact ⟨0, by omega, rfl, rfl, Kp.refl _⟩
    case round =>
      obtain ⟨a, ha, rfl, Hp, hkp⟩ := hrel
      by_cases hlt : a < m
      · have lx : a < xs.length := by rw [Hx.out]; exact hlt
        go_wp2_with fail
        go_loopw [7] (fun j wi => ∃ b : Nat, b ≤ m ∧ j = .int .i64 b ∧ Hid ((List.range b).all (okS xs a) = true) ∧ Kp w wi) (fun j _ => m - (intOf j).toNat)
        case atStart => exact ⟨0, by omega, rfl, rfl, hkp⟩
        case round =>
          obtain ⟨b, hb, rfl, Hq, hkq⟩ := hrel
          by_cases hlb : b < m
          · have ly : b < xs.length := by rw [Hx.out]; exact hlb
            obtain ⟨ad, rfl, hc⟩ := (hx.kp hkq).at_ lx
            have hd := (hx.kp hkq).some_ ly
            have la : a &&& b < xs.length := Nat.lt_of_le_of_lt Nat.and_le_left lx
            have lo : a ||| b < xs.length := isTab_or HT.out lx ly
            have l1 : a &&& b < m := by rw [← Hx.out]; exact la
            have l2 : a ||| b < m := by rw [← Hx.out]; exact lo
            have hand := i64_and_nat a b (by omega) (by omega)
            have hor := i64_or_nat a b (by omega) (by omega)
            have hc1 := (hx.kp hkq).some_ la
            have hc2 := (hx.kp hkq).some_ lo
            have s1 := sum_bd (isTab_mem HT.out) lx ly
            have s2 := sum_bd (isTab_mem HT.out) la lo
            have hok := Lib.hid (okS_val lx ly la lo)
            go_wp2_with fail
            go_quiet (fail)
            go_wp2_with fail
            · have hlt2 : xs[a] + xs[b] < xs[a &&& b] + xs[a ||| b] := by assumption
              go_ret2
              refine ⟨?_, hkq.drewN _⟩
              rw [not_sub Hx hlt hlb (by rw [hok.out]; simp [hlt2])]
              rfl
            · have hlt2 : xs[a &&& b] + xs[a ||| b] ≤ xs[a] + xs[b] := by assumption
              go_roundw
              case rel => exact ⟨b + 1, by omega, by go_num, all_next Hq (by rw [hok.out]; simp; omega), hkq.drewN _⟩
              case measure => simp [intOf]; omega
          · go_wp2_with fail
            go_roundw
            case rel => exact ⟨a + 1, by omega, by go_num, all_next Hp (row_done hb hlb Hq), hkq⟩
            case measure => simp [intOf]; omega
      · go_wp2_with fail
        go_ret2
        rw [is_sub Hx ha hlt Hp]
        exact ⟨rfl, hkp⟩

set_option maxHeartbeats 1000000 in
theorem implSub_any (A : Option Addr) (xs : List Int) (m c : Nat) (n : Int) (w : World) (hx : IntsAt w A xs) (hnx : xs.length = m) :
    Calls Try.prog 15 #[.int .i64 n, .slice A m c] w fun e w' => e = .returned (.tuple #[.bool (isTab n xs && subB xs), .bool (isTab n xs)]) ∧ Kp w w' := by
  have hm : m ≤ 9223372036854775807 := hnx ▸ hx.1
  have Hx := Lib.hid hnx; clear hnx
  cases hT : isTab n xs
  · have HT := Lib.hid hT; clear hT
    go_enter Try.func15, Try.ntmps15
    go_wp2_with fail
    refine (isTable_any A xs m c n _ hx Hx.out).mono ?_
    rintro e w1 ⟨rfl, hk1⟩
    rw [HT.out]
    go_wp2
    go_ret2
    exact ⟨rfl, hk1⟩
  · have HT := Lib.hid hT; clear hT
    go_enter Try.func15, Try.ntmps15
    go_wp2_with fail
    refine (isTable_any A xs m c n _ hx Hx.out).mono ?_
    rintro e w1 ⟨rfl, hk1⟩
    rw [HT.out]
    go_wp2_with fail
    go_loopw [16] (fun i wr => ∃ a : Nat, a ≤ m ∧ i = .int .i64 a ∧ Hid (((List.range a).all fun a => (List.range m).all (okS xs a)) = true) ∧ Kp w wr) (fun i _ => m - (intOf i).toNat)
    case atStart => exact ⟨0, by omega, rfl, rfl, hk1⟩
    case round =>
      obtain ⟨a, ha, rfl, Hp, hkp⟩ := hrel
      by_cases hlt : a < m
      · have lx : a < xs.length := by rw [Hx.out]; exact hlt
        obtain ⟨ad, rfl, hc⟩ := (hx.kp hkp).at_ lx
        go_wp2_with fail
        go_loopw [23] (fun j wi => ∃ b : Nat, b ≤ m ∧ j = .int .i64 b ∧ Hid ((List.range b).all (okS xs a) = true) ∧ Kp w wi) (fun j _ => m - (intOf j).toNat)
        case atStart => exact ⟨0, by omega, rfl, rfl, hkp⟩
        case round =>
          obtain ⟨b, hb, rfl, Hq, hkq⟩ := hrel
          by_cases hlb : b < m
          · have ly : b < xs.length := by rw [Hx.out]; exact hlb
            have hd := (hx.kp hkq).some_ ly
            have la : a &&& b < xs.length := Nat.lt_of_le_of_lt Nat.and_le_left lx
            have lo : a ||| b < xs.length := isTab_or HT.out lx ly
            have l1 : a &&& b < m := by rw [← Hx.out]; exact la
            have l2 : a ||| b < m := by rw [← Hx.out]; exact lo
            have hand := i64_and_nat a b (by omega) (by omega)
            have hor := i64_or_nat a b (by omega) (by omega)
            have hc1 := (hx.kp hkq).some_ la
            have hc2 := (hx.kp hkq).some_ lo
            have s1 := sum_bd (isTab_mem HT.out) lx ly
            have s2 := sum_bd (isTab_mem HT.out) la lo
            have hok := Lib.hid (okS_val lx ly la lo)
            go_wp2_with fail
            go_quiet (fail)
            go_wp2_with fail
            · have hlt2 : xs[a] + xs[b] < xs[a &&& b] + xs[a ||| b] := by assumption
              go_ret2
              refine ⟨?_, hkq.drewN _⟩
              rw [not_sub Hx hlt hlb (by rw [hok.out]; simp [hlt2])]
              rfl
            · have hlt2 : xs[a &&& b] + xs[a ||| b] ≤ xs[a] + xs[b] := by assumption
              go_roundw
              case rel => exact ⟨b + 1, by omega, by go_num, all_next Hq (by rw [hok.out]; simp; omega), hkq.drewN _⟩
              case measure => simp [intOf]; omega
          · go_wp2_with fail
            go_roundw
            case rel => exact ⟨a + 1, by omega, by go_num, all_next Hp (row_done hb hlb Hq), hkq⟩
            case measure => simp [intOf]; omega
      · go_wp2_with fail
        go_ret2
        rw [is_sub Hx ha hlt Hp]
        exact ⟨rfl, hkp⟩
end Go.Proofs.Ytiihkekicfpnoaa

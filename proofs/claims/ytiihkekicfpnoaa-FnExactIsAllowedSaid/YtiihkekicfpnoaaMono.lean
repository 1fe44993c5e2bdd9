/- Which tables are monotone, which are submodular: the program's answer and the reference's. No condition. -/
import Derived.Test.YtiihkekicfpnoaaTabs
namespace Go.Proofs.Ytiihkekicfpnoaa
open Go.RowKit

def okM (xs : List Int) (a b : Nat) : Bool := !(((a &&& b : Nat) : Int) == (a : Int) && decide (xs.getD b 0 < xs.getD a 0))
def monoB (xs : List Int) : Bool := (List.range xs.length).all fun a => (List.range xs.length).all (okM xs a)
theorem okM_guard {xs : List Int} {a b : Nat} (h : (((a &&& b : Nat) : Int) == (a : Int)) = false) : okM xs a b = true := by simp [okM, h]
theorem okM_val {xs : List Int} {a b : Nat} (ha : a < xs.length) (hb : b < xs.length) (h : (((a &&& b : Nat) : Int) == (a : Int)) = true) : okM xs a b = !decide (xs[b] < xs[a]) := by
  simp [okM, h, List.getD, ha, hb]
theorem all_next {p : Nat → Bool} {k : Nat} (h : Hid ((List.range k).all p = true)) (e : p k = true) : Hid ((List.range (k + 1)).all p = true) := by
  show (List.range (k + 1)).all p = true
  rw [all_range_succ, h.out, e]; rfl
theorem not_all2 {p : Nat → Nat → Bool} {a b n m : Nat} (ha : a < n) (hb : b < m) (h : p a b = false) : ((List.range n).all fun a => (List.range m).all (p a)) = false :=
  all_range_false ha (all_range_false hb h)
theorem not_mono {xs : List Int} {a b n : Nat} (hn : Hid (xs.length = n)) (ha : a < n) (hb : b < n) (h : okM xs a b = false) : monoB xs = false := by
  have e := hn.out; subst e; exact not_all2 ha hb h
theorem is_mono {xs : List Int} {a n : Nat} (hn : Hid (xs.length = n)) (hk : a ≤ n) (hge : ¬ a < n) (h : Hid (((List.range a).all fun a => (List.range n).all (okM xs a)) = true)) : monoB xs = true := by
  have e := hn.out; subst e
  have : a = xs.length := by omega
  subst this; exact h
theorem row_done {p : Nat → Bool} {b n : Nat} (hk : b ≤ n) (hge : ¬ b < n) (h : Hid ((List.range b).all p = true)) : (List.range n).all p = true := by
  have : b = n := by omega
  subst this; exact h

set_option maxHeartbeats 1000000 in
theorem specMono_any (A : Option Addr) (xs : List Int) (m c : Nat) (n : Int) (w : World) (hx : IntsAt w A xs) (hnx : xs.length = m) :
    Calls Try.prog 10 #[.int .i64 n, .slice A m c] w fun e w' => e = .returned (.tuple #[.bool (isTab n xs && monoB xs), .bool (isTab n xs)]) ∧ Kp w w' := by
  have hm : m ≤ 9223372036854775807 := hnx ▸ hx.1
  have Hx := Lib.hid hnx; clear hnx
  cases hT : isTab n xs
  · have HT := Lib.hid hT; clear hT
    go_enter Try.func10, Try.ntmps10
    go_wp2_with fail
    refine (l8Table_any A xs m c n _ hx Hx.out).mono ?_
    rintro e w' ⟨rfl, rfl⟩
    rw [HT.out]
    go_wp2
    go_ret2
    exact ⟨rfl, Kp.refl _⟩
  · have HT := Lib.hid hT; clear hT
    go_enter Try.func10, Try.ntmps10
    go_wp2_with fail
    refine (l8Table_any A xs m c n _ hx Hx.out).mono ?_
    rintro e w' ⟨rfl, rfl⟩
    rw [HT.out]
    go_wp2_with fail
    go_loopw [6, 7] (fun i j wr => ∃ a : Nat, a ≤ m ∧ i = .int .i64 a ∧ Hid (((List.range a).all fun a => (List.range m).all (okM xs a)) = true) ∧ Kp w wr) (fun i _ _ => m - (intOf i).toNat)
    case atStart => exact ⟨0, by omega, rfl, rfl, Kp.refl _⟩
    case round =>
      obtain ⟨a, ha, rfl, Hp, hkp⟩ := hrel
      by_cases hlt : a < m
      · have lx : a < xs.length := by rw [Hx.out]; exact hlt
        go_wp2_with fail
        go_loopw [7] (fun j wi => ∃ b : Nat, b ≤ m ∧ j = .int .i64 b ∧ Hid ((List.range b).all (okM xs a) = true) ∧ Kp w wi) (fun j _ => m - (intOf j).toNat)
        case atStart => exact ⟨0, by omega, rfl, rfl, hkp⟩
        case round =>
          obtain ⟨b, hb, rfl, Hq, hkq⟩ := hrel
          by_cases hlb : b < m
          · have ly : b < xs.length := by rw [Hx.out]; exact hlb
            obtain ⟨ad, rfl, hc⟩ := (hx.kp hkq).at_ lx
            have hd := (hx.kp hkq).some_ ly
            have hand := i64_and_nat a b (by omega) (by omega)
            cases hg : (((a &&& b : Nat) : Int) == (a : Int))
            · have hok := Lib.hid (okM_guard (xs := xs) hg)
              go_wp2_with fail
              go_quiet (fail)
              go_wp2_with fail
              go_roundw
              case rel => exact ⟨b + 1, by omega, by go_num, all_next Hq hok.out, hkq.drewN _⟩
              case measure => simp [intOf]; omega
            · have hok := Lib.hid (okM_val (xs := xs) lx ly hg)
              go_wp2_with fail
              go_quiet (fail)
              go_wp2_with fail
              · have hlt2 : xs[b] < xs[a] := by assumption
                go_ret2
                refine ⟨?_, hkq.drewN _⟩
                rw [not_mono Hx hlt hlb (by rw [hok.out]; simp [hlt2])]
                rfl
              · have hlt2 : xs[a] ≤ xs[b] := by assumption
                go_roundw
                case rel => exact ⟨b + 1, by omega, by go_num, all_next Hq (by rw [hok.out]; simp; omega), hkq.drewN _⟩
                case measure => simp [intOf]; omega
          · go_wp2_with fail
            go_roundw
            case rel => exact ⟨a + 1, by omega, by go_num, all_next Hp (row_done hb hlb Hq), hkq⟩
            case measure => simp [intOf]; omega
      · go_wp2_with fail
        go_ret2
        rw [is_mono Hx ha hlt Hp]
        exact ⟨rfl, hkp⟩

set_option maxHeartbeats 1000000 in
theorem implMono_any (A : Option Addr) (xs : List Int) (m c : Nat) (n : Int) (w : World) (hx : IntsAt w A xs) (hnx : xs.length = m) :
    Calls Try.prog 12 #[.int .i64 n, .slice A m c] w fun e w' => e = .returned (.tuple #[.bool (isTab n xs && monoB xs), .bool (isTab n xs)]) ∧ Kp w w' := by
  have hm : m ≤ 9223372036854775807 := hnx ▸ hx.1
  have Hx := Lib.hid hnx; clear hnx
  cases hT : isTab n xs
  · have HT := Lib.hid hT; clear hT
    go_enter Try.func12, Try.ntmps12
    go_wp2_with fail
    refine (isTable_any A xs m c n _ hx Hx.out).mono ?_
    rintro e w1 ⟨rfl, hk1⟩
    rw [HT.out]
    go_wp2
    go_ret2
    exact ⟨rfl, hk1⟩
  · have HT := Lib.hid hT; clear hT
    go_enter Try.func12, Try.ntmps12
    go_wp2_with fail
    refine (isTable_any A xs m c n _ hx Hx.out).mono ?_
    rintro e w1 ⟨rfl, hk1⟩
    rw [HT.out]
    go_wp2_with fail
    go_loopw [16] (fun i wr => ∃ a : Nat, a ≤ m ∧ i = .int .i64 a ∧ Hid (((List.range a).all fun a => (List.range m).all (okM xs a)) = true) ∧ Kp w wr) (fun i _ => m - (intOf i).toNat)
    case atStart => exact ⟨0, by omega, rfl, rfl, hk1⟩
    case round =>
      obtain ⟨a, ha, rfl, Hp, hkp⟩ := hrel
      by_cases hlt : a < m
      · have lx : a < xs.length := by rw [Hx.out]; exact hlt
        obtain ⟨ad, rfl, hc⟩ := (hx.kp hkp).at_ lx
        go_wp2_with fail
        go_loopw [23] (fun j wi => ∃ b : Nat, b ≤ m ∧ j = .int .i64 b ∧ Hid ((List.range b).all (okM xs a) = true) ∧ Kp w wi) (fun j _ => m - (intOf j).toNat)
        case atStart => exact ⟨0, by omega, rfl, rfl, hkp⟩
        case round =>
          obtain ⟨b, hb, rfl, Hq, hkq⟩ := hrel
          by_cases hlb : b < m
          · have ly : b < xs.length := by rw [Hx.out]; exact hlb
            have hd := (hx.kp hkq).some_ ly
            have hand := i64_and_nat a b (by omega) (by omega)
            cases hg : (((a &&& b : Nat) : Int) == (a : Int))
            · have hok := Lib.hid (okM_guard (xs := xs) hg)
              go_wp2_with fail
              go_roundw
              case rel => exact ⟨b + 1, by omega, by go_num, all_next Hq hok.out, hkq⟩
              case measure => simp [intOf]; omega
            · have hok := Lib.hid (okM_val (xs := xs) lx ly hg)
              go_wp2_with fail
              · have hlt2 : xs[b] < xs[a] := by assumption
                go_ret2
                refine ⟨?_, hkq⟩
                rw [not_mono Hx hlt hlb (by rw [hok.out]; simp [hlt2])]
                rfl
              · have hlt2 : xs[a] ≤ xs[b] := by assumption
                go_roundw
                case rel => exact ⟨b + 1, by omega, by go_num, all_next Hq (by rw [hok.out]; simp; omega), hkq⟩
                case measure => simp [intOf]; omega
          · go_wp2_with fail
            go_roundw
            case rel => exact ⟨a + 1, by omega, by go_num, all_next Hp (row_done hb hlb Hq), hkq⟩
            case measure => simp [intOf]; omega
      · go_wp2_with fail
        go_ret2
        rw [is_mono Hx ha hlt Hp]
        exact ⟨rfl, hkp⟩
end Go.Proofs.Ytiihkekicfpnoaa

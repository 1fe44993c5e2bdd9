/- Which tables are monotone, which are submodular: the program's answer and the reference's. No condition. -/
import Derived.Test.YtjoebikljmkhfaaTabs
namespace Go.Proofs.Ytjoebikljmkhfaa
open Go.RowKit

def okM (xs : List Int) (a b : Nat) : Bool := !(((a &&& b : Nat) : Int) == (a : Int) && decide (xs.getD b 0 < xs.getD a 0))
def monoB (xs : List Int) : Bool := (List.range xs.length).all fun a => (List.range xs.length).all (okM xs a)
theorem okM_guard {xs : List Int} {a b : Nat} (h : (((a &&& b : Nat) : Int) == (a : Int)) = false) : okM xs a b = true := by simp [okM, h]
theorem okM_val {xs : List Int} {a b : Nat} (ha : a < xs.length) (hb : b < xs.length) (h : (((a &&& b : Nat) : Int) == (a : Int)) = true) : okM xs a b = !decide (xs[b] < xs[a]) := by
  simp [okM, h, List.getD, ha, hb]
theorem all_next {p : Nat → Bool} {k : Nat} (h : Hid ((List.range k).all p = true)) (e : p k = true) : Hid ((List.range (k + 1)).all p = true) := by
  show (List.range (k + 1)).all p = true
  rw [all_range_succ, h.out, e]; rfl
theorem not_all2 {p : Nat → Nat → Bool} {a b n m : Nat} (ha : a < n) (hb : b < m) (h : p a b = false) : ((List.range n).all fun a => (List.range m).all (p a)) = false :=
  all_range_false ha (all_range_false hb h)
theorem not_mono {xs : List Int} {a b n : Nat} (hn : Hid (xs.length = n)) (ha : a < n) (hb : b < n) (h : okM xs a b = false) : monoB xs = false := by
  have e := hn.out; subst e; exact not_all2 ha hb h
theorem is_mono {xs : List Int} {a n : Nat} (hn : Hid (xs.length = n)) (hk : a ≤ n) (hge : ¬ a < n) (h : Hid (((List.range a).all fun a => (List.range n).all (okM xs a)) = true)) : monoB xs = true := by
  have e := hn.out; subst e
  have : a = xs.length := by omega
  subst this; exact h
theorem row_done {p : Nat → Bool} {b n : Nat} (hk : b ≤ n) (hge : ¬ b < n) (h : Hid ((List.range b).all p = true)) : (List.range n).all p = true := by
  have : b = n := by omega
  subst this; exact h

end Go.Proofs.Ytjoebikljmkhfaa

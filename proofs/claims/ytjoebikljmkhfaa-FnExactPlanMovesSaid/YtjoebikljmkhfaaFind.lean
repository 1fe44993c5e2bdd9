/- slices.ContainsFunc over lists of integers, for any test that only makes new memory. No condition. -/
import Derived.Test.YtjoebikljmkhfaaBase
namespace Go.Proofs.Ytjoebikljmkhfaa
open Go.RowKit

theorem callFunc_of {P : Program} {F : FuncId} {fn : Func} (hf : P.funcs[F]? = some fn) (hn : (fn.name == "runtime.NumGoroutine") = false) (hb : fn.body.isNone = false) (args : Array Value) (w : World) :
    Sem.run P (callFunc F args) w = .ok (.enter F args) w := by
  have hn' : ¬ fn.name = "runtime.NumGoroutine" := by simpa using hn
  have hb' : ¬ fn.body = none := fun h => by rw [h] at hb; simp at hb
  simp [callFunc, go_sem, hf, hn', hb']
theorem any_take_succ {α : Type} {p : α → Bool} {xs : List α} {k : Nat} (h : (xs.take k).any p = false) (hk : k < xs.length) (e : p xs[k] = false) : (xs.take (k + 1)).any p = false := by
  rw [List.take_succ_eq_append_getElem hk, List.any_append, h]; simp [e]
theorem any_of {α : Type} {p : α → Bool} {xs : List α} {k : Nat} (hk : k < xs.length) (e : p xs[k] = true) : xs.any p = true := by
  rw [List.any_eq_true]; exact ⟨_, List.getElem_mem hk, e⟩

set_option maxHeartbeats 400000 in
theorem indexFunc_any (F : FuncId) (caps : Array Value) (p : Int → Bool) (A : Option Addr) (xs : List Int) (n c : Nat) (w : World) (hx : IntsAt w A xs) (hnx : xs.length = n)
    (hF : ∀ (args : Array Value) (w : World), Sem.run Try.prog (callFunc F args) w = .ok (.enter F args) w)
    (hf : ∀ k (hk : k < xs.length) (w' : World), Kp w w' → Calls Try.prog F (#[.int .i64 xs[k]] ++ caps) w' fun e w'' => e = .returned (.bool (p xs[k])) ∧ Kp w' w'') :
    Calls Try.prog 59 #[.slice A n c, .func (.func F) #[] caps] w fun e w' => ∃ r : Int, e = .returned (.int .i64 r) ∧ decide (0 ≤ r) = xs.any p ∧ Kp w w' := by
  have hn : n ≤ 9223372036854775807 := hnx ▸ hx.1
  have Hx := Lib.hid hnx; clear hnx
  have Hf := Lib.hid hf; clear hf
  go_enter Try.func59, Try.ntmps59
  go_wp2
  go_loopw [8] (fun i wr => ∃ k : Nat, k ≤ n ∧ i = .int .i64 k ∧ Hid ((xs.take k).any p = false) ∧ Kp w wr) (fun i _ => n - (intOf i).toNat)
  case atStart => exact ⟨0, by omega, rfl, rfl, Kp.refl w⟩
  case round =>
    obtain ⟨k, hk, rfl, Hp, hkp⟩ := hrel
    by_cases hlt : k < n
    · have lx : k < xs.length := by rw [Hx.out]; exact hlt
      obtain ⟨ad, rfl, hc⟩ := (hx.kp hkp).at_ lx
      go_wp2_with fail
      refine (Hf.out k lx wr hkp).mono ?_
      rintro e w1 ⟨rfl, hk1⟩
      cases hpk : p xs[k]
      · go_wp2
        go_roundw
        case rel => exact ⟨k + 1, by omega, by go_num, any_take_succ Hp.out lx hpk, hkp.trans hk1⟩
        case measure => simp [intOf]; omega
      · go_wp2
        go_ret
        exact ⟨k, rfl, by rw [any_of lx hpk]; simp, hkp.trans hk1⟩
    · go_wp2
      go_ret
      refine ⟨-1, rfl, ?_, hkp⟩
      have hp := Hp.out
      rw [List.take_of_length_le (by rw [Hx.out]; omega)] at hp
      rw [hp]; rfl

theorem containsFunc_any (F : FuncId) (caps : Array Value) (p : Int → Bool) (A : Option Addr) (xs : List Int) (n c : Nat) (w : World) (hx : IntsAt w A xs) (hnx : xs.length = n)
    (hF : ∀ (args : Array Value) (w : World), Sem.run Try.prog (callFunc F args) w = .ok (.enter F args) w)
    (hf : ∀ k (hk : k < xs.length) (w' : World), Kp w w' → Calls Try.prog F (#[.int .i64 xs[k]] ++ caps) w' fun e w'' => e = .returned (.bool (p xs[k])) ∧ Kp w' w'') :
    Calls Try.prog 50 #[.slice A n c, .func (.func F) #[] caps] w fun e w' => e = .returned (.bool (xs.any p)) ∧ Kp w w' := by
  have Hx := Lib.hid hnx; clear hnx
  have Hf := Lib.hid hf; clear hf
  go_enter Try.func50, Try.ntmps50
  go_wp2_with fail
  refine (indexFunc_any F caps p A xs n c w hx Hx.out hF Hf.out).mono ?_
  rintro e w1 ⟨r, rfl, hr, hk1⟩
  have Hr := Lib.hid hr; clear hr
  go_wp2
  go_ret
  exact ⟨ret_bool Hr.out, hk1⟩

/-- All within bounds. -/
def allB (xs : List Int) (lo hi : Int) : Bool := xs.all fun x => inB x lo hi
theorem allB_iff {xs : List Int} {lo hi : Int} : allB xs lo hi = true ↔ ∀ x ∈ xs, lo ≤ x ∧ x ≤ hi := by simp [allB, inB]

theorem areBetween_clo (a : Int) (p q : Addr) (lo hi : Int) (w : World) (h1 : w.cell? p = some (.int .i64 lo)) (h2 : w.cell? q = some (.int .i64 hi)) :
    Calls Try.prog 51 #[.int .i64 a, .pointer (some p), .pointer (some q)] w fun e w' => e = .returned (.bool (!inB a lo hi)) ∧ Kp w w' := by
  go_enter Try.func51, Try.ntmps51
  go_wp2_with (go_at_call 38; refine (between_any _ _ _ _).mono ?_; rintro e w' ⟨rfl, rfl⟩)
  go_ret
  exact ⟨rfl, Kp.refl _⟩

theorem areBetween_any (A : Option Addr) (xs : List Int) (n c : Nat) (lo hi : Int) (w : World) (hx : IntsAt w A xs) (hnx : xs.length = n) :
    Calls Try.prog 39 #[.slice A n c, .int .i64 lo, .int .i64 hi] w fun e w' => e = .returned (.bool (allB xs lo hi)) ∧ Kp w w' := by
  have Hx := Lib.hid hnx; clear hnx
  have hmf : ∀ (fn : Fn) (first cap : Array Value) (w : World), (Instr.makeFunc fn first cap).run Try.prog w = .ok (.func fn first cap) w := fun _ _ _ _ => rfl
  have hk2 : Kp w ((w.alloc (.cells #[.int .i64 lo] 3)).alloc (.cells #[.int .i64 hi] 3)) := ((Kp.refl w).alloc _).alloc _
  have c1 : ((w.alloc (.cells #[.int .i64 lo] 3)).alloc (.cells #[.int .i64 hi] 3)).cell? ⟨w.heap.size, 0, none⟩ = some (.int .i64 lo) := by
    rw [World.cell?_alloc_past _ _ _ (by simp), World.cell?_alloc_at _ _ _ _ rfl]; rfl
  have c2 : ((w.alloc (.cells #[.int .i64 lo] 3)).alloc (.cells #[.int .i64 hi] 3)).cell? ⟨w.heap.size + 1, 0, none⟩ = some (.int .i64 hi) := by
    rw [World.cell?_alloc_at _ _ _ _ (by simp)]; rfl
  go_enter Try.func39, Try.ntmps39
  go_wp2_with fail
  refine (containsFunc_any _ _ (fun x => !inB x lo hi) A xs n c _ (hx.kp hk2) Hx.out (callFunc_of Try.func51 (by kernel_rfl) (by kernel_rfl)) ?_).mono ?_
  · intro k hk w' hk'
    exact areBetween_clo _ _ _ lo hi w' (hk'.get c1) (hk'.get c2)
  rintro e w1 ⟨rfl, hk1⟩
  go_wp2
  go_ret
  refine ⟨ret_bool ?_, hk2.trans hk1⟩
  show (!xs.any fun x => !inB x lo hi) = xs.all fun x => inB x lo hi
  rw [List.all_eq_not_any_not]
end Go.Proofs.Ytjoebikljmkhfaa

/- The frame of a law's proof where an argument is a field; slices.ContainsFunc over lists of integers, for any test that only makes new memory; Tables of sets: which lists are tables, which tables are monotone, which are submodular: plain words; Which fields are valid: the program's answer and the reference's; Small words for the walks of laws; Which tables are monotone, which are submodular: the program's answer and the reference's; Which lists are sets of sites: the program's answer and the reference's; append of one number to a slice of the call's own; By which site of a set a client is served, and how far it is: the program's answer and the reference's; Gains of sets: the program's answer and the reference's; Fields with a set of at least one site: the program's test and the reference's; Rooms and needs: reference and program; A number of a list, 0 behind its end. No condition. -/
import Derived.Test.YtbfmencamaicbaaGreatQAa
import Derived.Lib.SmallJoins
import Derived.Deep.RegionWith
import Derived.Deep.DeepCutAuto
import Derived.OwnWalk
import Derived.Maps.AppendAt
namespace Go.Proofs.YtbfmencamaicbaaGreat
open Go.ChangeShapes Go.WideShapes Go.ChangeAt Go.RowKit Go.Deep Go.Joins

section
variable {H : Type} {enc : TypeId × Value → H} {P : Program} {W : World}
theorem intsAt_of_trod {t e : TypeId} {fuel : Nat} {v : Value} {y : DataW H × List MemPlace} (ht : P.underlying t = some (.slice e)) (he : P.underlying e = some (.int .i64)) (hc : P.cellsOf e = 1)
    (hf : DataW.trod enc P W 0 (fun _ => true) true fuel t [v] = some y) : ∃ A xs c, v = .slice A xs.length c ∧ IntsAt W A xs := by
  rcases open_ints ht he hc hf with ⟨hcs, _⟩ | ⟨a', len', cap', zs, hcs, _, hl, hm, hz, _, hcell, _⟩
  · simp at hcs
    subst hcs
    exact ⟨none, [], 0, rfl, IntsAt.nil _ _⟩
  · simp at hcs
    subst hcs
    simp only [if_true] at hz
    have hlen : (zs.take len').length = len' := by rw [List.length_take]; omega
    refine ⟨some a', zs.take len', cap', by rw [hlen], by rw [hlen]; unfold maxLen at hm; omega, fun k hk => ⟨a', rfl, ?_⟩⟩
    rw [hlen] at hk
    rw [hcell k (by omega)]
    simp [List.getD, List.getElem?_take, hk]
theorem gridAt_of_trod {t e q : TypeId} {fuel : Nat} {v : Value} {y : DataW H × List MemPlace} (ht : P.underlying t = some (.slice e)) (he : P.underlying e = some (.slice q)) (hq : P.underlying q = some (.int .i64)) (ce : P.cellsOf e = 1) (cq : P.cellsOf q = 1)
    (hf : DataW.trod enc P W 0 (fun _ => true) true fuel t [v] = some y) : ∃ B rows c, v = .slice B rows.length c ∧ GridAt W B rows := by
  rcases open_int_rows ht he hq ce cq hf with ⟨hcs, _⟩ | ⟨a, len, cap, A, L, C, Z, hcs, _, hl, hm, _, hr⟩
  · simp at hcs
    subst hcs
    exact ⟨none, [], 0, rfl, by simp, fun k hk => absurd hk (by simp)⟩
  · simp at hcs
    subst hcs
    have hlen : ((List.range len).map fun r => (Z r).take (L r)).length = len := by simp
    refine ⟨some a, (List.range len).map fun r => (Z r).take (L r), cap, by rw [hlen], by rw [hlen]; unfold maxLen at hm; omega, fun k hk => ?_⟩
    rw [hlen] at hk
    obtain ⟨h1, h2, h3, h4, _, h6, h7⟩ := hr k (by omega)
    have e1 : ((List.range len).map fun r => (Z r).take (L r)).getD k [] = (Z k).take (L k) := by simp [List.getD, hk]
    have e2 : ((Z k).take (L k)).length = L k := by rw [List.length_take]; omega
    rw [e1]
    refine ⟨a, A k, C k, rfl, by rw [e2]; exact h1, by rw [e2]; unfold maxLen at h3; omega, fun i hi => ?_⟩
    rw [e2] at hi
    cases hA : A k with
    | none => have := h6 hA; omega
    | some a' =>
      refine ⟨a', rfl, ?_⟩
      rw [(h7 a' hA).2 i (by omega)]
      simp [List.getD, List.getElem?_take, hi]
end
theorem cellsLField : Tryz.prog.cellsOf 25 = 2 := by kernel_rfl
set_option maxRecDepth 100000 in
/-- An argument that is a field. -/
theorem open_fldAt {H : Type} {enc : TypeId × Value → H} {W : World} {v : Value} {d : DataW H} {p : List MemPlace} {b0 : Nat}
    (hv : Value.okWide Tryz.prog W .any b0 25 v) (h : DataW.Trod enc Tryz.prog W 0 (fun _ => true) true 25 v d p) : ∃ F, FldAt W v F := by
  obtain ⟨c0, c1, y0, y1, m, rfl, rfl, rfl, hy0, hy1⟩ := open_agg2 Tryz.underlying25 (by kernel_rfl) cellsLField hv h
  obtain ⟨A, xs, c, rfl, hA⟩ := intsAt_of_trod Tryz.underlying22 Tryz.underlying3 cellsInt hy0
  obtain ⟨B, rows, d, rfl, hB⟩ := gridAt_of_trod Tryz.underlying23 Tryz.underlying22 Tryz.underlying3 cellsInts cellsInt hy1
  exact ⟨⟨xs, rows⟩, A, c, B, d, rfl, hA, hB⟩

theorem Fld.bulk_op {F : Fld} (h : F.bulk ≤ 1048576) : F.op.length ≤ 9223372036854775807 := by unfold Fld.bulk at h; omega
end Go.Proofs.YtbfmencamaicbaaGreat

namespace Go.Proofs.YtbfmencamaicbaaGreat
open Go.RowKit

theorem callFunc_of {P : Program} {F : FuncId} {fn : Func} (hf : P.funcs[F]? = some fn) (hn : (fn.name == "runtime.NumGoroutine") = false) (hb : fn.body.isNone = false) (args : Array Value) (w : World) :
    Sem.run P (callFunc F args) w = .ok (.enter F args) w := by
  have hn' : ¬ fn.name = "runtime.NumGoroutine" := by simpa using hn
  have hb' : ¬ fn.body = none := fun h => by rw [h] at hb; simp at hb
  simp [callFunc, go_sem, hf, hn', hb']
theorem any_take_succ {α : Type} {p : α → Bool} {xs : List α} {k : Nat} (h : (xs.take k).any p = false) (hk : k < xs.length) (e : p xs[k] = false) : (xs.take (k + 1)).any p = false := by
  rw [List.take_succ_eq_append_getElem hk, List.any_append, h]; simp [e]
theorem any_of {α : Type} {p : α → Bool} {xs : List α} {k : Nat} (hk : k < xs.length) (e : p xs[k] = true) : xs.any p = true := by
  rw [List.any_eq_true]; exact ⟨_, List.getElem_mem hk, e⟩

set_option maxHeartbeats 400000 in
theorem indexFunc_any (F : FuncId) (caps : Array Value) (p : Int → Bool) (A : Option Addr) (xs : List Int) (n c : Nat) (w : World) (hx : IntsAt w A xs) (hnx : xs.length = n)
    (hF : ∀ (args : Array Value) (w : World), Sem.run Tryz.prog (callFunc F args) w = .ok (.enter F args) w)
    (hf : ∀ k (hk : k < xs.length) (w' : World), Kp w w' → Calls Tryz.prog F (#[.int .i64 xs[k]] ++ caps) w' fun e w'' => e = .returned (.bool (p xs[k])) ∧ Kp w' w'') :
    Calls Tryz.prog 67 #[.slice A n c, .func (.func F) #[] caps] w fun e w' => ∃ r : Int, e = .returned (.int .i64 r) ∧ decide (0 ≤ r) = xs.any p ∧ Kp w w' := by
  have hn : n ≤ 9223372036854775807 := hnx ▸ hx.1
  have Hx := Lib.hid hnx; clear hnx
  have Hf := Lib.hid hf; clear hf
  go_enter Tryz.func67, Tryz.ntmps67
  go_wp2
  go_loopw [8] (fun i wr => ∃ k : Nat, k ≤ n ∧ i = .int .i64 k ∧ Hid ((xs.take k).any p = false) ∧ Kp w wr) (fun i _ => n - (intOf i).toNat)
  case atStart => exact ⟨0, by omega, rfl, rfl, Kp.refl w⟩
  case round =>
    obtain ⟨k, hk, rfl, Hp, hkp⟩ := hrel
    by_cases hlt : k < n
    · have lx : k < xs.length := by rw [Hx.out]; exact hlt
      obtain ⟨ad, rfl, hc⟩ := (hx.kp hkp).at_ lx
      go_wp2_with fail
      refine (Hf.out k lx wr hkp).mono ?_
      rintro e w1 ⟨rfl, hk1⟩
      cases hpk : p xs[k]
      · go_wp2
        go_roundw
        case rel => exact ⟨k + 1, by omega, by go_num, any_take_succ Hp.out lx hpk, hkp.trans hk1⟩
        case measure => simp [intOf]; omega
      · go_wp2
        go_ret
        exact ⟨k, rfl, by rw [any_of lx hpk]; simp, hkp.trans hk1⟩
    · go_wp2
      go_ret
      refine ⟨-1, rfl, ?_, hkp⟩
      have hp := Hp.out
      rw [List.take_of_length_le (by rw [Hx.out]; omega)] at hp
      rw [hp]; rfl

theorem containsFunc_any (F : FuncId) (caps : Array Value) (p : Int → Bool) (A : Option Addr) (xs : List Int) (n c : Nat) (w : World) (hx : IntsAt w A xs) (hnx : xs.length = n)
    (hF : ∀ (args : Array Value) (w : World), Sem.run Tryz.prog (callFunc F args) w = .ok (.enter F args) w)
    (hf : ∀ k (hk : k < xs.length) (w' : World), Kp w w' → Calls Tryz.prog F (#[.int .i64 xs[k]] ++ caps) w' fun e w'' => e = .returned (.bool (p xs[k])) ∧ Kp w' w'') :
    Calls Tryz.prog 57 #[.slice A n c, .func (.func F) #[] caps] w fun e w' => e = .returned (.bool (xs.any p)) ∧ Kp w w' := by
  have Hx := Lib.hid hnx; clear hnx
  have Hf := Lib.hid hf; clear hf
  go_enter Tryz.func57, Tryz.ntmps57
  go_wp2_with fail
  refine (indexFunc_any F caps p A xs n c w hx Hx.out hF Hf.out).mono ?_
  rintro e w1 ⟨r, rfl, hr, hk1⟩
  have Hr := Lib.hid hr; clear hr
  go_wp2
  go_ret
  exact ⟨ret_bool Hr.out, hk1⟩

/-- All within bounds. -/
def allB (xs : List Int) (lo hi : Int) : Bool := xs.all fun x => inB x lo hi
theorem allB_iff {xs : List Int} {lo hi : Int} : allB xs lo hi = true ↔ ∀ x ∈ xs, lo ≤ x ∧ x ≤ hi := by simp [allB, inB]

theorem areBetween_clo (a : Int) (p q : Addr) (lo hi : Int) (w : World) (h1 : w.cell? p = some (.int .i64 lo)) (h2 : w.cell? q = some (.int .i64 hi)) :
    Calls Tryz.prog 58 #[.int .i64 a, .pointer (some p), .pointer (some q)] w fun e w' => e = .returned (.bool (!inB a lo hi)) ∧ Kp w w' := by
  go_enter Tryz.func58, Tryz.ntmps58
  go_wp2_with (go_at_call 37; refine (between_any _ _ _ _).mono ?_; rintro e w' ⟨rfl, rfl⟩)
  go_ret
  exact ⟨rfl, Kp.refl _⟩

theorem areBetween_any (A : Option Addr) (xs : List Int) (n c : Nat) (lo hi : Int) (w : World) (hx : IntsAt w A xs) (hnx : xs.length = n) :
    Calls Tryz.prog 38 #[.slice A n c, .int .i64 lo, .int .i64 hi] w fun e w' => e = .returned (.bool (allB xs lo hi)) ∧ Kp w w' := by
  have Hx := Lib.hid hnx; clear hnx
  have hmf : ∀ (fn : Fn) (first cap : Array Value) (w : World), (Instr.makeFunc fn first cap).run Tryz.prog w = .ok (.func fn first cap) w := fun _ _ _ _ => rfl
  have hk2 : Kp w ((w.alloc (.cells #[.int .i64 lo] 3)).alloc (.cells #[.int .i64 hi] 3)) := ((Kp.refl w).alloc _).alloc _
  have c1 : ((w.alloc (.cells #[.int .i64 lo] 3)).alloc (.cells #[.int .i64 hi] 3)).cell? ⟨w.heap.size, 0, none⟩ = some (.int .i64 lo) := by
    rw [World.cell?_alloc_past _ _ _ (by simp), World.cell?_alloc_at _ _ _ _ rfl]; rfl
  have c2 : ((w.alloc (.cells #[.int .i64 lo] 3)).alloc (.cells #[.int .i64 hi] 3)).cell? ⟨w.heap.size + 1, 0, none⟩ = some (.int .i64 hi) := by
    rw [World.cell?_alloc_at _ _ _ _ (by simp)]; rfl
  go_enter Tryz.func38, Tryz.ntmps38
  go_wp2_with fail
  refine (containsFunc_any _ _ (fun x => !inB x lo hi) A xs n c _ (hx.kp hk2) Hx.out (callFunc_of Tryz.func58 (by kernel_rfl) (by kernel_rfl)) ?_).mono ?_
  · intro k hk w' hk'
    exact areBetween_clo _ _ _ lo hi w' (hk'.get c1) (hk'.get c2)
  rintro e w1 ⟨rfl, hk1⟩
  go_wp2
  go_ret
  refine ⟨ret_bool ?_, hk2.trans hk1⟩
  show (!xs.any fun x => !inB x lo hi) = xs.all fun x => inB x lo hi
  rw [List.all_eq_not_any_not]
end Go.Proofs.YtbfmencamaicbaaGreat

namespace Go.Proofs.YtbfmencamaicbaaGreat
open Go.RowKit

theorem all_range_succ {p : Nat → Bool} {k : Nat} : (List.range (k + 1)).all p = ((List.range k).all p && p k) := by
  rw [List.range_succ, List.all_append]; simp
theorem all_range_false {p : Nat → Bool} {k n : Nat} (hk : k < n) (h : p k = false) : (List.range n).all p = false := by
  rw [List.all_eq_false]; exact ⟨k, by simpa using hk, by simp [h]⟩
theorem all_take_succ {α : Type} {p : α → Bool} {xs : List α} {k : Nat} (h : (xs.take k).all p = true) (hk : k < xs.length) (e : p xs[k] = true) : (xs.take (k + 1)).all p = true := by
  rw [List.take_succ_eq_append_getElem hk, List.all_append, h]; simp [e]
theorem all_false_of {α : Type} {p : α → Bool} {xs : List α} {k : Nat} (hk : k < xs.length) (e : p xs[k] = false) : xs.all p = false := by
  rw [List.all_eq_false]; exact ⟨_, List.getElem_mem hk, by simp [e]⟩
theorem ofInt_i64 (a : Nat) (ha : a < 9223372036854775808) : (BitVec.ofInt 64 (a : Int)).toNat = a := by
  rw [BitVec.ofInt_natCast, BitVec.toNat_ofNat]; exact Nat.mod_eq_of_lt (by omega)
theorem i64_and_nat (a b : Nat) (ha : a < 9223372036854775808) (hb : b < 9223372036854775808) : bits .and .i64 (a : Int) (b : Int) = ((a &&& b : Nat) : Int) := by
  have hx : a &&& b < 2 ^ 63 := Nat.and_lt_two_pow _ (by omega)
  show IntKind.i64.wrap ((BitVec.ofInt 64 (a : Int) &&& BitVec.ofInt 64 (b : Int)).toNat : Int) = _
  rw [BitVec.toNat_and, ofInt_i64 a ha, ofInt_i64 b hb, IntKind.wrap_i64]
  omega
theorem i64_or_nat (a b : Nat) (ha : a < 9223372036854775808) (hb : b < 9223372036854775808) : bits .or .i64 (a : Int) (b : Int) = ((a ||| b : Nat) : Int) := by
  have hx : a ||| b < 2 ^ 63 := Nat.or_lt_two_pow (by omega) (by omega)
  show IntKind.i64.wrap ((BitVec.ofInt 64 (a : Int) ||| BitVec.ofInt 64 (b : Int)).toNat : Int) = _
  rw [BitVec.toNat_or, ofInt_i64 a ha, ofInt_i64 b hb, IntKind.wrap_i64]
  omega

theorem count_take_succ {α : Type} {p : α → Bool} {xs : List α} {k : Nat} (hk : k < xs.length) : (xs.take (k + 1)).countP p = (xs.take k).countP p + if p xs[k] then 1 else 0 := by
  rw [List.take_succ_eq_append_getElem hk, List.countP_append]; simp [List.countP_cons]
theorem count_le_len {α : Type} (p : α → Bool) (xs : List α) (k : Nat) : (xs.take k).countP p ≤ k := Nat.le_trans List.countP_le_length (by rw [List.length_take]; omega)
/-- A table for n. -/
def isTab (n : Int) (xs : List Int) : Bool := inB n 0 7 && (xs.length == 2 ^ n.toNat) && allB xs (-1000000) 1000000

theorem pow_wrap (n : Int) (h0 : 0 ≤ n) (h7 : n ≤ 7) : ∃ P : Nat, Hid (P = 2 ^ n.toNat) ∧ wrap64 (2 ^ n.toNat) = (P : Int) ∧ P ≤ 128 := by
  have h : 2 ^ n.toNat ≤ 2 ^ 7 := Nat.pow_le_pow_right (by omega) (by omega)
  have h2 : ((2 ^ n.toNat : Nat) : Int) = 2 ^ n.toNat := by simp
  refine ⟨2 ^ n.toNat, rfl, ?_, by omega⟩
  rw [← h2]
  generalize 2 ^ n.toNat = q at h
  unfold wrap64
  omega

theorem isTab_no_n {n : Int} {xs : List Int} (h : inB n 0 7 = false) : isTab n xs = false := by simp [isTab, h]
theorem isTab_no_len {n : Int} {xs : List Int} {m P : Nat} (hx : xs.length = m) (hP : P = 2 ^ n.toNat) (h : m ≠ P) : isTab n xs = false := by
  have : (xs.length == 2 ^ n.toNat) = false := by rw [beq_eq_false_iff_ne]; omega
  simp [isTab, this]
theorem isTab_eq {n : Int} {xs : List Int} {m P : Nat} (hx : xs.length = m) (hP : P = 2 ^ n.toNat) (h : m = P) (hB : inB n 0 7 = true) : isTab n xs = allB xs (-1000000) 1000000 := by
  have : (xs.length == 2 ^ n.toNat) = true := by rw [beq_iff_eq]; omega
  simp [isTab, this, hB]
theorem isTab_len {n : Int} {xs : List Int} (h : isTab n xs = true) : xs.length ≤ 128 := by
  simp only [isTab, Bool.and_eq_true, beq_iff_eq, inB_iff] at h
  have : 2 ^ n.toNat ≤ 2 ^ 7 := Nat.pow_le_pow_right (by omega) (by omega)
  omega
theorem isTab_mem {n : Int} {xs : List Int} (h : isTab n xs = true) : ∀ x ∈ xs, -1000000 ≤ x ∧ x ≤ 1000000 := by
  simp only [isTab, Bool.and_eq_true] at h
  exact allB_iff.1 h.2

end Go.Proofs.YtbfmencamaicbaaGreat

namespace Go.Proofs.YtbfmencamaicbaaGreat
open Go.RowKit Go.Sort

def rowB (n : Nat) (r : List Int) : Bool := allB r 0 99 && (r.length == n)
/-- A valid field. -/
def goodF (F : Fld) : Bool := inB F.op.length 1 7 && rowB F.op.length F.op && decide (F.di.length ≤ 7) && F.di.all (rowB F.op.length)
theorem rowB_iff {n : Nat} {r : List Int} : rowB n r = true ↔ (∀ x ∈ r, 0 ≤ x ∧ x ≤ 99) ∧ r.length = n := by simp [rowB, allB_iff]
theorem goodF_iff {F : Fld} : goodF F = true ↔ (1 ≤ F.op.length ∧ F.op.length ≤ 7) ∧ (∀ x ∈ F.op, 0 ≤ x ∧ x ≤ 99) ∧ F.di.length ≤ 7 ∧ ∀ r ∈ F.di, (∀ x ∈ r, 0 ≤ x ∧ x ≤ 99) ∧ r.length = F.op.length := by
  simp only [goodF, Bool.and_eq_true, inB_iff, decide_eq_true_eq, List.all_eq_true, rowB_iff]
  constructor
  · rintro ⟨⟨⟨⟨h1, h2⟩, h3, _⟩, h4⟩, h5⟩; exact ⟨⟨by omega, by omega⟩, h3, h4, h5⟩
  · rintro ⟨⟨h1, h2⟩, h3, h4, h5⟩; exact ⟨⟨⟨⟨by omega, by omega⟩, h3, trivial⟩, h4⟩, h5⟩

theorem goodRow {F : Fld} (h : goodF F = true) {k : Nat} (hk : k < F.di.length) : F.di[k].length = F.op.length := ((goodF_iff.1 h).2.2.2 _ (List.getElem_mem hk)).2
theorem l2Row_any (A : Option Addr) (xs : List Int) (m c n : Nat) (w : World) (hx : IntsAt w A xs) (hnx : xs.length = m) :
    Calls Tryz.prog 49 #[.slice A m c, .int .i64 n, .int .i64 99] w fun e w' => e = .returned (.bool (rowB n xs)) ∧ w = w' := by
  have hm : m ≤ 9223372036854775807 := hnx ▸ hx.1
  have Hx := Lib.hid hnx; clear hnx
  go_enter Tryz.func49, Tryz.ntmps49
  go_wp2_with fail
  go_loop [7] (fun i => ∃ k : Nat, k ≤ m ∧ i = .int .i64 k ∧ Hid ((xs.take k).all (fun x => inB x 0 99) = true)) (fun i => m - (intOf i).toNat)
  case atStart => exact ⟨0, by omega, rfl, rfl⟩
  case round =>
    obtain ⟨k, hk, rfl, Hp⟩ := hrel
    by_cases hlt : k < m
    · have lx : k < xs.length := by rw [Hx.out]; exact hlt
      obtain ⟨ad, rfl, hc⟩ := hx.at_ lx
      go_wp2_with fail
      refine (l1In_any _ _ _ _).mono ?_
      rintro e w' ⟨rfl, rfl⟩
      cases hpk : inB xs[k] 0 99
      · go_wp2_with fail
        go_ret
        refine ⟨ret_bool ?_, rfl⟩
        have : allB xs 0 99 = false := all_false_of (p := fun x => inB x 0 99) lx hpk
        simp [rowB, this, Array.getD]
      · go_wp2_with fail
        go_round
        case rel => exact ⟨k + 1, by omega, by go_num, all_take_succ Hp.out lx hpk⟩
        case measure => simp [intOf]; omega
    · go_wp2_with fail
      go_ret
      refine ⟨ret_bool ?_, rfl⟩
      have hp := Hp.out
      have e := Hx.out
      rw [List.take_of_length_le (by omega)] at hp
      have : allB xs 0 99 = true := hp
      rw [rowB, this, e, Bool.true_and, Bool.eq_iff_iff]
      simp [Array.getD]
      try omega

theorem goodF_no_rows {F : Fld} (h : F.di.all (rowB F.op.length) = false) : goodF F = false := by simp [goodF, h]

set_option maxHeartbeats 400000 in
theorem l2Good_any (f : Value) (F : Fld) (w : World) (hf : FldAt w f F) :
    Calls Tryz.prog 29 #[f] w fun e w' => e = .returned (.bool (goodF F)) ∧ Kp w w' := by
  obtain ⟨A, c, B, d, rfl, hA, hB⟩ := hf
  have hk0 : Kp w (w.alloc (.cells #[.slice A F.op.length c, .slice B F.di.length d] 29)) := (Kp.refl w).alloc _
  have hA0 := hA.kp hk0
  have hB0 := hB.kp hk0
  have hBl := hB.1
  have hAl := hA.1
  go_enter Tryz.func29, Tryz.ntmps29
  go_wp2_with fail
  go_loop [4] (fun i => ∃ k : Nat, k ≤ F.di.length ∧ i = .int .i64 k ∧ Hid ((F.di.take k).all (rowB F.op.length) = true)) (fun i => F.di.length - (intOf i).toNat)
  case atStart => exact ⟨0, by omega, rfl, rfl⟩
  case round =>
    obtain ⟨k, hk, rfl, Hp⟩ := hrel
    by_cases hlt : k < F.di.length
    · obtain ⟨bd, A', c', rfl, hc, hr⟩ := hB0.at_ hlt
      go_wp2_with fail
      refine (l2Row_any A' F.di[k] _ c' _ _ hr rfl).mono ?_
      rintro e w' ⟨rfl, rfl⟩
      cases hpk : rowB F.op.length F.di[k]
      · have Hpk := Lib.hid hpk; clear hpk
        go_wp2_with fail
        go_ret
        exact ⟨ret_bool (goodF_no_rows (all_false_of hlt Hpk.out)).symm, hk0⟩
      · have Hpk := Lib.hid hpk; clear hpk
        go_wp2_with fail
        go_round
        case rel => exact ⟨k + 1, by omega, by go_num, all_take_succ Hp.out hlt Hpk.out⟩
        case measure => simp [intOf]; omega
    · have hall : Hid (F.di.all (rowB F.op.length) = true) := by
        have hp := Hp.out
        rw [List.take_of_length_le (by omega)] at hp
        exact hp
      go_wp2_with fail
      refine (l1In_any _ _ _ _).mono ?_
      rintro e w' ⟨rfl, rfl⟩
      cases h1 : inB F.op.length 1 7
      · have H1 := Lib.hid h1; clear h1
        go_wp2_with fail
        go_ret
        exact ⟨ret_bool (by simp [goodF, H1.out, Array.getD]), hk0⟩
      · have H1 := Lib.hid h1; clear h1
        go_wp2_with fail
        refine (l2Row_any A F.op _ c _ _ hA0 rfl).mono ?_
        rintro e w' ⟨rfl, rfl⟩
        cases h2 : rowB F.op.length F.op
        · have H2 := Lib.hid h2; clear h2
          go_wp2_with fail
          go_ret
          exact ⟨ret_bool (by simp [goodF, H2.out, Array.getD]), hk0⟩
        · have H2 := Lib.hid h2; clear h2
          go_wp2_with fail
          go_ret
          refine ⟨ret_bool ?_, hk0⟩
          have := hall.out
          have h1 := H1.out
          have h2 := H2.out
          rw [goodF, h1, h2, this]
          simp [Array.getD]
          try omega

/- slices.ContainsFunc over lists of lists. -/
set_option maxHeartbeats 400000 in
theorem indexFunc2_any (F : FuncId) (caps : Array Value) (p : List Int → Bool) (B : Option Addr) (rows : List (List Int)) (n c : Nat) (w : World) (hx : GridAt w B rows) (hnx : rows.length = n)
    (hF : ∀ (args : Array Value) (w : World), Sem.run Tryz.prog (callFunc F args) w = .ok (.enter F args) w)
    (hf : ∀ k (hk : k < rows.length) (A : Option Addr) (c : Nat) (w' : World), Kp w w' → IntsAt w' A rows[k] → Calls Tryz.prog F (#[.slice A rows[k].length c] ++ caps) w' fun e w'' => e = .returned (.bool (p rows[k])) ∧ Kp w' w'') :
    Calls Tryz.prog 41 #[.slice B n c, .func (.func F) #[] caps] w fun e w' => ∃ r : Int, e = .returned (.int .i64 r) ∧ decide (0 ≤ r) = rows.any p ∧ Kp w w' := by
  have hn : n ≤ 9223372036854775807 := hnx ▸ hx.1
  have Hx := Lib.hid hnx; clear hnx
  have Hf := Lib.hid hf; clear hf
  go_enter Tryz.func41, Tryz.ntmps41
  go_wp2
  go_loopw [8] (fun i wr => ∃ k : Nat, k ≤ n ∧ i = .int .i64 k ∧ Hid ((rows.take k).any p = false) ∧ Kp w wr) (fun i _ => n - (intOf i).toNat)
  case atStart => exact ⟨0, by omega, rfl, rfl, Kp.refl w⟩
  case round =>
    obtain ⟨k, hk, rfl, Hp, hkp⟩ := hrel
    by_cases hlt : k < n
    · have lx : k < rows.length := by rw [Hx.out]; exact hlt
      obtain ⟨ad, A, c', rfl, hc, hr⟩ := (hx.kp hkp).at_ lx
      go_wp2_with fail
      refine (Hf.out k lx A c' wr hkp hr).mono ?_
      rintro e w1 ⟨rfl, hk1⟩
      cases hpk : p rows[k]
      · have Hpk := Lib.hid hpk; clear hpk
        go_wp2
        go_roundw
        case rel => exact ⟨k + 1, by omega, by go_num, any_take_succ Hp.out lx Hpk.out, hkp.trans hk1⟩
        case measure => simp [intOf]; omega
      · have Hpk := Lib.hid hpk; clear hpk
        go_wp2
        go_ret
        exact ⟨k, rfl, by rw [any_of lx Hpk.out]; simp, hkp.trans hk1⟩
    · go_wp2
      go_ret
      refine ⟨-1, rfl, ?_, hkp⟩
      have hp := Hp.out
      rw [List.take_of_length_le (by rw [Hx.out]; omega)] at hp
      rw [hp]; rfl
theorem containsFunc2_any (F : FuncId) (caps : Array Value) (p : List Int → Bool) (B : Option Addr) (rows : List (List Int)) (n c : Nat) (w : World) (hx : GridAt w B rows) (hnx : rows.length = n)
    (hF : ∀ (args : Array Value) (w : World), Sem.run Tryz.prog (callFunc F args) w = .ok (.enter F args) w)
    (hf : ∀ k (hk : k < rows.length) (A : Option Addr) (c : Nat) (w' : World), Kp w w' → IntsAt w' A rows[k] → Calls Tryz.prog F (#[.slice A rows[k].length c] ++ caps) w' fun e w'' => e = .returned (.bool (p rows[k])) ∧ Kp w' w'') :
    Calls Tryz.prog 24 #[.slice B n c, .func (.func F) #[] caps] w fun e w' => e = .returned (.bool (rows.any p)) ∧ Kp w w' := by
  have Hx := Lib.hid hnx; clear hnx
  have Hf := Lib.hid hf; clear hf
  go_enter Tryz.func24, Tryz.ntmps24
  go_wp2_with fail
  refine (indexFunc2_any F caps p B rows n c w hx Hx.out hF Hf.out).mono ?_
  rintro e w1 ⟨r, rfl, hr, hk1⟩
  have Hr := Lib.hid hr; clear hr
  go_wp2
  go_ret
  exact ⟨ret_bool Hr.out, hk1⟩

theorem isField_clo (A A0 B0 : Option Addr) (xs : List Int) (c n m c0 d0 b : Nat) (w : World) (hx : IntsAt w A xs) (hc : w.cell? ⟨b, 0, none⟩ = some (.slice A0 n c0)) :
    Calls Tryz.prog 56 #[.slice A xs.length c, .pointer (some ⟨b, 0, none⟩)] w fun e w' => e = .returned (.bool (!rowB n xs)) ∧ Kp w w' := by
  have hl := hx.1
  by_cases h : xs.length = n
  · have h1 : ((xs.length : Int) != (n : Int)) = false := by simp [h]
    have H := Lib.hid h; clear h
    go_enter Tryz.func56, Tryz.ntmps56
    go_wp2_with fail
    refine (areBetween_any A xs _ c _ _ w hx rfl).mono ?_
    rintro e w1 ⟨rfl, hk⟩
    go_wp2_with fail
    go_ret
    refine ⟨ret_bool ?_, hk⟩
    have := H.out
    simp [rowB, this, Array.getD]
  · have h1 : ((xs.length : Int) != (n : Int)) = true := by simp; omega
    go_enter Tryz.func56, Tryz.ntmps56
    go_wp2_with fail
    go_ret
    refine ⟨ret_bool ?_, Kp.refl _⟩
    simp [rowB, h, Array.getD]

set_option maxHeartbeats 400000 in
theorem isField_any (f : Value) (F : Fld) (w : World) (hf : FldAt w f F) :
    Calls Tryz.prog 36 #[f] w fun e w' => e = .returned (.bool (goodF F)) ∧ Kp w w' := by
  obtain ⟨A, c, B, d, rfl, hA, hB⟩ := hf
  have hmf : ∀ (fn : Fn) (first cap : Array Value) (w : World), (Instr.makeFunc fn first cap).run Tryz.prog w = .ok (.func fn first cap) w := fun _ _ _ _ => rfl
  have hk0 : Kp w (w.alloc (.cells #[.slice A F.op.length c, .slice B F.di.length d] 29)) := (Kp.refl w).alloc _
  have hA0 := hA.kp hk0
  have hB0 := hB.kp hk0
  have hBl := hB.1
  have hAl := hA.1
  have d0 : (w.alloc (.cells #[.slice A F.op.length c, .slice B F.di.length d] 29)).cell? ⟨w.heap.size, 0, none⟩ = some (.slice A F.op.length c) := by
    rw [World.cell?_alloc_at _ _ _ _ rfl]; rfl
  have d1 : (w.alloc (.cells #[.slice A F.op.length c, .slice B F.di.length d] 29)).cell? ⟨w.heap.size, 1, none⟩ = some (.slice B F.di.length d) := by
    rw [World.cell?_alloc_at _ _ _ _ rfl]; rfl
  go_enter Tryz.func36, Tryz.ntmps36
  go_wp2_with fail
  refine (between_any _ _ _ _).mono ?_
  rintro e w' ⟨rfl, rfl⟩
  cases h1 : inB F.op.length 1 7
  · have H1 := Lib.hid h1; clear h1
    go_wp2_with fail
    go_ret
    exact ⟨ret_bool (by simp [goodF, H1.out, Array.getD]), hk0⟩
  have H1 := Lib.hid h1; clear h1
  go_wp2_with fail
  refine (areBetween_any A F.op _ c _ _ _ hA0 rfl).mono ?_
  rintro e w1 ⟨rfl, hk1⟩
  have e1 := hk1.get d1
  cases h2 : allB F.op 0 99
  · have H2 := Lib.hid h2; clear h2
    go_wp2_with fail
    go_ret
    exact ⟨ret_bool (by simp [goodF, rowB, H2.out, Array.getD]), hk0.trans hk1⟩
  have H2 := Lib.hid h2; clear h2
  by_cases h3 : F.di.length ≤ 7
  · go_wp2_with fail
    refine (containsFunc2_any _ _ (fun r => !rowB F.op.length r) B F.di _ d w1 (hB0.kp hk1) rfl (callFunc_of Tryz.func56 (by kernel_rfl) (by kernel_rfl)) ?_).mono ?_
    · intro k hk A' c' w' hk' hi
      exact isField_clo A' A B _ c' _ F.di.length c d w.heap.size w' hi ((hk1.trans hk').get d0)
    rintro e w2 ⟨rfl, hk2⟩
    go_wp2_with fail
    go_ret
    refine ⟨ret_bool ?_, (hk0.trans hk1).trans hk2⟩
    have h1 := H1.out
    have h2 := H2.out
    have h4 : (!F.di.any fun r => !rowB F.op.length r) = F.di.all (rowB F.op.length) := by rw [List.all_eq_not_any_not]
    show (!F.di.any fun r => !rowB F.op.length r) = _
    rw [h4, goodF, h1, rowB, h2]
    simp [h3]
  · go_wp2_with fail
    go_ret
    exact ⟨ret_bool (by simp [goodF, h3, Array.getD]), hk0.trans hk1⟩
end Go.Proofs.YtbfmencamaicbaaGreat

namespace Go.Proofs.YtbfmencamaicbaaGreat
open Go.RowKit

theorem left_small {n : Nat} (h : n ≤ 1048576) : left1 n 1048576 = 1048576 - n := by unfold left1; rw [if_pos (by omega)]
theorem left_big {n : Nat} (h : ¬ n ≤ 1048576) : left1 n 1048576 = -1 := by unfold left1; rw [if_neg (by omega)]
theorem OwnFld.small {w : World} {base : Nat} {v : Value} {F : Fld} (h : OwnFld w base v F) (hb : F.bulk ≤ 1048576) : FldAt w v F :=
  h.fld (by unfold Fld.bulk at hb; omega) (by unfold Fld.bulk at hb; omega) (fun r hr => by
    obtain ⟨k, hk, rfl⟩ := List.getElem_of_mem hr
    have := rowSum_mem hk
    unfold Fld.bulk at hb; omega)
theorem OwnFld.agg {w : World} {base : Nat} {v : Value} {F : Fld} (h : OwnFld w base v F) : ∃ A c B d, v = .agg #[.slice A F.op.length c, .slice B F.di.length d] := by
  obtain ⟨a, b, _, rfl, _, ha, _, hb⟩ := h
  obtain ⟨A, c, rfl⟩ := ha.shape
  obtain ⟨B, d, rfl⟩ := hb.shape
  exact ⟨A, c, B, d, rfl⟩
theorem IntRow.ats {w w' : World} {g : Nat} {xs : List Int} {m : Nat} (h : IntRow w g xs) (hn : xs.length = m) (hb : m ≤ 1048576) (hk : Kp w w') : IntsAt w' (some ⟨g, 0, none⟩) xs := (h.kp hk).ints (by omega)
theorem Own.intsOf {w : World} {base n c : Nat} {A : Option Addr} {xs : List Int} (h : Own w base (.slice A n c) xs) (hl : xs.length ≤ 9223372036854775807) : IntsAt w A xs := by
  obtain ⟨A', c', e, hi⟩ := h.ints hl
  simp only [Value.slice.injEq] at e
  rw [e.1]; exact hi
theorem Own.ofRow {w : World} {base g m : Nat} {xs : List Int} (h : IntRow w g xs) (hn : xs.length = m) (hb : m ≤ 1048576) (hg : base ≤ g) : Own w base (.slice (some ⟨g, 0, none⟩) m m) xs := by
  have := Own.of_row h hg (by omega)
  rw [hn] at this; exact this
theorem box2 (w : World) (a b : Value) (t : TypeId) : (w.alloc (.cells #[a, b] t)).cell? ⟨w.heap.size, 0, none⟩ = some a ∧ (w.alloc (.cells #[a, b] t)).cell? ⟨w.heap.size, 1, none⟩ = some b := by
  constructor <;> (rw [World.cell?_alloc_at _ _ _ _ rfl]; rfl)
end Go.Proofs.YtbfmencamaicbaaGreat

namespace Go.Proofs.YtbfmencamaicbaaGreat
open Go.RowKit

def okM (xs : List Int) (a b : Nat) : Bool := !(((a &&& b : Nat) : Int) == (a : Int) && decide (xs.getD b 0 < xs.getD a 0))
def monoB (xs : List Int) : Bool := (List.range xs.length).all fun a => (List.range xs.length).all (okM xs a)
theorem okM_guard {xs : List Int} {a b : Nat} (h : (((a &&& b : Nat) : Int) == (a : Int)) = false) : okM xs a b = true := by simp [okM, h]
theorem okM_val {xs : List Int} {a b : Nat} (ha : a < xs.length) (hb : b < xs.length) (h : (((a &&& b : Nat) : Int) == (a : Int)) = true) : okM xs a b = !decide (xs[b] < xs[a]) := by
  simp [okM, h, List.getD, ha, hb]
theorem all_next {p : Nat → Bool} {k : Nat} (h : Hid ((List.range k).all p = true)) (e : p k = true) : Hid ((List.range (k + 1)).all p = true) := by
  show (List.range (k + 1)).all p = true
  rw [all_range_succ, h.out, e]; rfl
theorem not_all2 {p : Nat → Nat → Bool} {a b n m : Nat} (ha : a < n) (hb : b < m) (h : p a b = false) : ((List.range n).all fun a => (List.range m).all (p a)) = false :=
  all_range_false ha (all_range_false hb h)
theorem not_mono {xs : List Int} {a b n : Nat} (hn : Hid (xs.length = n)) (ha : a < n) (hb : b < n) (h : okM xs a b = false) : monoB xs = false := by
  have e := hn.out; subst e; exact not_all2 ha hb h
theorem is_mono {xs : List Int} {a n : Nat} (hn : Hid (xs.length = n)) (hk : a ≤ n) (hge : ¬ a < n) (h : Hid (((List.range a).all fun a => (List.range n).all (okM xs a)) = true)) : monoB xs = true := by
  have e := hn.out; subst e
  have : a = xs.length := by omega
  subst this; exact h
theorem row_done {p : Nat → Bool} {b n : Nat} (hk : b ≤ n) (hge : ¬ b < n) (h : Hid ((List.range b).all p = true)) : (List.range n).all p = true := by
  have : b = n := by omega
  subst this; exact h

end Go.Proofs.YtbfmencamaicbaaGreat

namespace Go.Proofs.YtbfmencamaicbaaGreat
open Go.RowKit Go.Sort

def okR (xs : List Int) (lo hi : Int) (i : Nat) : Bool := inB (xs.getD i 0) lo hi && (decide (i = 0) || decide (xs.getD (i - 1) 0 < xs.getD i 0))
/-- Strictly rising, within bounds. -/
def risB (xs : List Int) (lo hi : Int) : Bool := (List.range xs.length).all (okR xs lo hi)
theorem okR_out {xs : List Int} {lo hi : Int} {i : Nat} (hi' : i < xs.length) (h : inB xs[i] lo hi = false) : okR xs lo hi i = false := by simp [okR, List.getD, hi', h]
theorem okR_zero {xs : List Int} {lo hi : Int} {i : Nat} (hi' : i < xs.length) (h0 : ¬ 0 < i) (h : inB xs[i] lo hi = true) : okR xs lo hi i = true := by
  have e : i = 0 := by omega
  subst e
  simp [okR, List.getD, hi', h]
theorem okR_succ {xs : List Int} {lo hi : Int} {i : Nat} (hi' : i < xs.length) (h0 : 0 < i) (h : inB xs[i] lo hi = true) : okR xs lo hi i = decide (xs[i - 1] < xs[i]) := by
  have h1 : i - 1 < xs.length := by omega
  have h2 : ¬ i = 0 := by omega
  simp [okR, List.getD, hi', h1, h, h2]
theorem ris_no {xs : List Int} {lo hi : Int} {i n : Nat} (hn : Hid (xs.length = n)) (hi' : i < n) (h : okR xs lo hi i = false) : risB xs lo hi = false := by
  have := hn.out; subst this; exact all_range_false hi' h
theorem ris_yes {xs : List Int} {lo hi : Int} {i n : Nat} (hn : Hid (xs.length = n)) (hk : i ≤ n) (hge : ¬ i < n) (h : Hid ((List.range i).all (okR xs lo hi) = true)) : risB xs lo hi = true := by
  have := hn.out; subst this
  have e : i = xs.length := by omega
  subst e; exact h

/-- A set of sites of a field. -/
def setB (F : Fld) (S : List Int) : Bool := risB S 0 ((F.op.length : Int) - 1)
end Go.Proofs.YtbfmencamaicbaaGreat

namespace Go.Proofs.YtbfmencamaicbaaGreat
open Go.RowKit

theorem wpl_app {ops : Array Oper} {rest : List Oper} {o : Oper} {a : Act} {Q : Exit → Act → World → Prop} {W : World} (hgd : o.guard = none) (s x : Operand)
    (ho : o.op = .call { callee := .builtin .append, args := #[s, x], argTypes := #[22, 22] }) (base : Nat) (v : Value) (xs : List Int) (z : Int)
    (hs : a.eval s = v) (hx : a.eval x = .slice (some ⟨W.heap.size, 0, none⟩) 1 1) (hown : Own W base v xs) (hbase : base ≤ W.heap.size) (hlen : xs.length < 1048576)
    (h : ∀ v' w', Own w' base v' (xs ++ [z]) → Turn (fun i => v.ownBlock = some i) W w' → (v'.ownBlock = v.ownBlock ∨ ∀ g, v'.ownBlock = some g → W.heap.size ≤ g) → wpList Tryz.prog ops Q rest (a.put o.dst v') w') :
    wpList Tryz.prog ops Q (o :: rest) a (W.alloc (.cells #[.int .i64 z] 3)) := by
  obtain ⟨i0, hi, hz0, hz1, hz2⟩ := info_parts infoInt
  have hal : Own (W.alloc (.cells #[.int .i64 z] 3)) base v xs := hown.kp ((Kp.refl W).alloc _)
  refine wpList_append_own_at _ hgd s x 22 ho base 3 i0 (.int .i64 0) 1 8 Tryz.underlying22 hi hz0 hz1 hz2 rfl (by decide) v xs.length (xs.map (Value.int .i64)) hs hal ⟨W.heap.size, 0, none⟩ 1 1 [.int .i64 z] hx rfl ?_ ?_ ?_ ?_ ?_ ?_
  · intro j u hj
    cases j with
    | zero =>
      simp at hj; subst hj
      rw [add0, World.cell?_alloc_at _ _ _ _ rfl]; rfl
    | succ j => simp at hj
  · intro u hu; simp at hu; subst hu; rfl
  · unfold maxLen; omega
  · omega
  · simp; omega
  · intro v' w' h2 h3 _ h4
    refine h v' w' ?_ ((Turn.of_kp ((Kp.refl W).alloc _)).trans (Turn.of_grown h3)) ?_
    · unfold Own
      rw [List.length_append, List.map_append]
      exact h2
    · rcases h4 with e | e
      · exact .inl e
      · refine .inr (fun g hg => ?_)
        rw [e] at hg
        simp at hg
        omega
theorem own_new0 (w : World) (base : Nat) (hb : base ≤ w.heap.size) : Own (w.alloc (.cells #[] 3)) base (.slice (some ⟨w.heap.size, 0, none⟩) 0 0) [] :=
  World.ownsRow_lit w #[] 0 hb (by unfold maxLen; omega) (by simp)
theorem Own.kp_turn {a w w' : World} {base : Nat} {v : Value} {xs : List Int} (h : Own w base v xs) (hk : Kp a w) (hb : a.heap.size ≤ base) (ht : Turn (fun i => v.ownBlock = some i) w w') : Kp a w' :=
  hk.turn ht (fun i hi => Nat.le_trans hb (h.lt i hi).1)
/-- Two slices of the call's own lie in different blocks. -/
def Apart (v u : Value) : Prop := ∀ g, v.ownBlock = some g → u.ownBlock ≠ some g
theorem Apart.grow {v v' u : Value} {W : World} {base : Nat} {xs : List Int} (h : Apart v u) (hu : Own W base u xs) (h4 : v'.ownBlock = v.ownBlock ∨ ∀ g, v'.ownBlock = some g → W.heap.size ≤ g) : Apart v' u := by
  intro g hg e
  rcases h4 with h4 | h4
  · exact h g (h4 ▸ hg) e
  · have := h4 g hg
    have := (hu.lt g e).2
    omega
theorem Own.apart_turn {v u : Value} {w w' : World} {base : Nat} {xs : List Int} (h : Own w base u xs) (ha : Apart v u) (ht : Turn (fun i => v.ownBlock = some i) w w') : Own w' base u xs := h.turn ht (fun g hg hv => ha g hv hg)
end Go.Proofs.YtbfmencamaicbaaGreat

namespace Go.Proofs.YtbfmencamaicbaaGreat
open Go.RowKit Go.Sort

/-- The length from a client to a site. -/
def dAt (F : Fld) (i : Nat) (a : Int) : Int := (F.di.getD i []).getD a.toNat 0
def stepS (F : Fld) (i : Nat) (best a : Int) : Int := if dAt F i a < dAt F i best then a else best
/-- The best of the first k sites. -/
def siteTo (F : Fld) (i : Nat) (S : List Int) (k : Nat) : Int := (S.take k).foldl (stepS F i) (S.headD 0)
def siteF (F : Fld) (i : Nat) (S : List Int) : Int := S.foldl (stepS F i) (S.headD 0)
def nearF (F : Fld) (i : Nat) (S : List Int) : Int := dAt F i (siteF F i S)

theorem set_mem {F : Fld} {S : List Int} (h : setB F S = true) : ∀ x ∈ S, 0 ≤ x ∧ x < F.op.length := by
  intro x hx
  obtain ⟨k, hk, rfl⟩ := List.getElem_of_mem hx
  have := List.all_eq_true.1 h k (by simpa using hk)
  simp only [okR, Bool.and_eq_true] at this
  have h1 := inB_iff.1 this.1
  simp [List.getD, hk] at h1
  omega
theorem stepS_lt {F : Fld} {i : Nat} {b a : Int} (h : dAt F i a < dAt F i b) : stepS F i b a = a := if_pos h
theorem stepS_ge {F : Fld} {i : Nat} {b a : Int} (h : dAt F i b ≤ dAt F i a) : stepS F i b a = b := if_neg (by omega)
theorem siteTo_succ {F : Fld} {i : Nat} {S : List Int} {k : Nat} (hk : k < S.length) : siteTo F i S (k + 1) = stepS F i (siteTo F i S k) S[k] := by
  rw [siteTo, List.take_succ_eq_append_getElem hk, List.foldl_append]; rfl
theorem fold_mem {F : Fld} {i : Nat} : ∀ (L : List Int) (b : Int), L.foldl (stepS F i) b = b ∨ L.foldl (stepS F i) b ∈ L
  | [], b => .inl rfl
  | a :: L, b => by
    simp only [List.foldl_cons]
    rcases fold_mem L (stepS F i b a) with h | h
    · rw [h]
      unfold stepS
      by_cases hl : dAt F i a < dAt F i b
      · rw [if_pos hl]; exact .inr (by simp)
      · rw [if_neg hl]; exact .inl rfl
    · exact .inr (by simp [h])
theorem siteTo_mem {F : Fld} {i : Nat} {S : List Int} (h : S ≠ []) (k : Nat) : siteTo F i S k ∈ S := by
  have hh : S.headD 0 ∈ S := by
    cases S with
    | nil => exact absurd rfl h
    | cons a S => simp
  rcases fold_mem (F := F) (i := i) (S.take k) (S.headD 0) with e | e
  · rw [siteTo, e]; exact hh
  · exact List.mem_of_mem_take e
theorem siteTo_all {F : Fld} {i : Nat} {S : List Int} {k : Nat} (h : S.length ≤ k) : siteTo F i S k = siteF F i S := by
  rw [siteTo, List.take_of_length_le h]; rfl
theorem siteF_mem {F : Fld} {i : Nat} {S : List Int} (h : S ≠ []) : siteF F i S ∈ S := by
  rw [← siteTo_all (Nat.le_refl _)]; exact siteTo_mem h _
theorem siteTo_one {F : Fld} {i : Nat} {S : List Int} (h : 0 < S.length) : siteTo F i S 1 = S[0] := by
  cases S with
  | nil => simp at h
  | cons a S => simp [siteTo, stepS]
theorem siteTo_zero {F : Fld} {i : Nat} {S : List Int} (h : 0 < S.length) : siteTo F i S 0 = S[0] := by
  cases S with
  | nil => simp at h
  | cons a S => simp [siteTo]
/-- The cell of a length. -/
theorem dCell {w : World} {rd : Addr} {F : Fld} {i : Nat} {a : Int} (hi : i < F.di.length) (hr : IntsAt w (some rd) F.di[i]) (h0 : 0 ≤ a) (h1 : a < F.di[i].length) : w.cell? (rd.add a.toNat) = some (.int .i64 (dAt F i a)) := by
  have h2 : a.toNat < F.di[i].length := by omega
  rw [hr.some_ h2]
  simp [dAt, List.getD, hi, h2]

end Go.Proofs.YtbfmencamaicbaaGreat

namespace Go.Proofs.YtbfmencamaicbaaGreat
open Go.RowKit Go.Sort

def mapTo (g : Nat → Int) (k : Nat) : List Int := (List.range k).map g
theorem mapTo_len (g : Nat → Int) (k : Nat) : (mapTo g k).length = k := by simp [mapTo]
theorem mapTo_succ (g : Nat → Int) (k : Nat) : mapTo g (k + 1) = mapTo g k ++ [g k] := by simp [mapTo, List.range_succ]
theorem mapTo_get {g : Nat → Int} {k i : Nat} (h : i < k) (h' : i < (mapTo g k).length) : (mapTo g k)[i] = g i := by simp [mapTo]
def sumTo (g : Nat → Int) (k : Nat) : Int := (mapTo g k).sum
theorem sumTo_zero (g : Nat → Int) : sumTo g 0 = 0 := rfl
theorem sumTo_succ (g : Nat → Int) (k : Nat) : sumTo g (k + 1) = sumTo g k + g k := by simp [sumTo, mapTo_succ]
theorem sumTo_bd {g : Nat → Int} {b : Int} (h : ∀ i, 0 ≤ g i ∧ g i ≤ b) : ∀ k : Nat, 0 ≤ sumTo g k ∧ sumTo g k ≤ k * b
  | 0 => by simp [sumTo_zero]
  | k + 1 => by
    have h1 := sumTo_bd h k
    have h2 := h k
    rw [sumTo_succ]
    have h3 : ((k + 1 : Nat) : Int) * b = k * b + b := by
      rw [Int.natCast_add, Int.add_mul]; simp
    omega

theorem dAt_bd {F : Fld} (h : goodF F = true) {i : Nat} (hi : i < F.di.length) (a : Int) : 0 ≤ dAt F i a ∧ dAt F i a ≤ 99 := by
  have e : F.di.getD i [] = F.di[i] := by simp [List.getD, hi]
  rw [dAt, e]
  by_cases ha : a.toNat < F.di[i].length
  · have := ((goodF_iff.1 h).2.2.2 _ (List.getElem_mem hi)).1 _ (List.getElem_mem ha)
    simpa [List.getD, ha] using this
  · simp [List.getD, ha]

/-- What client i brings. -/
def gainAt (F : Fld) (worth : Int) (S : List Int) (i : Nat) : Int := max 0 (worth - nearF F i S)
def gainF (F : Fld) (worth : Int) (S : List Int) : Int := if S = [] then 0 else sumTo (gainAt F worth S) F.di.length
theorem gainF_nil {F : Fld} {worth : Int} : gainF F worth [] = 0 := if_pos rfl
theorem gainF_cons {F : Fld} {worth : Int} {S : List Int} (h : S ≠ []) : gainF F worth S = sumTo (gainAt F worth S) F.di.length := if_neg h
theorem siteF_bd {F : Fld} {S : List Int} (hs : setB F S = true) (hne : S ≠ []) (i : Nat) : 0 ≤ siteF F i S ∧ siteF F i S < F.op.length := set_mem hs _ (siteF_mem hne)

theorem gainAt_if {F : Fld} {worth : Int} {S : List Int} {i : Nat} : (if nearF F i S < worth then worth - nearF F i S else 0) = gainAt F worth S i := by
  unfold gainAt; split <;> omega
theorem gainAt_bd {F : Fld} {worth : Int} {S : List Int} (hw0 : 0 ≤ worth) (hw : worth ≤ 999) (hn : ∀ i, 0 ≤ nearF F i S) (i : Nat) : 0 ≤ gainAt F worth S i ∧ gainAt F worth S i ≤ 999 := by
  have := hn i
  unfold gainAt; omega
theorem nearF_bd {F : Fld} (hg : goodF F = true) (S : List Int) (i : Nat) : 0 ≤ nearF F i S ∧ nearF F i S ≤ 99 := by
  by_cases hi : i < F.di.length
  · exact dAt_bd hg hi _
  · have e : F.di.getD i [] = [] := by simp [List.getD, List.getElem?_eq_none (by omega : F.di.length ≤ i)]
    rw [nearF, dAt, e]; simp

def worthB (worth : Int) : Bool := inB worth 0 999
def gainOk (F : Fld) (worth : Int) (S : List Int) : Bool := goodF F && worthB worth && setB F S
def gainR (F : Fld) (worth : Int) (S : List Int) : Int := if gainOk F worth S = true then gainF F worth S else 0
theorem gainR_no {F : Fld} {worth : Int} {S : List Int} (h : gainOk F worth S = false) : Ending.returned (.tuple #[.int .i64 (gainR F worth S), .bool (gainOk F worth S)]) = .returned (.tuple #[.int .i64 0, .bool false]) := by
  simp [gainR, h]
theorem gainR_yes {F : Fld} {worth : Int} {S : List Int} (h : gainOk F worth S = true) : Ending.returned (.tuple #[.int .i64 (gainR F worth S), .bool (gainOk F worth S)]) = .returned (.tuple #[.int .i64 (gainF F worth S), .bool true]) := by
  simp [gainR, h]
theorem gainOk_parts {F : Fld} {worth : Int} {S : List Int} (h : gainOk F worth S = true) : goodF F = true ∧ setB F S = true ∧ 0 ≤ worth ∧ worth ≤ 999 := by
  simp only [gainOk, Bool.and_eq_true, worthB, inB_iff] at h
  exact ⟨h.1.1, h.2, h.1.2.1, h.1.2.2⟩

end Go.Proofs.YtbfmencamaicbaaGreat

namespace Go.Proofs.YtbfmencamaicbaaGreat
open Go.RowKit Go.Sort

def openedB (F : Fld) (S : List Int) : Bool := goodF F && setB F S && decide (0 < S.length)
theorem openedB_parts {F : Fld} {S : List Int} (h : openedB F S = true) : goodF F = true ∧ setB F S = true ∧ S ≠ [] := by
  simp only [openedB, Bool.and_eq_true, decide_eq_true_eq] at h
  exact ⟨h.1.1, h.1.2, List.length_pos_iff.1 h.2⟩
end Go.Proofs.YtbfmencamaicbaaGreat

namespace Go.Proofs.YtbfmencamaicbaaGreat
open Go.RowKit Go.Sort

def numsB (xs : List Int) (n : Nat) (most : Int) : Bool := xs.all (fun x => inB x 0 most) && decide (xs.length = n)
def needsB (F : Fld) (rooms needs : List Int) : Bool := numsB rooms F.op.length 20 && numsB needs F.di.length 5
def haulB (F : Fld) (rooms needs S : List Int) : Bool := openedB F S && needsB F rooms needs
theorem numsB_iff {xs : List Int} {n : Nat} {most : Int} : numsB xs n most = true ↔ (∀ x ∈ xs, 0 ≤ x ∧ x ≤ most) ∧ xs.length = n := by
  unfold numsB inB
  rw [Bool.and_eq_true, List.all_eq_true, decide_eq_true_eq]
  simp
theorem haulB_iff {F : Fld} {rooms needs S : List Int} : haulB F rooms needs S = true ↔ openedB F S = true ∧ ((∀ x ∈ rooms, 0 ≤ x ∧ x ≤ 20) ∧ rooms.length = F.op.length) ∧ ((∀ x ∈ needs, 0 ≤ x ∧ x ≤ 5) ∧ needs.length = F.di.length) := by
  unfold haulB needsB
  rw [Bool.and_eq_true, Bool.and_eq_true, numsB_iff, numsB_iff]
set_option maxHeartbeats 400000 in
theorem l7Numbers_any (A0 : Option Addr) (xs : List Int) (n0 c0 : Nat) (n : Nat) (most : Int) (w : World) (hx : IntsAt w A0 xs) (hn0 : xs.length = n0) :
    Calls Tryz.prog 31 #[.slice A0 n0 c0, .int .i64 n, .int .i64 most] w fun e w' => e = .returned (.bool (numsB xs n most)) ∧ w = w' := by
  have hm : n0 ≤ 9223372036854775807 := hn0 ▸ hx.1
  have Hn0 := Lib.hid hn0
  have HB : Hid (numsB xs n most = ((!xs.any fun x => !inB x 0 most) && decide (n0 = n))) := by
    show _ = _
    unfold numsB
    rw [List.all_eq_not_any_not, hn0]
  clear hn0
  go_enter Tryz.func31, Tryz.ntmps31
  go_wp2_with fail
  go_loop [7] (fun iv => ∃ k : Nat, k ≤ n0 ∧ iv = .int .i64 k ∧ Hid ((xs.take k).any (fun x => !inB x 0 most) = false)) (fun iv => n0 - (intOf iv).toNat)
  case atStart => exact ⟨0, by omega, rfl, rfl⟩
  case round =>
    obtain ⟨k, hk, rfl, Hp⟩ := hrel
    by_cases hlt : k < n0
    · have lx : k < xs.length := by rw [Hn0.out]; exact hlt
      obtain ⟨ad, rfl, hc⟩ := hx.at_ lx
      go_wp2_with fail
      have CC := Lib.hid (l1In_any xs[k] 0 most w)
      with_reducible refine Calls.mono CC.out ?_
      rintro e w3 ⟨rfl, hw⟩
      obtain rfl := hw
      clear CC
      cases ht : inB xs[k] 0 most
      · have Ht := Lib.hid ht; clear ht
        go_wp2_with fail
        go_ret
        exact ⟨by rw [HB.out, any_of (p := fun x => !inB x 0 most) lx (by rw [Ht.out]; rfl)]; rfl, rfl⟩
      · have Ht := Lib.hid ht; clear ht
        go_wp2_with fail
        go_round
        case rel => exact ⟨k + 1, by omega, by go_num, any_take_succ Hp.out lx (by rw [Ht.out]; rfl)⟩
        case measure => simp [intOf]; omega
    · go_wp2_with fail
      go_ret
      have hp := Hp.out
      rw [List.take_of_length_le (by rw [Hn0.out]; omega)] at hp
      refine ⟨ret_bool ?_, rfl⟩
      rw [HB.out, hp]
      by_cases he : n0 = n
      · simp [he]
      · simp [he]; omega
set_option maxRecDepth 100000 in
set_option maxHeartbeats 400000 in
theorem l7Needs_any (f : Value) (F : Fld) (A1 : Option Addr) (rooms : List Int) (n1 c1 : Nat) (A2 : Option Addr) (needs : List Int) (n2 c2 : Nat) (w : World) (hf : FldAt w f F) (h1 : IntsAt w A1 rooms) (hn1 : rooms.length = n1) (h2 : IntsAt w A2 needs) (hn2 : needs.length = n2) :
    Calls Tryz.prog 14 #[f, .slice A1 n1 c1, .slice A2 n2 c2] w fun e w' => e = .returned (.bool (needsB F rooms needs)) ∧ Kp w w' := by
  obtain ⟨A, c, B, d, rfl, hA, hB⟩ := hf
  have hk0 : Kp w (w.alloc (.cells #[.slice A F.op.length c, .slice B F.di.length d] 29)) := (Kp.refl w).alloc _
  obtain ⟨d0, d1⟩ := box2 w (.slice A F.op.length c) (.slice B F.di.length d) 29
  have hFA := FldAt.kp (show FldAt w (.agg #[.slice A F.op.length c, .slice B F.di.length d]) F from ⟨A, c, B, d, rfl, hA, hB⟩) hk0
  replace h1 := h1.kp hk0
  replace h2 := h2.kp hk0
  have Hn1 := Lib.hid hn1; have Hn2 := Lib.hid hn2
  clear hA hB hn1 hn2
  go_enter Tryz.func14, Tryz.ntmps14
  go_wp2_with fail
  have hsz : Hid ((w.alloc (.cells #[.slice A F.op.length c, .slice B F.di.length d] 29)).heap.size = w.heap.size + 1) := by show _ = _; simp
  generalize w.alloc (.cells #[.slice A F.op.length c, .slice B F.di.length d] 29) = wb at *
  have hkb : Kp wb wb := Kp.refl _
  have hkw := hk0
  have q_d0 := hkb.get d0
  have q_d1 := hkb.get d1
  go_wp2_with fail
  have CC := Lib.hid (l7Numbers_any A1 rooms n1 c1 F.op.length 20 wb h1 Hn1.out)
  with_reducible refine Calls.mono CC.out ?_
  rintro e w1 ⟨rfl, hw⟩
  obtain rfl := hw
  clear CC q_d0 q_d1
  cases hg_ : numsB rooms F.op.length 20
  · have Hno : Hid (needsB F rooms needs = false) := by show _ = _; rw [needsB, hg_]; rfl
    clear hg_
    have q_d0 := hkb.get d0
    have q_d1 := hkb.get d1
    go_wp2_with fail
    go_ret
    exact ⟨by rw [Hno.out]; rfl, hkw⟩
  have Hy : Hid (needsB F rooms needs = numsB needs F.di.length 5) := by show _ = _; rw [needsB, hg_]; rfl
  clear hg_
  have q_d0 := hkb.get d0
  have q_d1 := hkb.get d1
  go_wp2_with fail
  have CC := Lib.hid (l7Numbers_any A2 needs n2 c2 F.di.length 5 wb h2 Hn2.out)
  with_reducible refine Calls.mono CC.out ?_
  rintro e w2 ⟨rfl, hw⟩
  obtain rfl := hw
  clear CC q_d0 q_d1
  have q_d0 := hkb.get d0
  have q_d1 := hkb.get d1
  go_wp2_with fail
  go_ret
  exact ⟨by rw [Hy.out]; rfl, hkw⟩
set_option maxRecDepth 100000 in
set_option maxHeartbeats 400000 in
theorem areNeeds_any (f : Value) (F : Fld) (A1 : Option Addr) (rooms : List Int) (n1 c1 : Nat) (A2 : Option Addr) (needs : List Int) (n2 c2 : Nat) (w : World) (hf : FldAt w f F) (h1 : IntsAt w A1 rooms) (hn1 : rooms.length = n1) (h2 : IntsAt w A2 needs) (hn2 : needs.length = n2) :
    Calls Tryz.prog 21 #[f, .slice A1 n1 c1, .slice A2 n2 c2] w fun e w' => e = .returned (.bool (needsB F rooms needs)) ∧ Kp w w' := by
  obtain ⟨A, c, B, d, rfl, hA, hB⟩ := hf
  have hk0 : Kp w (w.alloc (.cells #[.slice A F.op.length c, .slice B F.di.length d] 29)) := (Kp.refl w).alloc _
  obtain ⟨d0, d1⟩ := box2 w (.slice A F.op.length c) (.slice B F.di.length d) 29
  have hFA := FldAt.kp (show FldAt w (.agg #[.slice A F.op.length c, .slice B F.di.length d]) F from ⟨A, c, B, d, rfl, hA, hB⟩) hk0
  replace h1 := h1.kp hk0
  replace h2 := h2.kp hk0
  have Hn1 := Lib.hid hn1; have Hn2 := Lib.hid hn2
  clear hA hB hn1 hn2
  have HB : Hid (needsB F rooms needs = (decide (n1 = F.op.length) && allB rooms 0 20 && decide (n2 = F.di.length) && allB needs 0 5)) := by
    show _ = _
    unfold needsB numsB
    rw [Hn1.out, Hn2.out]
    change ((allB rooms 0 20 && decide (n1 = F.op.length)) && (allB needs 0 5 && decide (n2 = F.di.length))) = _
    cases decide (n1 = F.op.length) <;> cases decide (n2 = F.di.length) <;> cases allB rooms 0 20 <;> cases allB needs 0 5 <;> rfl
  go_enter Tryz.func21, Tryz.ntmps21
  by_cases e1 : n1 = F.op.length
  · subst e1
    have hd1 : (((F.op.length : Nat) : Int) == ((F.op.length : Nat) : Int)) = true := by simp
    go_wp2_with fail
    have hsz : Hid ((w.alloc (.cells #[.slice A F.op.length c, .slice B F.di.length d] 29)).heap.size = w.heap.size + 1) := by show _ = _; simp
    generalize w.alloc (.cells #[.slice A F.op.length c, .slice B F.di.length d] 29) = wb at *
    have hkb : Kp wb wb := Kp.refl _
    have hkw := hk0
    have CC := Lib.hid (areBetween_any A1 rooms F.op.length c1 0 20 wb h1 Hn1.out)
    with_reducible refine Calls.mono CC.out ?_
    rintro e w1 ⟨rfl, hk1⟩
    clear CC
    replace hkb := hkb.trans hk1
    cases hg_ : allB rooms 0 20
    · have Hno : Hid (needsB F rooms needs = false) := by show _ = _; rw [HB.out, hg_]; simp
      clear hg_
      have q_d0 := hkb.get d0
      have q_d1 := hkb.get d1
      go_wp2_with fail
      go_ret
      exact ⟨by rw [Hno.out]; rfl, hkw.trans hkb⟩
    have Hr := Lib.hid hg_; clear hg_
    by_cases e2 : n2 = F.di.length
    · subst e2
      have Hy : Hid (needsB F rooms needs = allB needs 0 5) := by show _ = _; rw [HB.out, Hr.out]; simp
      have q_d0 := hkb.get d0
      have q_d1 := hkb.get d1
      go_wp2_with fail
      have CC := Lib.hid (areBetween_any A2 needs F.di.length c2 0 5 _ (h2.kp hkb) Hn2.out)
      with_reducible refine Calls.mono CC.out ?_
      rintro e w2 ⟨rfl, hk2⟩
      clear CC q_d0 q_d1
      replace hkb := hkb.trans hk2
      have q_d0 := hkb.get d0
      have q_d1 := hkb.get d1
      go_wp2_with fail
      go_ret
      exact ⟨by rw [Hy.out]; rfl, hkw.trans hkb⟩
    · have Hno : Hid (needsB F rooms needs = false) := by show _ = _; rw [HB.out, decide_eq_false e2]; simp
      have hd2 : ((n2 : Int) == (F.di.length : Int)) = false := by simp; omega
      clear e2
      have q_d0 := hkb.get d0
      have q_d1 := hkb.get d1
      go_wp2_with fail
      go_ret
      exact ⟨by rw [Hno.out]; rfl, hkw.trans hkb⟩
  · have Hno : Hid (needsB F rooms needs = false) := by show _ = _; rw [HB.out, decide_eq_false e1]; rfl
    have hd1 : ((n1 : Int) == (F.op.length : Int)) = false := by simp; omega
    clear e1
    go_wp2_with fail
    have hsz : Hid ((w.alloc (.cells #[.slice A F.op.length c, .slice B F.di.length d] 29)).heap.size = w.heap.size + 1) := by show _ = _; simp
    generalize w.alloc (.cells #[.slice A F.op.length c, .slice B F.di.length d] 29) = wb at *
    have hkb : Kp wb wb := Kp.refl _
    have hkw := hk0
    have q_d0 := hkb.get d0
    have q_d1 := hkb.get d1
    go_wp2_with fail
    go_ret
    exact ⟨by rw [Hno.out]; rfl, hkw⟩
end Go.Proofs.YtbfmencamaicbaaGreat

namespace Go.Proofs.YtbfmencamaicbaaGreat
def lget (xs : List Int) (k : Nat) : Int := xs.getD k 0
theorem lget_at {xs : List Int} {k : Nat} (h : k < xs.length) : lget xs k = xs[k] := by simp [lget, List.getD, h]
end Go.Proofs.YtbfmencamaicbaaGreat

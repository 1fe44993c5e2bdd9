/- slices.Sort and slices.Reverse of a slice of numbers of the call's own: laid (by layp.py), and what they leave; slices.Values, slices.AppendSeq, slices.Collect and slices.Sorted of ints: a slice of the call's own with what the iterator gives; Orders of all clients: program and reference; MarginalShares: program and reference; FairShares: the reference; The shares' sums, in plain words: marginal shares make up the cost of all, fair ones that cost for every order. No condition. -/
import Derived.Test.YtkaammkanapkmaaGreatQAa
import Derived.Shelf.Sort.Plain
import Derived.Shelf.Slices.Reverse
import Derived.Lib.OwnBridge
import Derived.Lib.AppendIntMem
import Derived.Shelf.Slices.In.SortNone
import Derived.RangeFuncBox
import Derived.RangeFuncLeaves
import Derived.Shelf.Abstract
import Derived.WalkKit
import Derived.OwnWalkIn
import Derived.TacticsInMore
import Derived.LoopNIn
import Derived.LoopIn
import Derived.Maps.AppendAt
import Derived.Test.YtkaammkanapkmaaGreatQAj
import Derived.Test.YtkaammkanapkmaaGreatQAh
namespace Go.Proofs.YtkaammkanapkmaaGreat
open Go.RowKit Go.Sort Go.Shelf

def sortI_ren : Go.Shelf.Ren := ⟨fun | 189 => 81 | 125 => 92 | 257 => 91 | 128 => 108 | 129 => 109 | 294 => 99 | 295 => 100 | 296 => 101 | 297 => 102 | 298 => 103 | 299 => 104 | 216 => 105 | 300 => 106 | 301 => 107 | 328 => 120 | 329 => 121 | 330 => 122 | 331 => 123 | 332 => 124 | 215 => 118 | 343 => 128 | n => n, fun | 28 => 24 | 3 => 3 | 46 => 64 | 0 => 0 | 51 => 97 | 53 => 43 | 4 => 4 | 183 => 91 | 182 => 90 | 131 => 34 | 5 => 5 | 9 => 9 | 218 => 105 | 222 => 109 | 228 => 113 | 229 => 114 | n => n, fun | n => n⟩
theorem sortI : Go.Proofs.Lays.n189 Tryz.prog sortI_ren := {
  mixed := by kernel_rfl
  f125 := Tryz.func92.trans (congrArg some (by kernel_rfl))
  f128 := Tryz.func108.trans (congrArg some (by kernel_rfl))
  f129 := Tryz.func109.trans (congrArg some (by kernel_rfl))
  f189 := Tryz.func81.trans (congrArg some (by kernel_rfl))
  f215 := Tryz.func118.trans (congrArg some (by kernel_rfl))
  f216 := Tryz.func105.trans (congrArg some (by kernel_rfl))
  f257 := Tryz.func91.trans (congrArg some (by kernel_rfl))
  f294 := Tryz.func99.trans (congrArg some (by kernel_rfl))
  f295 := Tryz.func100.trans (congrArg some (by kernel_rfl))
  f296 := Tryz.func101.trans (congrArg some (by kernel_rfl))
  f297 := Tryz.func102.trans (congrArg some (by kernel_rfl))
  f298 := Tryz.func103.trans (congrArg some (by kernel_rfl))
  f299 := Tryz.func104.trans (congrArg some (by kernel_rfl))
  f300 := Tryz.func106.trans (congrArg some (by kernel_rfl))
  f301 := Tryz.func107.trans (congrArg some (by kernel_rfl))
  f328 := Tryz.func120.trans (congrArg some (by kernel_rfl))
  f329 := Tryz.func121.trans (congrArg some (by kernel_rfl))
  f330 := Tryz.func122.trans (congrArg some (by kernel_rfl))
  f331 := Tryz.func123.trans (congrArg some (by kernel_rfl))
  f332 := Tryz.func124.trans (congrArg some (by kernel_rfl))
  f343 := Tryz.func128.trans (congrArg some (by kernel_rfl))
  t0 := Tryz.underlying0
  a0 := Tryz.isAgg0
  z0 := Tryz.sizeOf0
  v0 := Tryz.zeroValue0
  t3 := Tryz.underlying3
  a3 := Tryz.isAgg3
  z3 := Tryz.sizeOf3
  v3 := Tryz.zeroValue3
  t4 := Tryz.underlying4
  a4 := Tryz.isAgg4
  z4 := Tryz.sizeOf4
  v4 := Tryz.zeroValue4
  t5 := Tryz.underlying5
  a5 := Tryz.isAgg5
  z5 := Tryz.sizeOf5
  v5 := Tryz.zeroValue5
  t9 := Tryz.underlying9
  a9 := Tryz.isAgg9
  z9 := Tryz.sizeOf9
  v9 := Tryz.zeroValue9
  t28 := Tryz.underlying24
  a28 := Tryz.isAgg24
  z28 := Tryz.sizeOf24
  v28 := Tryz.zeroValue24
  t46 := Tryz.underlying64
  a46 := Tryz.isAgg64
  z46 := Tryz.sizeOf64
  v46 := Tryz.zeroValue64
  t51 := Tryz.underlying97
  a51 := Tryz.isAgg97
  z51 := Tryz.sizeOf97
  v51 := Tryz.zeroValue97
  t53 := Tryz.underlying43
  a53 := Tryz.isAgg43
  z53 := Tryz.sizeOf43
  v53 := Tryz.zeroValue43
  t131 := Tryz.underlying34
  a131 := Tryz.isAgg34
  z131 := Tryz.sizeOf34
  v131 := Tryz.zeroValue34
  t182 := Tryz.underlying90
  a182 := Tryz.isAgg90
  z182 := Tryz.sizeOf90
  v182 := Tryz.zeroValue90
  t183 := Tryz.underlying91
  a183 := Tryz.isAgg91
  z183 := Tryz.sizeOf91
  v183 := Tryz.zeroValue91
  t218 := Tryz.underlying105
  a218 := Tryz.isAgg105
  z218 := Tryz.sizeOf105
  v218 := Tryz.zeroValue105
  t222 := Tryz.underlying109
  a222 := Tryz.isAgg109
  z222 := Tryz.sizeOf109
  v222 := Tryz.zeroValue109
  t228 := Tryz.underlying113
  a228 := Tryz.isAgg113
  z228 := Tryz.sizeOf113
  v228 := Tryz.zeroValue113
  t229 := Tryz.underlying114
  a229 := Tryz.isAgg114
  z229 := Tryz.sizeOf114
  v229 := Tryz.zeroValue114 }
theorem turn_put {w : World} {g q : Nat} (d : Array Int) (os : Array Obj) : Turn (fun i => i = g) w (grow (putRow (Value.int .i64) (Sort.ahead w q) g 0 d) os) :=
  ⟨rfl, rfl, rfl, by simp, fun i hi hn => by
    rw [heap_grow_old _ _ (by simpa using hi)]
    simp [putRow, mapBlock, Sort.ahead, Array.getElem?_modify, Ne.symm hn]⟩
theorem own_put {w : World} {base g cap q : Nat} {xs ys : List Int} (h : Own w base (.slice (some ⟨g, 0, none⟩) xs.length cap) xs) (hy : ys.length = xs.length) (os : Array Obj) :
    Own (grow (putRow (Value.int .i64) (Sort.ahead w q) g 0 ys.toArray) os) base (.slice (some ⟨g, 0, none⟩) xs.length cap) ys := by
  have h3 := Lib.ownsRow_putRow (q := q) (k := xs.length) (ys := ys) h hy (Nat.le_refl _)
  rw [List.take_of_length_le (by omega)] at h3
  have h4 := Lib.ownsRow_grow h3 0 os
  unfold Own
  rw [hy]
  exact h4
theorem own_holds {w : World} {base g cap : Nat} {xs : List Int} (h : Own w base (.slice (some ⟨g, 0, none⟩) xs.length cap) xs) : Holds (Value.int .i64) w g 0 xs.toArray ∧ g < w.heap.size := by
  obtain ⟨g2, cap2, e2, _, hlt, _, _, _, hH⟩ := Lib.holds_of_ownsRow h (by simp)
  simp only [Value.slice.injEq, Option.some.injEq, Addr.mk.injEq] at e2
  obtain ⟨⟨rfl, _, _⟩, _, rfl⟩ := e2
  exact ⟨hH, hlt⟩
theorem sortInts_any (base g cap n : Nat) (xs : List Int) (w : World) (h : Own w base (.slice (some ⟨g, 0, none⟩) n cap) xs) (hn : xs.length = n) (hl : n ≤ 1000000) :
    Calls Tryz.prog 81 #[.slice (some ⟨g, 0, none⟩) n cap] w fun e w' => e = .returned (.tuple #[]) ∧ Own w' base (.slice (some ⟨g, 0, none⟩) n cap) (xs.mergeSort fun x y => decide (x ≤ y)) ∧ Turn (fun i => i = g) w w' := by
  subst hn
  obtain ⟨hH, hlt⟩ := own_holds h
  refine Calls.mono (Any.slices_Sort_int sortI g 0 cap xs w hH hlt (by omega)) ?_
  rintro e w' ⟨rfl, q, os, rfl⟩
  exact ⟨rfl, own_put h (by simp) os, turn_put _ os⟩
end Go.Proofs.YtkaammkanapkmaaGreat

namespace Go.Proofs.YtkaammkanapkmaaGreat
open Go.RowKit Go.Sort Go.Shelf

attribute [local go_sem] Oper.semAt_some

theorem lt_some2 {w : World} {p : Addr} (h : (w.cell? p).isSome = true) : p.block < w.heap.size := by
  obtain ⟨v, e⟩ := Option.isSome_iff_exists.1 h
  exact World.block_lt_of_cell? _ _ e
set_option maxRecDepth 100000 in
set_option maxHeartbeats 4000000 in
/-- What has come when k rounds are over. -/
def uptoL (zs : List Int) (k : Nat) : List Int := zs.take k
theorem uptoL_succ {zs : List Int} {k : Nat} (h : k < zs.length) : uptoL zs (k + 1) = uptoL zs k ++ [zs[k]?.getD 0] := by
  unfold uptoL
  rw [List.take_succ_eq_append_getElem h]
  simp [h]
theorem uptoL_len {zs : List Int} {k : Nat} (h : k ≤ zs.length) : (uptoL zs k).length = k := by simp [uptoL, h]

set_option maxRecDepth 100000 in
set_option maxHeartbeats 2000000 in
/-- The closure of slices.Values, for every loop body that keeps what lay below n₀. -/
theorem values1_in (F : Fence) (n : Nat) (h7 : F.fn 82) (hro : F.round = none) (hn : 1 ≤ n) (l Bs n₀ len cap : Nat) (A : Option Addr) (zs : List Int) (hz : zs.length = len) (hreach : len ≤ 1000000) (J Jx : List Int → World → Prop)
    (hY : ∀ pre x W, J pre W → pre.length < len → YieldAt F (n - 1) Tryz.prog l #[.int .i64 x] W fun e W' =>
      (e = .returned (.bool true) ∧ J (pre ++ [x]) W' ∧ Below n₀ W W') ∨ (e = .returned (.bool false) ∧ Jx (pre ++ [x]) W'))
    (W : World) (hBs : W.cell? ⟨Bs, 0, none⟩ = some (.slice A len cap)) (hc : ∀ j, j < len → ∃ ad, A = some ad ∧ (ad.add j).block < n₀ ∧ W.cell? (ad.add j) = some (.int .i64 (zs[j]?.getD 0))) (h0 : J [] W) :
    CallsIn F n Tryz.prog 82 #[.func (.yield l) #[] #[], .pointer (some ⟨Bs, 0, none⟩)] W fun e W' => (∃ v, e = .returned v) ∧
      ((∃ ys, ys = zs ∧ J ys W') ∨ (∃ pre, pre <+: zs ∧ Jx pre W')) := by
  refine callsIn_of_wp Tryz.func82 rfl h7 ?_ hro
  simp only [Tryz.ntmps82, List.size_toArray, List.length_cons, List.length_nil, Nat.reduceAdd, Nat.reduceSub, Array.replicate_succ, Array.replicate_zero, List.push_toArray, List.append_toArray, List.nil_append, List.cons_append]
  have Hz := Lib.hid hz
  clear hz
  gi_wp2
  gi_loopw [7] (fun i wr => ∃ k : Nat, k ≤ len ∧ i = .int .i64 k ∧ J (uptoL zs k) wr ∧ Below n₀ W wr)
    (fun i _ => len - (intOf i).toNat)
  case atStart => exact ⟨0, Nat.zero_le _, rfl, h0, Below.refl _ _⟩
  case round =>
    obtain ⟨k, hk, rfl, hJs, hnx⟩ := hrel
    by_cases hlt : k < len
    · obtain ⟨ad, rfl, hb, hck⟩ := hc k hlt
      have hcx : wr.cell? (ad.add k) = some (.int .i64 (zs[k]?.getD 0)) := (hnx.cell (p := ad.add k) hb).trans hck
      obtain ⟨fn, tmps, assign, body, hy, hR⟩ := hY _ (zs[k]?.getD 0) wr hJs (by rw [uptoL_len (by rw [Hz.out]; exact hk)]; exact hlt)
      have Hk := Lib.hid (uptoL_succ (zs := zs) (k := k) (by rw [Hz.out]; exact hlt))
      clear hc hck
      gi_wp2
      refine hR.mono ?_
      rintro e W3 (⟨rfl, hJ3, hk3⟩ | ⟨rfl, hJx3⟩)
      · gi_wp2
        go_roundw
        case rel => exact ⟨k + 1, by omega, by go_num, by rw [Hk.out]; exact hJ3, hnx.trans hk3⟩
        case measure => simp [intOf]; omega
      · gi_wp2
        refine bodyPost_ret (results_none rfl _ _ _) rfl ?_
        exact ⟨⟨_, rfl⟩, .inr ⟨_, by rw [← Hk.out]; exact List.take_prefix _ _, hJx3⟩⟩
    · obtain rfl : k = len := by omega
      clear hc
      gi_wp2
      go_end0
      exact ⟨⟨_, rfl⟩, .inl ⟨_, by unfold uptoL; rw [List.take_of_length_le (by rw [Hz.out]; exact Nat.le_refl _)], hJs⟩⟩

/-- slices.Values hands back a value that gives all numbers, in order. -/
theorem values_stops (F : Fence) (n : Nat) (h7 : F.fn 82) (hro : F.round = none) (hn : 1 ≤ n) (Bs : Nat) (A : Option Addr) (len cap : Nat) (zs : List Int) (hz : zs.length = len) (hreach : len ≤ 1000000) (w : World) (hBs : Bs < w.heap.size)
    (hc : w.cell? ⟨Bs, 0, none⟩ = some (.slice A len cap)) (hI : IntsAt w A zs) :
    SeqStopsK F n Tryz.prog 82 #[.pointer (some ⟨Bs, 0, none⟩)] (fun x : Int => #[Value.int .i64 x]) (Below w.heap.size) (fun ys => ys = zs) (fun pre => pre <+: zs) len w := fun l J Jx W hW _ _ hY h0 =>
  values1_in F n h7 hro hn l Bs w.heap.size len cap A zs hz hreach J Jx hY W ((hW.cell (p := ⟨Bs, 0, none⟩) hBs).trans hc) (fun j hj => by
    obtain ⟨ad, rfl, h⟩ := hI.at_ (k := j) (by rw [hz]; exact hj)
    have hlt := lt_some2 (by rw [h]; rfl)
    exact ⟨ad, rfl, hlt, (hW.cell (p := ad.add j) hlt).trans (by rw [h]; simp [show j < zs.length by omega])⟩) h0
set_option maxHeartbeats 1000000 in
theorem values_any (A : Option Addr) (n c : Nat) (w : World) :
    Calls Tryz.prog 63 #[.slice A n c] w fun e w' => e = .returned (.func (.func 82) #[] #[.pointer (some ⟨w.heap.size, 0, none⟩)]) ∧ w' = w.alloc (.cells #[.slice A n c] 24) := by
  have hmf : ∀ (fn : Fn) (first cap : Array Value) (w : World), (Instr.makeFunc fn first cap).run Tryz.prog w = .ok (.func fn first cap) w := fun _ _ _ _ => rfl
  go_enter Tryz.func63, Tryz.ntmps63
  go_wp2_with fail
  go_ret
  exact ⟨rfl, rfl⟩
set_option maxRecDepth 100000 in
set_option maxHeartbeats 2000000 in
theorem appendSeq_any (Bs : Nat) (A : Option Addr) (len cap : Nat) (zs : List Int) (hz : zs.length = len) (hreach : len ≤ 1000000) (w : World) (hc : w.cell? ⟨Bs, 0, none⟩ = some (.slice A len cap)) (hI : IntsAt w A zs) :
    Calls Tryz.prog 90 #[.slice none 0 0, .func (.func 82) #[] #[.pointer (some ⟨Bs, 0, none⟩)]] w fun e w' => ∃ v, e = .returned v ∧ Own w' w.heap.size v zs ∧ (v = .slice none 0 0 ↔ zs = []) ∧ Kp w w' := by
  refine (callsIn_wide (n := 9)).1 ?_
  have hBs : Bs < w.heap.size := lt_some2 (by rw [hc]; rfl)
  obtain ⟨i0, hi, hz0, hz1, hz2⟩ := info_parts infoInt
  refine callsIn_of_wp_marks Tryz.func90 rfl trivial ?_ rfl
  simp only [Tryz.ntmps90, List.size_toArray, List.length_cons, List.length_nil, Nat.reduceAdd, Nat.reduceSub, Array.replicate_succ, Array.replicate_zero, List.push_toArray, List.append_toArray, List.nil_append, List.cons_append]
  gi_wp2
  have bO := Boxed.new w 24 (.slice none 0 0)
  have hB0 : Below w.heap.size w (w.alloc (.cells #[.slice none 0 0] 24)) := (Below.refl _ w).alloc (Nat.le_refl _) _
  refine wpIn_rangeFunc_ownG rfl (by omega) (gf := 82) (lb := #[.pointer (some ⟨Bs, 0, none⟩)]) rfl trivial (enters_of Tryz.func82 (by kernel_rfl) rfl)
    (values_stops Fence.wide (9 - 1) trivial rfl (by omega) Bs A len cap zs hz hreach w hBs hc hI) belowK_t (belowK_b (by simp)) hB0 (fun _ => rfl)
    (fun pre W => (∃ v, Boxed W w.heap.size 24 v ∧ W.ownsRow w.heap.size 3 1 v pre.length (pre.map (Value.int .i64)) ∧ (v = .slice none 0 0 ↔ pre = [])) ∧ Below w.heap.size w W)
    (fun _ _ _ => False)
    (OwnFrom.and (Own.from (holdsRow_own w.heap.size w.heap.size 24 3 1 (fun pre => pre.length) (fun pre => pre.map (Value.int .i64)) (fun pre v => v = .slice none 0 0 ↔ pre = [])) _) (ownFrom_below (Nat.le_refl _) (by simp)))
    (fun _ _ _ _ _ hs _ _ => hs)
    ⟨⟨_, bO, World.ownsRow_nil _ _ _ _, by simp⟩, hB0⟩
    (fun x => { tmps := #[.slice none 0 0, .func (.func 82) #[] #[.pointer (some ⟨Bs, 0, none⟩)], .pointer (some ⟨w.heap.size, 0, none⟩), undef, .slice none 0 0, .int .i64 x, .func (.func 82) #[] #[.pointer (some ⟨Bs, 0, none⟩)], .int .i64 x, undef, undef, undef, undef, undef], defers := [] }) ?assign ?body ?done ?stop
  case assign =>
    intro l x W K hK
    gi_wp2
    exact hK
  case body =>
    rintro l pre x W ⟨⟨v, hv, hrow, hnil⟩, hB⟩ hlt
    have hc := hv.cell
    gi_wp2_with (gi_at_builtin; refine wpListIn_append_own _ rfl _ _ 24 rfl w.heap.size 3 i0 (.int .i64 0) 1 8 Tryz.underlying24 hi hz0 hz1 hz2 rfl (by decide) _ _ _ rfl (hrow.alloc _) ⟨W.heap.size, 0, none⟩ 1 1 [.int .i64 x] rfl rfl (cell_one_new _ _ _) (by simp [Value.oneCell']) (by unfold maxLen; omega) (by omega) (by have := hB.size; simp; omega) ?_; intro v' w1 hown' hgrow _; obtain ⟨g', cap', rfl⟩ := ownsRow_succ hown'; obtain ⟨hv1, hv2, hr2, hk2, hb2⟩ := hv.appended (by decide) hrow hB.size (Nat.le_refl _) hown' hgrow; have hc1 := hv1.cell; have hf1 := hv1.frozen)
    exact ⟨hk2.from _, hb2, ⟨_, hv2, by simpa using hr2, by simp⟩, hB.trans hb2⟩
  case done =>
    rintro D ys W hD rfl ⟨⟨v, hv, hrow, hnil⟩, hB⟩ hK
    have hc := hv.cell
    gi_wp2
    refine ⟨by simp, .inl ⟨_, _, rfl, run_takeDeferred hK, ?_⟩⟩
    exact ⟨_, results_tmp rfl _ _ _, v, rfl, ownsRow_putObj hrow _ hK rfl, hnil, hB.trans (belowK_b (w := w) (Nat.le_refl _) W D _ _ (by simp at hD; omega) hK rfl rfl)⟩
  case stop =>
    rintro D c pre W _ _ h _
    exact h.elim
set_option maxHeartbeats 1000000 in
theorem collect_any (Bs : Nat) (A : Option Addr) (len cap : Nat) (zs : List Int) (hz : zs.length = len) (hreach : len ≤ 1000000) (w : World) (hc : w.cell? ⟨Bs, 0, none⟩ = some (.slice A len cap)) (hI : IntsAt w A zs) :
    Calls Tryz.prog 80 #[.func (.func 82) #[] #[.pointer (some ⟨Bs, 0, none⟩)]] w fun e w' => ∃ v, e = .returned v ∧ Own w' w.heap.size v zs ∧ (v = .slice none 0 0 ↔ zs = []) ∧ Kp w w' := by
  have CC := Lib.hid (appendSeq_any Bs A len cap zs hz hreach w hc hI)
  clear hc hI hz
  go_enter Tryz.func80, Tryz.ntmps80
  go_wp2_with fail
  with_reducible refine Calls.mono CC.out ?_
  rintro e w' ⟨v, rfl, ho, hn, hk⟩
  clear CC
  go_wp2_with fail
  go_ret
  exact ⟨v, rfl, ho, hn, hk⟩
def srtL (xs : List Int) : List Int := xs.mergeSort fun x y => decide (x ≤ y)
set_option maxHeartbeats 1000000 in
/-- slices.Sorted over slices.Values: a slice of the call's own with the numbers in ascending order. -/
theorem sorted_any (Bs : Nat) (A : Option Addr) (len cap : Nat) (zs : List Int) (hz : zs.length = len) (hreach : len ≤ 1000000) (w : World) (hc : w.cell? ⟨Bs, 0, none⟩ = some (.slice A len cap)) (hI : IntsAt w A zs) :
    Calls Tryz.prog 62 #[.func (.func 82) #[] #[.pointer (some ⟨Bs, 0, none⟩)]] w fun e w' => ∃ v, e = .returned v ∧ Own w' w.heap.size v (srtL zs) ∧ Kp w w' := by
  have CC := Lib.hid (collect_any Bs A len cap zs hz hreach w hc hI)
  have Hz := Lib.hid hz
  clear hc hI hz
  go_enter Tryz.func62, Tryz.ntmps62
  go_wp2_with fail
  with_reducible refine Calls.mono CC.out ?_
  rintro e w' ⟨v, rfl, ho, hn, hk⟩
  clear CC
  by_cases hne : zs = []
  · have hv := hn.2 hne
    subst hne hv
    have CC := Lib.hid (show Calls Tryz.prog 81 #[.slice none 0 0] w' (fun e w'' => e = .returned (.tuple #[]) ∧ w'' = w') from Any.slices_Sort_int_none sortI none 0 w')
    go_wp2_with fail
    with_reducible refine Calls.mono CC.out ?_
    rintro e w2 ⟨rfl, rfl⟩
    clear CC
    go_wp2_with fail
    go_ret
    exact ⟨_, rfl, by simpa [srtL] using ho, hk⟩
  · rcases id ho.2 with ⟨_, h0⟩ | ⟨g, cap2, cur, rfl, hg, hrest⟩
    · exact absurd (List.eq_nil_of_length_eq_zero h0) hne
    · have CC := Lib.hid (sortInts_any w.heap.size g cap2 zs.length zs w' ho rfl (by rw [Hz.out]; exact hreach))
      clear hrest
      go_wp2_with fail
      with_reducible refine Calls.mono CC.out ?_
      rintro e w2 ⟨rfl, ho2, ht⟩
      clear CC
      go_wp2_with fail
      go_ret
      refine ⟨_, rfl, ?_, ?_⟩
      · unfold Own at ho2 ⊢
        have : (srtL zs).length = zs.length := by unfold srtL; simp
        exact ho2
      · exact Own.kp_turn ho hk (Nat.le_refl _) (ht.mono (fun i e => by subst e; rfl))
end Go.Proofs.YtkaammkanapkmaaGreat

namespace Go.Proofs.YtkaammkanapkmaaGreat
open Go.RowKit Go.Sort

def ordB (n : Nat) (xs : List Int) : Bool := decide (xs.length = n) && (List.range n).all fun j => xs.any fun x => x == (j : Int)
theorem perm_of : ∀ (L xs : List Int), L.Nodup → (∀ x ∈ L, x ∈ xs) → xs.length ≤ L.length → L.Perm xs
  | [], xs, _, _, hl => by
    have : xs = [] := List.eq_nil_of_length_eq_zero (by simpa using hl)
    rw [this]
  | x :: t, xs, hn, hs, hl => by
    rw [List.nodup_cons] at hn
    have hx : x ∈ xs := hs x List.mem_cons_self
    have hp := List.length_pos_of_mem hx
    have h1 := perm_of t (xs.erase x) hn.2 (fun y hy => (List.mem_erase_of_ne (show y ≠ x from fun e => hn.1 (by rw [← e]; exact hy))).2 (hs y (List.mem_cons_of_mem _ hy))) (by rw [List.length_erase_of_mem hx]; rw [List.length_cons] at hl; omega)
    exact (h1.cons x).trans (List.perm_cons_erase hx).symm
theorem any_mem {xs : List Int} {j : Int} : (xs.any fun x => x == j) = true ↔ j ∈ xs := by
  rw [List.any_eq_true]
  exact ⟨fun ⟨x, hx, e⟩ => (eq_of_beq e) ▸ hx, fun h => ⟨_, h, by simp⟩⟩
theorem ordB_iff {n : Nat} {xs : List Int} : ordB n xs = true ↔ Ord n xs ∧ xs.length = n := by
  unfold ordB
  rw [Bool.and_eq_true, decide_eq_true_eq, List.all_eq_true]
  constructor
  · rintro ⟨h1, h2⟩
    have hs : ∀ x ∈ (List.range n).map (fun (i : Nat) => (i : Int)), x ∈ xs := fun x hx => by
      obtain ⟨i, hi, rfl⟩ := List.mem_map.1 hx
      exact any_mem.1 (h2 i hi)
    have hnd : ((List.range n).map (fun (i : Nat) => (i : Int))).Nodup := by
      show List.Pairwise (· ≠ ·) _
      rw [List.pairwise_map]
      exact List.pairwise_lt_range.imp (fun h => by omega)
    have hp := perm_of _ xs hnd hs (by simp [h1])
    refine ⟨⟨hp.nodup_iff.1 hnd, fun x hx => ?_⟩, h1⟩
    obtain ⟨i, hi, rfl⟩ := List.mem_map.1 (hp.mem_iff.2 hx)
    have := List.mem_range.1 hi
    omega
  · rintro ⟨h1, h2⟩
    exact ⟨h2, fun j hj => any_mem.2 (h1.full h2 (List.mem_range.1 hj))⟩
theorem srtL_len (xs : List Int) : (srtL xs).length = xs.length := by unfold srtL; simp
theorem srtL_mem {xs : List Int} {x : Int} : x ∈ srtL xs ↔ x ∈ xs := (List.mergeSort_perm xs _).mem_iff
theorem ris_ord {n : Nat} {xs : List Int} (hl : xs.length = n) : risB (srtL xs) 0 ((n : Int) - 1) = ordB n xs := by
  rw [Bool.eq_iff_iff, ris_iff, ordB_iff]
  constructor
  · rintro ⟨h1, h2⟩
    have hn : (srtL xs).Nodup := h1.imp (fun h => by omega)
    refine ⟨⟨(List.mergeSort_perm xs _).nodup_iff.1 hn, fun x hx => ?_⟩, hl⟩
    have := h2 x (srtL_mem.2 hx)
    omega
  · rintro ⟨h1, _⟩
    have hs : (srtL xs).Pairwise (fun a b => decide (a ≤ b) = true) := List.pairwise_mergeSort (fun a b c h1 h2 => by simp at h1 h2 ⊢; omega) (fun a b => by simp; omega) xs
    have hn : (srtL xs).Nodup := (List.mergeSort_perm xs _).nodup_iff.2 h1.nd
    refine ⟨(hs.and hn).imp (fun hab => by have h1 := hab.1; have h2 := hab.2; simp at h1; omega), fun x hx => ?_⟩
    have := h1.rg x (srtL_mem.1 hx)
    omega
theorem ordB_len {n : Nat} {xs : List Int} (h : xs.length ≠ n) : ordB n xs = false := by
  unfold ordB
  rw [decide_eq_false h, Bool.false_and]
set_option maxRecDepth 100000 in
set_option maxHeartbeats 1000000 in
theorem isOrder_any (A0 : Option Addr) (xs : List Int) (m c0 n : Nat) (w : World) (hx : IntsAt w A0 xs) (hm : xs.length = m) (hn7 : n ≤ 1000) :
    Calls Tryz.prog 35 #[.slice A0 m c0, .int .i64 (n : Int)] w fun e w' => e = .returned (.bool (ordB n xs)) ∧ Kp w w' := by
  have Hm := Lib.hid hm
  have Hx := Lib.hid hx
  clear hm hx
  by_cases he : m = n
  · subst he
    have hdec : ((m : Int) == (m : Int)) = true := by simp
    have CC := Lib.hid (values_any A0 m c0 w)
    have hkv : Kp w (w.alloc (.cells #[.slice A0 m c0] 24)) := (Kp.refl w).alloc _
    have hcv : (w.alloc (.cells #[.slice A0 m c0] 24)).cell? ⟨w.heap.size, 0, none⟩ = some (.slice A0 m c0) := by rw [World.cell?_alloc_at _ _ _ _ rfl]; rfl
    have Hcv := Lib.hid hcv
    clear hcv
    go_enter Tryz.func35, Tryz.ntmps35
    go_wp2_with fail
    with_reducible refine Calls.mono CC.out ?_
    rintro e w9 ⟨rfl, rfl⟩
    clear CC
    generalize w.alloc (.cells #[.slice A0 m c0] 24) = wv at *
    have CC := Lib.hid (sorted_any w.heap.size A0 m c0 xs Hm.out (by omega) wv Hcv.out (Hx.out.kp hkv))
    go_wp2_with fail
    with_reducible refine Calls.mono CC.out ?_
    rintro e w1 ⟨v, rfl, hov, hk1⟩
    clear CC
    obtain ⟨Av, cv, rfl, hvi⟩ := hov.ints (by rw [srtL_len, Hm.out]; omega)
    have hl := srtL_len xs
    rw [Hm.out] at hl
    rw [hl]
    have CC := Lib.hid (isRising_any Av (srtL xs) m cv (m : Int) w1 hvi hl (by omega) (by omega))
    clear hl hov
    go_wp2_with fail
    with_reducible refine Calls.mono CC.out ?_
    rintro e w2 ⟨rfl, hw2⟩
    obtain rfl := hw2
    clear CC
    rw [ris_ord Hm.out]
    go_wp2_with fail
    go_ret
    exact ⟨rfl, hkv.trans hk1⟩
  · have hdec : ((m : Int) == (n : Int)) = false := by simp; omega
    have Hno := Lib.hid (ordB_len (n := n) (xs := xs) (by rw [Hm.out]; exact he))
    clear he
    go_enter Tryz.func35, Tryz.ntmps35
    go_wp2_with fail
    go_ret
    exact ⟨by rw [Hno.out]; rfl, Kp.refl _⟩
theorem all_to {p : Nat → Bool} {k : Nat} : (List.range (k + 1)).all p = ((List.range k).all p && p k) := by
  rw [List.range_succ, List.all_append]; simp
set_option maxRecDepth 100000 in
set_option maxHeartbeats 1000000 in
theorem l9Order_any (f : Value) (F : Fld) (A0 : Option Addr) (xs : List Int) (m c0 : Nat) (w : World) (hf : FldAt w f F) (hx : IntsAt w A0 xs) (hm : xs.length = m) (hn7 : F.di.length ≤ 1000) :
    Calls Tryz.prog 37 #[f, .slice A0 m c0] w fun e w' => e = .returned (.bool (ordB F.di.length xs)) ∧ Kp w w' := by
  obtain ⟨A, c, B, d, rfl, hA, hB⟩ := hf
  have hk0 : Kp w (w.alloc (.cells #[.slice A F.op.length c, .slice B F.di.length d] 27)) := (Kp.refl w).alloc _
  obtain ⟨d0, d1⟩ := box2 w (.slice A F.op.length c) (.slice B F.di.length d) 27
  have hFA := FldAt.kp (show FldAt w (.agg #[.slice A F.op.length c, .slice B F.di.length d]) F from ⟨A, c, B, d, rfl, hA, hB⟩) hk0
  have hx0 := hx.kp hk0
  have Hm := Lib.hid hm
  clear hA hB hx hm hFA
  go_enter Tryz.func37, Tryz.ntmps37
  go_wp2_with fail
  have hsz : Hid ((w.alloc (.cells #[.slice A F.op.length c, .slice B F.di.length d] 27)).heap.size = w.heap.size + 1) := by show _ = _; simp
  generalize w.alloc (.cells #[.slice A F.op.length c, .slice B F.di.length d] 27) = wb at *
  have hkb : Kp wb wb := Kp.refl _
  have hkw := hk0
  obtain ⟨wl, rfl⟩ : ∃ wl : World, wl = wb := ⟨_, rfl⟩
  go_loopw [5] (fun iv wr => ∃ j : Nat, j ≤ F.di.length ∧ iv = .int .i64 j ∧ wr = wl ∧ Hid ((List.range j).all (fun j => xs.any fun x => x == (j : Int)) = true)) (fun iv _ => F.di.length - (intOf iv).toNat)
  case atStart => exact ⟨0, by omega, rfl, rfl, rfl⟩
  case round =>
    obtain ⟨j, hj, rfl, rfl, Hal⟩ := hrel
    by_cases hlt : j < F.di.length
    · have CC := Lib.hid (l1Has_any A0 xs m c0 (j : Int) wr hx0 Hm.out)
      go_wp2_with fail
      with_reducible refine Calls.mono CC.out ?_
      rintro e w5 ⟨rfl, hw5⟩
      obtain rfl := hw5
      clear CC
      cases hh : xs.any fun x => x == (j : Int)
      · have Hno : Hid (ordB F.di.length xs = false) := by
          show _ = _
          cases ho : ordB F.di.length xs
          · rfl
          · obtain ⟨h1, h2⟩ := ordB_iff.1 ho
            rw [any_mem.2 (h1.full h2 hlt)] at hh; cases hh
        clear hh
        go_wp2_with fail
        go_ret
        exact ⟨by rw [Hno.out]; rfl, hkw⟩
      · have Hal2 : Hid ((List.range (j + 1)).all (fun j => xs.any fun x => x == (j : Int)) = true) := by show _ = _; rw [all_to, Hal.out, hh]; rfl
        clear hh
        go_wp2_with fail
        go_roundw
        case rel => exact ⟨j + 1, by omega, by go_num, trivial, Hal2⟩
        case measure => simp [intOf]; omega
    · obtain rfl : j = F.di.length := by omega
      have Hy : Hid (ordB F.di.length xs = ((m : Int) == (F.di.length : Int))) := by
        show _ = _
        unfold ordB
        rw [Hal.out, Bool.and_true, Hm.out, Bool.eq_iff_iff, decide_eq_true_eq, beq_iff_eq]
        omega
      go_wp2_with fail
      go_ret
      exact ⟨by rw [Hy.out]; rfl, hkw⟩
end Go.Proofs.YtkaammkanapkmaaGreat

namespace Go.Proofs.YtkaammkanapkmaaGreat
open Go.RowKit Go.Sort

def msOk (F : Fld) (O : List Int) : Bool := goodF F && ordB F.di.length O
def msL (F : Fld) (O : List Int) : List Int := if msOk F O = true then mapTo (amT (ctF F) (fun _ => 0) O O.length) F.di.length else []
theorem msL_yes {F : Fld} {O : List Int} (h : msOk F O = true) : msL F O = mapTo (amT (ctF F) (fun _ => 0) O O.length) F.di.length := if_pos h
theorem msL_no {F : Fld} {O : List Int} (h : msOk F O = false) : msL F O = [] := if_neg (by simp [h])
theorem msL_len (F : Fld) (O : List Int) : (msL F O).length ≤ 1048576 := by
  cases h : msOk F O
  · rw [msL_no h]; simp
  · rw [msL_yes h, mapTo_len]
    unfold msOk at h
    rw [Bool.and_eq_true] at h
    have := (goodF_iff.1 h.1).2.2.1
    omega
theorem ct_bd {F : Fld} (h : goodF F = true) (c : Nat) : 0 ≤ ctF F c ∧ ctF F c ≤ 1386 := cost_bd h (bitsL_crowd F c)
theorem zeros_map (n : Nat) : List.replicate n (0 : Int) = mapTo (fun _ => 0) n := by
  unfold mapTo
  rw [List.map_const', List.length_range]
set_option maxRecDepth 100000 in
set_option maxHeartbeats 1000000 in
theorem implMs_any (f : Value) (F : Fld) (A1 : Option Addr) (O : List Int) (m c1 : Nat) (w : World) (hf : FldAt w f F) (h1 : IntsAt w A1 O) (hm : O.length = m) :
    Calls Tryz.prog 13 #[f, .slice A1 m c1] w fun e w' => ∃ v, e = .returned (.tuple #[v, .bool (msOk F O)]) ∧ Own w' w.heap.size v (msL F O) ∧ Kp w w' := by
  obtain ⟨A, c, B, d, rfl, hA, hB⟩ := hf
  have hk0 : Kp w (w.alloc (.cells #[.slice A F.op.length c, .slice B F.di.length d] 27)) := (Kp.refl w).alloc _
  obtain ⟨d0, d1⟩ := box2 w (.slice A F.op.length c) (.slice B F.di.length d) 27
  have hFA := FldAt.kp (show FldAt w (.agg #[.slice A F.op.length c, .slice B F.di.length d]) F from ⟨A, c, B, d, rfl, hA, hB⟩) hk0
  have h10 := h1.kp hk0
  have Hm := Lib.hid hm
  clear hA hB h1 hm
  go_enter Tryz.func13, Tryz.ntmps13
  go_wp2_with fail
  have hsz : Hid ((w.alloc (.cells #[.slice A F.op.length c, .slice B F.di.length d] 27)).heap.size = w.heap.size + 1) := by show _ = _; simp
  generalize w.alloc (.cells #[.slice A F.op.length c, .slice B F.di.length d] 27) = wb at *
  have hkb : Kp wb wb := Kp.refl _
  have hkw := hk0
  have CC := Lib.hid (isField_any _ F _ (hFA.kp hkb))
  with_reducible refine Calls.mono CC.out ?_
  rintro e w1 ⟨rfl, hk1⟩
  clear CC
  replace hkb := hkb.trans hk1
  cases hg_ : goodF F
  · have Hno : Hid (msOk F O = false) := by show _ = _; rw [msOk, hg_]; rfl
    clear hg_
    have q_d0 := hkb.get d0
    have q_d1 := hkb.get d1
    go_wp2_with fail
    go_ret2
    exact ⟨_, by rw [Hno.out]; rfl, by rw [msL_no Hno.out]; exact Own.nil _ _, hkw.trans hkb⟩
  have HG := Lib.hid hg_; clear hg_
  have h7 := (goodF_iff.1 HG.out).2.2.1
  have q_d0 := hkb.get d0
  have q_d1 := hkb.get d1
  go_wp2_with fail
  have CC := Lib.hid (isOrder_any A1 O m c1 F.di.length w1 (h10.kp hkb) Hm.out (by omega))
  with_reducible refine Calls.mono CC.out ?_
  rintro e w2 ⟨rfl, hk2⟩
  clear CC q_d0 q_d1
  replace hkb := hkb.trans hk2
  cases ho_ : ordB F.di.length O
  · have Hno : Hid (msOk F O = false) := by show _ = _; rw [msOk, ho_]; simp
    clear ho_
    have q_d0 := hkb.get d0
    have q_d1 := hkb.get d1
    go_wp2_with fail
    go_ret2
    exact ⟨_, by rw [Hno.out]; rfl, by rw [msL_no Hno.out]; exact Own.nil _ _, hkw.trans hkb⟩
  have Hok : Hid (msOk F O = true) := by show _ = _; rw [msOk, HG.out, ho_]; rfl
  have HO := Lib.hid (ordB_iff.1 ho_)
  clear ho_
  obtain rfl : m = F.di.length := by rw [← Hm.out]; exact HO.out.2
  have hmk := run_make_row' (P := Tryz.prog) 24 3 (.int .i64 0) 8 Tryz.underlying24 infoInt rfl .i64 .i64 F.di.length (by omega) (by omega)
  have hom := own_made w2 w2.heap.size F.di.length (Nat.le_refl _) (by omega)
  have hkm := (Kp.refl w2).alloc (.cells (madeCells #[.int .i64 0] F.di.length) 3)
  have hkn := hkb.trans hkm
  have y0 := hkn.get d0
  have y1 := hkn.get d1
  have q_d0 := hkb.get d0
  have q_d1 := hkb.get d1
  go_wp2_with fail
  generalize w2.alloc (.cells (madeCells #[.int .i64 0] F.di.length) 3) = wm at *
  have CC := Lib.hid (costs_any _ F wm (hFA.kp hkn) HG.out)
  with_reducible refine Calls.mono CC.out ?_
  rintro e w3 ⟨v, rfl, hov, hk3⟩
  clear q_d0 q_d1
  clear CC y0 y1
  have hml := mapTo_len (ctF F) (2 ^ F.di.length)
  obtain ⟨gv, cv, rfl⟩ := hov.at0 hml (Nat.two_pow_pos _)
  have hiv := hov.intsOf (by rw [hml]; have : 2 ^ F.di.length ≤ 2 ^ 7 := Nat.pow_le_pow_right (by omega) h7; omega)
  have hgv := (hov.lt gv rfl).1
  have hgm := (hom.lt w2.heap.size rfl).2
  have hw2 := hkm.le
  have ho3 := hom.kp hk3
  rw [zeros_map] at ho3
  have CC := Lib.hid (addMarginal_any (ctF F) F.di.length h7 (fun c _ => ct_bd HG.out c) (2 ^ F.di.length) rfl (some ⟨gv, 0, none⟩) cv A1 O F.di.length c1 w2.heap.size F.di.length w2.heap.size (fun _ => 0) w3 hiv (h10.kp (hkn.trans hk3)) HO.out.2 HO.out.1 (fun _ => by omega) ho3 (fun ad e => by
    have : ad = ⟨gv, 0, none⟩ := by simpa using e.symm
    subst this
    show gv ≠ _; omega) (fun ad e hne => by
    have h1i := h10.kp hkb
    obtain ⟨ad', e', hc⟩ := h1i.at_ (k := 0) (List.length_pos_iff.2 hne)
    rw [e] at e'
    obtain rfl : ad = ad' := by simpa using e'
    have := World.block_lt_of_cell? _ _ hc
    rw [show (ad.add 0).block = ad.block from rfl] at this
    omega))
  clear hov hom hmk
  go_wp2_with fail
  with_reducible refine Calls.mono CC.out ?_
  rintro e w4 ⟨rfl, ho4, ht4⟩
  clear CC
  go_wp2_with fail
  go_ret2
  have hk4 : Kp w2 w4 := ((Kp.trans hkm hk3) : Kp w2 w3).turn ht4 (fun i e => by omega)
  refine ⟨_, by rw [Hok.out]; rfl, ?_, (hkw.trans hkb).trans hk4⟩
  rw [msL_yes Hok.out, HO.out.2]
  exact ho4.mono (hkw.trans hkb).le
theorem ms_nums {s T q P : Nat} (hbn : q = s + T) (hnb : q < P) (hpw : P ≤ 128) : wrap64 (T : Int) = (T : Int) ∧ wrap64 ((s : Int) + (T : Int)) = (q : Int) := by
  subst hbn
  exact ⟨IntWalk.wrap64_in _ (by omega), by rw [IntWalk.wrap64_in _ (by omega)]; omega⟩
theorem ms_sub {a b : Int} (h1 : 0 ≤ a ∧ a ≤ 1386) (h2 : 0 ≤ b ∧ b ≤ 1386) : IntKind.i64.wrap (b - a) = b - a ∧ wrap64 (b - a) = b - a := ⟨IntWalk.i64_in _ (by omega), IntWalk.wrap64_in _ (by omega)⟩
theorem mgT_zero (ct : Nat → Int) (O : List Int) (j : Nat) : ∀ k, (∀ t, t < k → O.getD t 0 ≠ (j : Int)) → mgT ct O j k = 0
  | 0, _ => rfl
  | k + 1, h => by
    unfold mgT
    rw [mgT_zero ct O j k (fun t ht => h t (by omega)), if_neg (h k (by omega))]
    rfl
set_option maxRecDepth 100000 in
set_option maxHeartbeats 2000000 in
theorem specMs_any (f : Value) (F : Fld) (A1 : Option Addr) (O : List Int) (m c1 : Nat) (w : World) (hf : FldAt w f F) (h1 : IntsAt w A1 O) (hm : O.length = m) :
    Calls Tryz.prog 14 #[f, .slice A1 m c1] w fun e w' => ∃ v, e = .returned (.tuple #[v, .bool (msOk F O)]) ∧ Own w' w.heap.size v (msL F O) ∧ Kp w w' := by
  obtain ⟨A, c, B, d, rfl, hA, hB⟩ := hf
  have hk0 : Kp w (w.alloc (.cells #[.slice A F.op.length c, .slice B F.di.length d] 27)) := (Kp.refl w).alloc _
  obtain ⟨d0, d1⟩ := box2 w (.slice A F.op.length c) (.slice B F.di.length d) 27
  have hFA := FldAt.kp (show FldAt w (.agg #[.slice A F.op.length c, .slice B F.di.length d]) F from ⟨A, c, B, d, rfl, hA, hB⟩) hk0
  have h10 := h1.kp hk0
  have Hm := Lib.hid hm
  clear hA hB h1 hm
  go_enter Tryz.func14, Tryz.ntmps14
  go_wp2_with fail
  have hsz : Hid ((w.alloc (.cells #[.slice A F.op.length c, .slice B F.di.length d] 27)).heap.size = w.heap.size + 1) := by show _ = _; simp
  generalize w.alloc (.cells #[.slice A F.op.length c, .slice B F.di.length d] 27) = wb at *
  have hkb : Kp wb wb := Kp.refl _
  have hkw := hk0
  have CC := Lib.hid (l2Good_any _ F _ (hFA.kp hkb))
  with_reducible refine Calls.mono CC.out ?_
  rintro e w1 ⟨rfl, hk1⟩
  clear CC
  replace hkb := hkb.trans hk1
  cases hg_ : goodF F
  · have Hno : Hid (msOk F O = false) := by show _ = _; rw [msOk, hg_]; rfl
    clear hg_
    have hle := (hkw.trans hkb).le
    have q_d0 := hkb.get d0
    have q_d1 := hkb.get d1
    go_wp2_with fail
    go_ret2
    exact ⟨_, by rw [Hno.out]; rfl, by rw [msL_no Hno.out]; exact own_new0 _ _ hle, (hkw.trans hkb).alloc _⟩
  have HG := Lib.hid hg_; clear hg_
  have h7 := (goodF_iff.1 HG.out).2.2.1
  have q_d0 := hkb.get d0
  have q_d1 := hkb.get d1
  go_wp2_with fail
  have CC := Lib.hid (l9Order_any _ F A1 O m c1 w1 (hFA.kp hkb) (h10.kp hkb) Hm.out (by omega))
  with_reducible refine Calls.mono CC.out ?_
  rintro e w2 ⟨rfl, hk2⟩
  clear CC q_d0 q_d1
  replace hkb := hkb.trans hk2
  cases ho_ : ordB F.di.length O
  · have Hno : Hid (msOk F O = false) := by show _ = _; rw [msOk, ho_]; simp
    clear ho_
    have hle := (hkw.trans hkb).le
    have q_d0 := hkb.get d0
    have q_d1 := hkb.get d1
    go_wp2_with fail
    go_ret2
    exact ⟨_, by rw [Hno.out]; rfl, by rw [msL_no Hno.out]; exact own_new0 _ _ hle, (hkw.trans hkb).alloc _⟩
  have Hok : Hid (msOk F O = true) := by show _ = _; rw [msOk, HG.out, ho_]; rfl
  have HO := Lib.hid (ordB_iff.1 ho_)
  clear ho_
  obtain rfl : m = F.di.length := by rw [← Hm.out]; exact HO.out.2
  have hmk := run_make_row' (P := Tryz.prog) 24 3 (.int .i64 0) 8 Tryz.underlying24 infoInt rfl .i64 .i64 F.di.length (by omega) (by omega)
  have hom := own_made w2 w2.heap.size F.di.length (Nat.le_refl _) (by omega)
  have hkm := (Kp.refl w2).alloc (.cells (madeCells #[.int .i64 0] F.di.length) 3)
  have hkn := hkb.trans hkm
  have y0 := hkn.get d0
  have y1 := hkn.get d1
  have q_d0 := hkb.get d0
  have q_d1 := hkb.get d1
  go_wp2_with fail
  generalize w2.alloc (.cells (madeCells #[.int .i64 0] F.di.length) 3) = wm at *
  have CC := Lib.hid (l9Table_any _ F wm (hFA.kp hkn) HG.out)
  with_reducible refine Calls.mono CC.out ?_
  rintro e w3 ⟨v, rfl, hov, hk3⟩
  clear q_d0 q_d1
  clear CC y0 y1
  have hml := mapTo_len (ctF F) (2 ^ F.di.length)
  obtain ⟨gv, cv, rfl⟩ := hov.at0 hml (Nat.two_pow_pos _)
  have hpw : 2 ^ F.di.length ≤ 128 := Nat.pow_le_pow_right (by omega) h7
  have hiv := hov.intsOf (by rw [hml]; omega)
  have hgv := (hov.lt gv rfl).1
  have hgm := (hom.lt w2.heap.size rfl).2
  have hw2 := hkm.le
  have ho3 := hom.kp hk3
  rw [zeros_map] at ho3
  have HA1 := Lib.hid (fun (ad : Addr) (e : A1 = some ad) (hne : O ≠ []) => (show ad.block ≠ w2.heap.size from by
    have h1i := h10.kp hkb
    obtain ⟨ad', e', hc⟩ := h1i.at_ (k := 0) (List.length_pos_iff.2 hne)
    rw [e] at e'
    obtain rfl : ad = ad' := by simpa using e'
    have := World.block_lt_of_cell? _ _ hc
    rw [show (ad.add 0).block = ad.block from rfl] at this
    omega))
  have h13 := h10.kp (hkn.trans hk3)
  have hk23 : Kp w2 w3 := hkm.trans hk3
  obtain ⟨G, HGe⟩ : ∃ g, Hid (w2.heap.size = g) := ⟨_, Lib.hid rfl⟩
  rw [HGe.out] at ho3 HA1 hgm hw2
  obtain ⟨P, HPe⟩ : ∃ p, Hid (2 ^ F.di.length = p) := ⟨_, Lib.hid rfl⟩
  rw [HPe.out] at hiv hpw
  have hgG : gv ≠ G := by omega
  rw [show (⟨w2.heap.size, 0, none⟩ : Addr) = ⟨G, 0, none⟩ by rw [HGe.out]]
  rw [HPe.out]
  clear hov hom hmk hgv hgm hw2 hml
  obtain ⟨wl, rfl⟩ : ∃ wl : World, wl = w3 := ⟨_, rfl⟩
  go_wp2_with fail
  go_loopw [8, 9] (fun sv iv wr => ∃ k : Nat, k ≤ F.di.length ∧ iv = .int .i64 k ∧ sv = .int .i64 (bagN (O.take k) : Int) ∧ Own wr G (.slice (some ⟨G, 0, none⟩) F.di.length F.di.length) (mapTo (amT (ctF F) (fun _ => 0) O k) F.di.length) ∧ Turn (fun i => i = G) wl wr) (fun _ iv _ => F.di.length - (intOf iv).toNat)
  case atStart => exact ⟨0, by omega, rfl, rfl, by rw [amT_zero]; exact ho3, Turn.refl _ _⟩
  case round =>
    clear ho3
    obtain ⟨k, hk, rfl, rfl, hown, htn⟩ := hrel
    have h1r := h13.turn htn (fun ad e hne hb => HA1.out ad e hne hb)
    by_cases hlt : k < F.di.length
    · have lx : k < O.length := by rw [Hm.out]; exact hlt
      obtain ⟨ad1, rfl, hck⟩ := h1r.at_ lx
      have hrg := HO.out.1.rg _ (List.getElem_mem lx)
      obtain ⟨o, ho⟩ : ∃ o : Nat, O[k] = (o : Int) := ⟨O[k].toNat, by omega⟩
      have Ho := Lib.hid ho
      rw [ho] at hck hrg
      have hon : o < F.di.length := by omega
      have hnew : ∀ t, t < k → O.getD t 0 ≠ (o : Int) := fun t ht e => by
        have e1 : O.getD t 0 = O[t] := by simp [List.getD, show t < O.length by omega]
        rw [e1, ← Ho.out] at e
        have := (List.getElem_inj HO.out.1.nd).1 e
        omega
      have hz := mgT_zero (ctF F) O o k hnew
      have hbit : (bagN (O.take k)).testBit o = false := by
        rw [bagN_bit (fun y hy => (HO.out.1.rg y (List.mem_of_mem_take hy)).1), decide_eq_false_iff_not]
        intro hin
        obtain ⟨t, ht, e⟩ := List.getElem_of_mem hin
        rw [List.length_take] at ht
        rw [List.getElem_take] at e
        refine hnew t (by omega) ?_
        rw [← e]; simp [List.getD, show t < O.length by omega]
      have hsb : bagN (O.take k) < 2 ^ F.di.length := bagN_lt (fun y hy => HO.out.1.rg y (List.mem_of_mem_take hy))
      have hnb : bagN (O.take (k + 1)) < 2 ^ F.di.length := bagN_lt (fun y hy => HO.out.1.rg y (List.mem_of_mem_take hy))
      have hadd := add_or hbit
      have hbn := bag_next lx
      rw [ho, Int.toNat_natCast, ← hadd] at hbn
      rw [HPe.out] at hsb hnb
      obtain ⟨s, Hs⟩ : ∃ z, Hid (bagN (O.take k) = z) := ⟨_, Lib.hid rfl⟩
      obtain ⟨q, Hq⟩ : ∃ z, Hid (bagN (O.take (k + 1)) = z) := ⟨_, Lib.hid rfl⟩
      rw [Hs.out] at hsb hbn ⊢
      rw [Hq.out] at hnb hbn
      have hbs := ct_bd HG.out s
      have hbq := ct_bd HG.out q
      obtain ⟨T, HT⟩ : ∃ z, Hid (2 ^ o = z) := ⟨_, Lib.hid rfl⟩
      rw [HT.out] at hbn
      have hsh : wrap64 (2 ^ o) = (T : Int) := by
        rw [show (2 : Int) ^ o = ((2 ^ o : Nat) : Int) by simp, HT.out]
        exact (ms_nums hbn hnb hpw).1
      have hsh2 : IntKind.i64.wrap (2 ^ o) = (T : Int) := (IntWalk.i64_left _).trans hsh
      have hsm : wrap64 ((s : Int) + (T : Int)) = (q : Int) := (ms_nums hbn hnb hpw).2
      have hsm2 : IntKind.i64.wrap ((s : Int) + (T : Int)) = (q : Int) := (IntWalk.i64_left _).trans hsm
      obtain ⟨r1, r2, r3⟩ := hown.slotL (mapTo_len _ _) hon
      obtain ⟨cs, Hcs⟩ : ∃ z, Hid (ctF F s = z) := ⟨_, Lib.hid rfl⟩
      obtain ⟨cq, Hcq⟩ : ∃ z, Hid (ctF F q = z) := ⟨_, Lib.hid rfl⟩
      rw [Hcs.out] at hbs
      rw [Hcq.out] at hbq
      have h0r := hiv.turn htn (fun ad e _ hb => hgG (by cases e; exact hb))
      obtain ⟨ad0, e0, hcs⟩ := h0r.at_ (k := s) (by rw [mapTo_len]; exact hsb)
      obtain rfl : (⟨gv, 0, none⟩ : Addr) = ad0 := by simpa using e0
      rw [mapTo_get hsb, Hcs.out] at hcs
      obtain ⟨ad0', e0', hcq⟩ := h0r.at_ (k := q) (by rw [mapTo_len]; exact hnb)
      obtain rfl : (⟨gv, 0, none⟩ : Addr) = ad0' := by simpa using e0'
      rw [mapTo_get hnb, Hcq.out] at hcq
      have hst := r3 (cq - cs)
      obtain ⟨hw1, hw3⟩ := ms_sub hbs hbq
      have ad_o : (⟨G, 0, none⟩ : Addr).add o = ⟨G, o, none⟩ := add0 _ _
      have ad_s : (⟨gv, 0, none⟩ : Addr).add s = ⟨gv, s, none⟩ := add0 _ _
      have ad_q : (⟨gv, 0, none⟩ : Addr).add q = ⟨gv, q, none⟩ := add0 _ _
      rw [ad_s] at hcs
      rw [ad_q] at hcq
      have HN : Hid ((mapTo (amT (ctF F) (fun _ => 0) O k) F.di.length).set o (cq - cs) = mapTo (amT (ctF F) (fun _ => 0) O (k + 1)) F.di.length) := by
        show _ = _
        rw [mapTo_set']
        refine mapTo_congr' (fun j _ => ?_)
        rw [amT_step (ctF F) (fun _ => 0) O lx Ho.out j, Hq.out, Hs.out, Hcq.out, Hcs.out]
        have : amT (ctF F) (fun _ => 0) O k o = 0 := by unfold amT; rw [hz]; rfl
        rw [this, Int.zero_add]
      have HST := Lib.hid hst
      rw [HN.out] at HST
      have e8 : ((o : Int)).toNat = o := Int.toNat_natCast o
      have hsI : (s : Int) < (P : Int) := Int.ofNat_lt.2 hsb
      have hqI : (q : Int) < (P : Int) := Int.ofNat_lt.2 hnb
      have honI : (o : Int) < (F.di.length : Int) := Int.ofNat_lt.2 hon
      clear r3 hst e0 e0' h0r h1r hown ho hz hbit hnew hadd hbn
      go_wp2_with fail
      go_still_tail 15, (by kernel_rfl)
      change wpList _ _ _ _ _ _
      go_wp2_with fail
      go_roundw
      case rel => exact ⟨k + 1, by omega, by go_num, by rw [Hq.out], HST.out.1.kp (Kp.refl _).drew, (htn.trans HST.out.2).trans (Turn.of_kp (Kp.refl _).drew)⟩
      case measure => simp [intOf]; omega
    · obtain rfl : k = F.di.length := by omega
      go_wp2_with fail
      go_ret2
      have hk4 : Kp w2 wr := hk23.turn htn (fun i e => by have := HGe.out; omega)
      refine ⟨_, by rw [Hok.out]; rfl, ?_, (hkw.trans hkb).trans hk4⟩
      rw [msL_yes Hok.out, HO.out.2]
      exact hown.mono (by have := (hkw.trans hkb).le; have := HGe.out; omega)
end Go.Proofs.YtkaammkanapkmaaGreat

namespace Go.Proofs.YtkaammkanapkmaaGreat
open Go.RowKit Go.Sort

theorem fac_bd : ∀ n, n ≤ 7 → 1 ≤ facT n ∧ facT n ≤ 5040
  | 0, _ => by unfold facT; omega
  | 1, _ => by decide
  | 2, _ => by decide
  | 3, _ => by decide
  | 4, _ => by decide
  | 5, _ => by decide
  | 6, _ => by decide
  | 7, _ => by decide
  | n + 8, h => by omega
set_option maxHeartbeats 400000 in
theorem l9Orders_any (n : Nat) (w : World) (hn : n ≤ 7) :
    Calls Tryz.prog 41 #[.int .i64 (n : Int)] w fun e w' => e = .returned (.int .i64 (facT n)) ∧ w' = w := by
  go_enter Tryz.func41, Tryz.ntmps41
  go_wp2_with fail
  go_loopw [3, 4] (fun ov iv wr => ∃ i : Nat, 1 ≤ i ∧ i ≤ max 1 n ∧ iv = .int .i64 ((i + 1 : Nat) : Int) ∧ ov = .int .i64 (facT i) ∧ wr = w) (fun _ iv _ => 9 - (intOf iv).toNat)
  case atStart => exact ⟨1, by omega, by omega, rfl, rfl, rfl⟩
  case round =>
    obtain ⟨i, h1, h2, rfl, rfl, rfl⟩ := hrel
    by_cases hlt : i + 1 ≤ n
    · have hltI : ((i + 1 : Nat) : Int) ≤ (n : Int) := by omega
      have hltI2 : (i : Int) + 1 ≤ (n : Int) := by omega
      have hb := fac_bd (i + 1) (by omega)
      have e : facT (i + 1) = ((i + 1 : Nat) : Int) * facT i := rfl
      have He : Hid (facT i * ((i : Int) + 1) = facT (i + 1)) := by show _ = _; rw [e, Int.mul_comm]; congr 1
      have hw : IntKind.i64.wrap (facT i * ((i : Int) + 1)) = facT (i + 1) := by rw [He.out]; exact IntWalk.i64_in _ (by omega)
      clear e
      go_wp2_with fail
      go_roundw
      case rel => exact ⟨i + 1, by omega, by omega, by go_num, rfl, trivial⟩
      case measure => simp [intOf]; omega
    · have hltI : ¬ ((i + 1 : Nat) : Int) ≤ (n : Int) := by omega
      have hltI2 : ¬ (i : Int) + 1 ≤ (n : Int) := by omega
      have He : Hid (facT i = facT n) := by
        show _ = _
        by_cases h0 : n = 0
        · subst h0; obtain rfl : i = 1 := by omega
          rfl
        · obtain rfl : i = n := by omega
          rfl
      go_wp2_with fail
      go_ret
      exact ⟨by rw [← He.out]; rfl, rfl⟩
/-- What a set adds to a client's sum. -/
def gsT (ct : Nat → Int) (n j C : Nat) : Int := if C.testBit j = false then facT (bitsL n C).length * facT (n - 1 - (bitsL n C).length) * dlT ct j C else 0
theorem gs_all (ct : Nat → Int) (n j : Nat) : sumTo (gsT ct n j) (2 ^ n) = stT ct n j 0 0 := by
  unfold stT
  refine sumTo_congr (fun C _ => ?_)
  have h0 : subT n 0 C = true := subT_iff.2 (fun i _ h => by rw [Nat.zero_testBit] at h; cases h)
  unfold gsT
  rw [h0, Nat.sub_zero]
  by_cases h : C.testBit j = false
  · rw [if_pos h, if_pos ⟨rfl, h⟩]
  · rw [if_neg h, if_neg (fun hh => h hh.2)]
theorem len_lt {n j C : Nat} (hj : j < n) (h : C.testBit j = false) : (bitsL n C).length ≤ n - 1 := by
  have h1 := pc_len n C
  have h2 : pcT n C < n := by
    have := sumTo_lt (g := fun i => if C.testBit i = true then (1 : Int) else 0) (h := fun _ => 1) (k := n) (fun i _ => by split <;> omega) hj (by rw [h]; decide)
    rw [sumTo_ones] at this
    exact this
  omega
theorem gs_bd {ct : Nat → Int} {n j C : Nat} (hn : n ≤ 7) (hj : j < n) (hct : ∀ c, 0 ≤ ct c ∧ ct c ≤ 1386) : -40000000000 ≤ gsT ct n j C ∧ gsT ct n j C ≤ 40000000000 := by
  unfold gsT
  by_cases h : C.testBit j = false
  · rw [if_pos h]
    have hl := len_lt hj h
    have b1 := fac_bd (bitsL n C).length (by omega)
    have b2 := fac_bd (n - 1 - (bitsL n C).length) (by omega)
    have c1 := hct (C + 2 ^ j)
    have c2 := hct C
    have p1 : 0 ≤ facT (bitsL n C).length * facT (n - 1 - (bitsL n C).length) := Int.mul_nonneg (by omega) (by omega)
    have p2 : facT (bitsL n C).length * facT (n - 1 - (bitsL n C).length) ≤ 5040 * 5040 := Int.mul_le_mul b1.2 b2.2 (by omega) (by omega)
    have d1 : -1386 ≤ dlT ct j C := by unfold dlT; omega
    have d2 : dlT ct j C ≤ 1386 := by unfold dlT; omega
    obtain ⟨a, ha⟩ : ∃ a, facT (bitsL n C).length * facT (n - 1 - (bitsL n C).length) = a := ⟨_, rfl⟩
    obtain ⟨d, hd⟩ : ∃ d, dlT ct j C = d := ⟨_, rfl⟩
    rw [ha] at p1 p2 ⊢
    rw [hd] at d1 d2 ⊢
    have q1 : a * d ≤ a * 1386 := Int.mul_le_mul_of_nonneg_left d2 p1
    have q2 : a * (-1386) ≤ a * d := Int.mul_le_mul_of_nonneg_left d1 p1
    omega
  · rw [if_neg h]; omega
theorem sum_gs_bd {ct : Nat → Int} {n j : Nat} (hn : n ≤ 7) (hj : j < n) (hct : ∀ c, 0 ≤ ct c ∧ ct c ≤ 1386) : ∀ k : Nat, -(40000000000 * (k : Int)) ≤ sumTo (gsT ct n j) k ∧ sumTo (gsT ct n j) k ≤ 40000000000 * (k : Int)
  | 0 => by rw [sumTo_zero]; omega
  | k + 1 => by
    have h1 := sum_gs_bd hn hj hct k
    have h2 := gs_bd (C := k) hn hj hct
    rw [sumTo_succ]; omega
/-- The sums after some sets, and of the next set after some clients. -/
def stepT (ct : Nat → Int) (n C j0 j : Nat) : Int := sumTo (gsT ct n j) C + (if j < j0 then gsT ct n j C else 0)
theorem stepT_zero (ct : Nat → Int) (n C : Nat) : stepT ct n C 0 = fun j => sumTo (gsT ct n j) C := by funext j; unfold stepT; rw [if_neg (by omega)]; omega
theorem stepT_next (ct : Nat → Int) (n C : Nat) : mapTo (stepT ct n C n) n = mapTo (stepT ct n (C + 1) 0) n := mapTo_congr' (fun j hj => by unfold stepT; rw [if_pos hj, if_neg (by omega), sumTo_succ]; omega)
theorem stepT_no {ct : Nat → Int} {n C j0 : Nat} (h : C.testBit j0 = true) (j : Nat) : stepT ct n C (j0 + 1) j = stepT ct n C j0 j := by
  unfold stepT
  by_cases e : j = j0
  · subst e
    rw [if_pos (by omega), if_neg (by omega)]
    unfold gsT; rw [if_neg (by rw [h]; decide)]
  · by_cases h1 : j < j0
    · rw [if_pos h1, if_pos (by omega)]
    · rw [if_neg h1, if_neg (by omega)]
theorem stepT_yes (ct : Nat → Int) (n C j0 j : Nat) : stepT ct n C (j0 + 1) j = upd (stepT ct n C j0) j0 (stepT ct n C j0 j0 + gsT ct n j0 C) j := by
  unfold stepT
  by_cases e : j = j0
  · subst e; rw [upd_at, if_pos (by omega), if_neg (by omega)]; omega
  · rw [upd_ne e]
    by_cases h1 : j < j0
    · rw [if_pos h1, if_pos (by omega)]
    · rw [if_neg h1, if_neg (by omega)]
def frL (F : Fld) : List Int := if goodF F = true then mapTo (fun j => sumTo (gsT (ctF F) F.di.length j) (2 ^ F.di.length)) F.di.length else []
def frM (F : Fld) : Int := if goodF F = true then facT F.di.length else 0
theorem frL_yes {F : Fld} (h : goodF F = true) : frL F = mapTo (fun j => sumTo (gsT (ctF F) F.di.length j) (2 ^ F.di.length)) F.di.length := if_pos h
theorem frL_no {F : Fld} (h : goodF F = false) : frL F = [] := if_neg (by simp [h])
theorem frM_yes {F : Fld} (h : goodF F = true) : frM F = facT F.di.length := if_pos h
theorem frM_no {F : Fld} (h : goodF F = false) : frM F = 0 := if_neg (by simp [h])
theorem frL_len (F : Fld) : (frL F).length ≤ 1048576 := by
  cases h : goodF F
  · rw [frL_no h]; simp
  · rw [frL_yes h, mapTo_len]
    have := (goodF_iff.1 h).2.2.1
    omega
theorem ctF_bd {F : Fld} (h : goodF F = true) (c : Nat) : 0 ≤ ctF F c ∧ ctF F c ≤ 1386 := cost_bd h (bitsL_crowd F c)
theorem zeros_map' (n : Nat) : List.replicate n (0 : Int) = mapTo (fun _ => 0) n := by
  unfold mapTo
  rw [List.map_const', List.length_range]
end Go.Proofs.YtkaammkanapkmaaGreat

namespace Go.Proofs.YtkaammkanapkmaaGreat
open Go.RowKit Go.Sort

theorem sumTo_addC (g h : Nat → Int) : ∀ k, sumTo (fun i => g i + h i) k = sumTo g k + sumTo h k
  | 0 => rfl
  | k + 1 => by rw [sumTo_succ, sumTo_succ, sumTo_succ, sumTo_addC g h k]; omega
theorem sumTo_zeroC : ∀ k, sumTo (fun _ => (0 : Int)) k = 0
  | 0 => rfl
  | k + 1 => by rw [sumTo_succ, sumTo_zeroC k]; rfl
theorem sumTo_oneC {x : Int} {a : Nat} : ∀ k, sumTo (fun j => if (a : Int) = (j : Int) then x else 0) k = if a < k then x else 0
  | 0 => by simp [sumTo, mapTo]
  | k + 1 => by
    rw [sumTo_succ, sumTo_oneC k]
    by_cases h : a < k
    · rw [if_pos h, if_neg (show ¬ (a : Int) = (k : Int) by omega), if_pos (show a < k + 1 by omega)]; omega
    · by_cases h2 : a = k
      · subst h2; rw [if_neg h, if_pos rfl, if_pos (Nat.lt_succ_self a)]; omega
      · rw [if_neg h, if_neg (show ¬ (a : Int) = (k : Int) by omega), if_neg (show ¬ a < k + 1 by omega)]; rfl
/-- What all add together behind the first t ones of an order. -/
theorem mg_sum {ct : Nat → Int} {n : Nat} {O : List Int} (h : Ord n O) : ∀ t, t ≤ O.length → sumTo (fun j => mgT ct O j t) n = ct (bagN (O.take t)) - ct 0
  | 0, _ => by
    show sumTo (fun _ => (0 : Int)) n = _
    rw [sumTo_zeroC]
    have e : bagN (O.take 0) = 0 := rfl
    rw [e]; omega
  | t + 1, ht => by
    have ih := mg_sum (ct := ct) h t (by omega)
    have hx := h.rg O[t] (List.getElem_mem _)
    obtain ⟨o, ho⟩ := Int.eq_ofNat_of_zero_le hx.1
    have hg : O.getD t 0 = (o : Int) := by simp [List.getD, show t < O.length by omega, ho]
    have ho2 : o < n := by omega
    have e : (fun j => mgT ct O j (t + 1)) = fun j => mgT ct O j t + (if (o : Int) = (j : Int) then ct (bagN (O.take (t + 1))) - ct (bagN (O.take t)) else 0) := by
      funext j
      show mgT ct O j t + _ = _
      rw [hg]
    rw [e, sumTo_addC, ih, sumTo_oneC, if_pos ho2]
    omega
/-- Over all orders that begin so. -/
theorem fs_sum {ct : Nat → Int} {n : Nat} : ∀ (r : Nat) (O : List Int), Ord n O → O.length + r = n → sumTo (fun j => fsT ct n j r O) n = cnT n r O * (ct (2 ^ n - 1) - ct 0)
  | 0, O, h, hl => by
    show sumTo (fun j => mgT ct O j O.length) n = 1 * _
    rw [mg_sum h _ (Nat.le_refl _), List.take_length, Int.one_mul]
    have e : bagN O = 2 ^ n - 1 := by
      apply Nat.eq_of_testBit_eq
      intro i
      rw [h.bit, Nat.testBit_two_pow_sub_one]
      by_cases hi : i < n
      · rw [decide_eq_true hi, decide_eq_true (h.full (by omega) hi)]
      · rw [decide_eq_false hi, decide_eq_false]
        intro hm
        have := h.rg _ hm
        omega
    rw [e]
  | r + 1, O, h, hl => by
    have ih := fun (i : Nat) (hi : i < n) (hO : (i : Int) ∉ O) => fs_sum (ct := ct) r (O ++ [(i : Int)]) (h.snoc hi hO) (by rw [List.length_append, List.length_singleton]; omega)
    have sw : ∀ (g : Nat → Nat → Int) (a b : Nat), sumTo (fun j => sumTo (fun i => g i j) a) b = sumTo (fun i => sumTo (fun j => g i j) b) a := fun g a b => by
      induction b with
      | zero =>
        show (0 : Int) = _
        rw [show (fun i => sumTo (fun j => g i j) 0) = fun _ => (0 : Int) from rfl, sumTo_zeroC]
      | succ b ih2 =>
        rw [sumTo_succ, ih2, ← sumTo_addC]
        exact sumTo_congr (fun i _ => by rw [sumTo_succ])
    show sumTo (fun j => sumTo (fun i => if (i : Int) ∈ O then 0 else fsT ct n j r (O ++ [(i : Int)])) n) n = sumTo (fun i => if (i : Int) ∈ O then 0 else cnT n r (O ++ [(i : Int)])) n * _
    rw [sw (fun i j => if (i : Int) ∈ O then 0 else fsT ct n j r (O ++ [(i : Int)])) n n]
    have e : ∀ i, i < n → sumTo (fun j => if (i : Int) ∈ O then 0 else fsT ct n j r (O ++ [(i : Int)])) n = (if (i : Int) ∈ O then 0 else cnT n r (O ++ [(i : Int)])) * (ct (2 ^ n - 1) - ct 0) := fun i hi => by
      by_cases hO : (i : Int) ∈ O
      · rw [if_pos hO, Int.zero_mul]
        simp only [if_pos hO]
        exact sumTo_zeroC n
      · rw [if_neg hO]
        simp only [if_neg hO]
        exact ih i hi hO
    rw [sumTo_congr e]
    have mulr : ∀ (g : Nat → Int) (x : Int) (k : Nat), sumTo (fun i => g i * x) k = sumTo g k * x := fun g x k => by
      induction k with
      | zero => show (0 : Int) = 0 * x; rw [Int.zero_mul]
      | succ k ih3 => rw [sumTo_succ, sumTo_succ, ih3, Int.add_mul]
    rw [mulr]
theorem bits_zeroC (n : Nat) : bitsL n 0 = [] := by
  refine List.eq_nil_iff_forall_not_mem.2 (fun x hx => ?_)
  obtain ⟨_, _, h⟩ := mem_bitsL.1 hx
  simp at h
theorem ct_zero (F : Fld) : ctF F 0 = 0 := by unfold ctF; rw [bits_zeroC]; exact if_pos rfl
/-- The fair shares' sum. -/
theorem fair_sum {F : Fld} (hg : goodF F = true) : sumTo (fun j => sumTo (gsT (ctF F) F.di.length j) (2 ^ F.di.length)) F.di.length = facT F.di.length * ctF F (2 ^ F.di.length - 1) := by
  have h1 := fs_sum (ct := ctF F) (n := F.di.length) F.di.length [] (Ord.nil _) (by simp)
  rw [ct_zero, Int.sub_zero, cnT_eq F.di.length [] (Ord.nil _) (by simp)] at h1
  rw [← h1]
  refine sumTo_congr (fun j hj => ?_)
  rw [fs_eq hj F.di.length [] (Ord.nil _) (by simp), if_neg (by simp), gs_all]; rfl
/-- Marginal shares. -/
theorem marg_share {F : Fld} (hg : goodF F = true) {O : List Int} (h : Ord F.di.length O) (hl : O.length = F.di.length) {j : Nat} (hj : j < F.di.length) : 0 ≤ mgT (ctF F) O j O.length ∧ mgT (ctF F) O j O.length ≤ costF F [(j : Int)] := by
  have key : ∀ t, t ≤ O.length → mgT (ctF F) O j t = 0 ∨ (∃ s, s < t ∧ ∃ hs : s < O.length, O[s] = (j : Int) ∧ mgT (ctF F) O j t = ctF F (bagN (O.take (s + 1))) - ctF F (bagN (O.take s))) := by
    intro t
    induction t with
    | zero => intro _; exact .inl rfl
    | succ t ih =>
      intro ht
      have hgd : O.getD t 0 = O[t] := by simp [List.getD, show t < O.length by omega]
      have hmg : mgT (ctF F) O j (t + 1) = mgT (ctF F) O j t + (if O.getD t 0 = (j : Int) then ctF F (bagN (O.take (t + 1))) - ctF F (bagN (O.take t)) else 0) := rfl
      by_cases e : O[t] = (j : Int)
      · right
        refine ⟨t, by omega, by omega, e, ?_⟩
        rw [hmg, hgd, if_pos e]
        rcases ih (by omega) with h0 | ⟨s, hs, hs2, hs3, _⟩
        · rw [h0]; omega
        · exfalso
          have := (List.getElem_inj h.nd).1 (hs3.trans e.symm)
          omega
      · rw [hmg, hgd, if_neg e, Int.add_zero]
        rcases ih (by omega) with h0 | ⟨s, hs, hs2, hs3, hs4⟩
        · exact .inl h0
        · exact .inr ⟨s, by omega, hs2, hs3, hs4⟩
  have hcj : costF F [(j : Int)] = ctF F (2 ^ j) := by
    unfold ctF
    congr 1
    refine (rising_ext (bitsL_sorted _ _) (by simp) (fun x => ?_)).symm
    rw [mem_bitsL, List.mem_singleton]
    constructor
    · rintro ⟨h1, h2, h3⟩
      rw [Nat.testBit_two_pow] at h3
      have := of_decide_eq_true h3
      omega
    · rintro rfl
      exact ⟨by omega, by omega, by rw [Nat.testBit_two_pow]; simp⟩
  have h0 : 0 ≤ ctF F (2 ^ j) := by
    have := ct_mono hg 0 (2 ^ j)
    rw [ct_zero, Nat.zero_or] at this; exact this
  rcases key _ (Nat.le_refl _) with e | ⟨s, hs, hs2, hs3, hs4⟩
  · rw [e, hcj]; exact ⟨Int.le_refl _, h0⟩
  · have hb : bagN (O.take (s + 1)) = bagN (O.take s) ||| 2 ^ j := by
      rw [List.take_succ_eq_append_getElem hs2, hs3, bag_snoc]
    have m1 := ct_mono hg (bagN (O.take s)) (2 ^ j)
    have m2 := ct_cup hg (bagN (O.take s)) (2 ^ j)
    rw [hs4, hb, hcj]
    omega
theorem marg_sumall {F : Fld} {O : List Int} (h : Ord F.di.length O) (hl : O.length = F.di.length) : sumTo (fun j => mgT (ctF F) O j O.length) F.di.length = ctF F (2 ^ F.di.length - 1) := by
  have h1 := fs_sum (ct := ctF F) 0 O h (by omega)
  have h2 : sumTo (fun j => fsT (ctF F) F.di.length j 0 O) F.di.length = sumTo (fun j => mgT (ctF F) O j O.length) F.di.length := rfl
  rw [← h2, h1, ct_zero]
  show 1 * _ = _
  omega
/-- The cost of all clients is the best total. -/
theorem ct_full {F : Fld} (h0 : 0 < F.di.length) : ctF F (2 ^ F.di.length - 1) = Go.Proofs.YtkaammkanapkmaaGreat.totF F (bestF F) := by
  have e : bitsL F.di.length (2 ^ F.di.length - 1) = (List.range F.di.length).map fun (i : Nat) => (i : Int) := by
    refine rising_ext (bitsL_sorted _ _) ?_ (fun x => ?_)
    · rw [List.pairwise_map]
      exact List.pairwise_lt_range.imp (fun h => by omega)
    · rw [mem_bitsL, List.mem_map]
      constructor
      · rintro ⟨h1, h2, _⟩
        exact ⟨x.toNat, List.mem_range.2 (by omega), by omega⟩
      · rintro ⟨i, hi, rfl⟩
        rw [List.mem_range] at hi
        refine ⟨by omega, by omega, ?_⟩
        rw [Nat.testBit_two_pow_sub_one]
        simp [hi]
  have hp : partF F ((List.range F.di.length).map fun (i : Nat) => (i : Int)) = F := by
    unfold partF
    have : (((List.range F.di.length).map fun (i : Nat) => (i : Int)).map fun i => F.di.getD i.toNat []) = F.di := by
      apply List.ext_getElem
      · simp
      · intro i h1 h2
        simp [List.getD, h2]
    rw [this]
  unfold ctF
  rw [e]
  unfold costF
  have hne : ((List.range F.di.length).map fun (i : Nat) => (i : Int)) ≠ [] := fun h => by
    have h5 := congrArg List.length h
    rw [List.length_map, List.length_range, List.length_nil] at h5
    omega
  rw [if_neg hne, hp]
end Go.Proofs.YtkaammkanapkmaaGreat

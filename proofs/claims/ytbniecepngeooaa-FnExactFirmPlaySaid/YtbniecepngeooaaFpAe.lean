/- slices.Values, slices.AppendSeq, slices.Collect and slices.Sorted of ints: a slice of the call's own with what the iterator gives; slices.Clone, slices.Min over lists of integers; A copy of a list: the reference's; Cells that are kept; The clients of the first firm: program and reference; A slice of slices of the call's own that grows by append; its rows lie in other blocks, and are read, or are of the call's own too. No condition. -/
import Derived.Test.YtbniecepngeooaaFpAd
import Derived.Test.YtbniecepngeooaaFpAb
import Derived.Shelf.Slices.In.SortNone
import Derived.RangeFuncBox
import Derived.RangeFuncLeaves
import Derived.Shelf.Abstract
import Derived.WalkKit
import Derived.OwnWalkIn
import Derived.TacticsInMore
import Derived.LoopNIn
import Derived.LoopIn
import Derived.Maps.AppendAt
import Derived.WalkSpells
import Derived.Test.YtbniecepngeooaaFpAa
import Derived.Deep.RegionHeld3
import Derived.Lib.AppendZeros
namespace Go.Proofs.Ytbniecepngeooaa
open Go.RowKit Go.Sort Go.Shelf

attribute [local go_sem] Oper.semAt_some

theorem lt_some2 {w : World} {p : Addr} (h : (w.cell? p).isSome = true) : p.block < w.heap.size := by
  obtain ⟨v, e⟩ := Option.isSome_iff_exists.1 h
  exact World.block_lt_of_cell? _ _ e
set_option maxRecDepth 100000 in
set_option maxHeartbeats 4000000 in
/-- What has come when k rounds are over. -/
def uptoL (zs : List Int) (k : Nat) : List Int := zs.take k
theorem uptoL_succ {zs : List Int} {k : Nat} (h : k < zs.length) : uptoL zs (k + 1) = uptoL zs k ++ [zs[k]?.getD 0] := by
  unfold uptoL
  rw [List.take_succ_eq_append_getElem h]
  simp [h]
theorem uptoL_len {zs : List Int} {k : Nat} (h : k ≤ zs.length) : (uptoL zs k).length = k := by simp [uptoL, h]

set_option maxRecDepth 100000 in
set_option maxHeartbeats 2000000 in
/-- The closure of slices.Values, for every loop body that keeps what lay below n₀. -/
theorem values1_in (F : Fence) (n : Nat) (h7 : F.fn 70) (hro : F.round = none) (hn : 1 ≤ n) (l Bs n₀ len cap : Nat) (A : Option Addr) (zs : List Int) (hz : zs.length = len) (hreach : len ≤ 1000000) (J Jx : List Int → World → Prop)
    (hY : ∀ pre x W, J pre W → pre.length < len → YieldAt F (n - 1) Try.prog l #[.int .i64 x] W fun e W' =>
      (e = .returned (.bool true) ∧ J (pre ++ [x]) W' ∧ Below n₀ W W') ∨ (e = .returned (.bool false) ∧ Jx (pre ++ [x]) W'))
    (W : World) (hBs : W.cell? ⟨Bs, 0, none⟩ = some (.slice A len cap)) (hc : ∀ j, j < len → ∃ ad, A = some ad ∧ (ad.add j).block < n₀ ∧ W.cell? (ad.add j) = some (.int .i64 (zs[j]?.getD 0))) (h0 : J [] W) :
    CallsIn F n Try.prog 70 #[.func (.yield l) #[] #[], .pointer (some ⟨Bs, 0, none⟩)] W fun e W' => (∃ v, e = .returned v) ∧
      ((∃ ys, ys = zs ∧ J ys W') ∨ (∃ pre, pre <+: zs ∧ Jx pre W')) := by
  refine callsIn_of_wp Try.func70 rfl h7 ?_ hro
  simp only [Try.ntmps70, List.size_toArray, List.length_cons, List.length_nil, Nat.reduceAdd, Nat.reduceSub, Array.replicate_succ, Array.replicate_zero, List.push_toArray, List.append_toArray, List.nil_append, List.cons_append]
  have Hz := Lib.hid hz
  clear hz
  gi_wp2
  gi_loopw [7] (fun i wr => ∃ k : Nat, k ≤ len ∧ i = .int .i64 k ∧ J (uptoL zs k) wr ∧ Below n₀ W wr)
    (fun i _ => len - (intOf i).toNat)
  case atStart => exact ⟨0, Nat.zero_le _, rfl, h0, Below.refl _ _⟩
  case round =>
    obtain ⟨k, hk, rfl, hJs, hnx⟩ := hrel
    by_cases hlt : k < len
    · obtain ⟨ad, rfl, hb, hck⟩ := hc k hlt
      have hcx : wr.cell? (ad.add k) = some (.int .i64 (zs[k]?.getD 0)) := (hnx.cell (p := ad.add k) hb).trans hck
      obtain ⟨fn, tmps, assign, body, hy, hR⟩ := hY _ (zs[k]?.getD 0) wr hJs (by rw [uptoL_len (by rw [Hz.out]; exact hk)]; exact hlt)
      have Hk := Lib.hid (uptoL_succ (zs := zs) (k := k) (by rw [Hz.out]; exact hlt))
      clear hc hck
      gi_wp2
      refine hR.mono ?_
      rintro e W3 (⟨rfl, hJ3, hk3⟩ | ⟨rfl, hJx3⟩)
      · gi_wp2
        go_roundw
        case rel => exact ⟨k + 1, by omega, by go_num, by rw [Hk.out]; exact hJ3, hnx.trans hk3⟩
        case measure => simp [intOf]; omega
      · gi_wp2
        refine bodyPost_ret (results_none rfl _ _ _) rfl ?_
        exact ⟨⟨_, rfl⟩, .inr ⟨_, by rw [← Hk.out]; exact List.take_prefix _ _, hJx3⟩⟩
    · obtain rfl : k = len := by omega
      clear hc
      gi_wp2
      go_end0
      exact ⟨⟨_, rfl⟩, .inl ⟨_, by unfold uptoL; rw [List.take_of_length_le (by rw [Hz.out]; exact Nat.le_refl _)], hJs⟩⟩

/-- slices.Values hands back a value that gives all numbers, in order. -/
theorem values_stops (F : Fence) (n : Nat) (h7 : F.fn 70) (hro : F.round = none) (hn : 1 ≤ n) (Bs : Nat) (A : Option Addr) (len cap : Nat) (zs : List Int) (hz : zs.length = len) (hreach : len ≤ 1000000) (w : World) (hBs : Bs < w.heap.size)
    (hc : w.cell? ⟨Bs, 0, none⟩ = some (.slice A len cap)) (hI : IntsAt w A zs) :
    SeqStopsK F n Try.prog 70 #[.pointer (some ⟨Bs, 0, none⟩)] (fun x : Int => #[Value.int .i64 x]) (Below w.heap.size) (fun ys => ys = zs) (fun pre => pre <+: zs) len w := fun l J Jx W hW _ _ hY h0 =>
  values1_in F n h7 hro hn l Bs w.heap.size len cap A zs hz hreach J Jx hY W ((hW.cell (p := ⟨Bs, 0, none⟩) hBs).trans hc) (fun j hj => by
    obtain ⟨ad, rfl, h⟩ := hI.at_ (k := j) (by rw [hz]; exact hj)
    have hlt := lt_some2 (by rw [h]; rfl)
    exact ⟨ad, rfl, hlt, (hW.cell (p := ad.add j) hlt).trans (by rw [h]; simp [show j < zs.length by omega])⟩) h0
set_option maxHeartbeats 1000000 in
theorem values_any (A : Option Addr) (n c : Nat) (w : World) :
    Calls Try.prog 57 #[.slice A n c] w fun e w' => e = .returned (.func (.func 70) #[] #[.pointer (some ⟨w.heap.size, 0, none⟩)]) ∧ w' = w.alloc (.cells #[.slice A n c] 22) := by
  have hmf : ∀ (fn : Fn) (first cap : Array Value) (w : World), (Instr.makeFunc fn first cap).run Try.prog w = .ok (.func fn first cap) w := fun _ _ _ _ => rfl
  go_enter Try.func57, Try.ntmps57
  go_wp2_with fail
  go_ret
  exact ⟨rfl, rfl⟩
set_option maxRecDepth 100000 in
set_option maxHeartbeats 2000000 in
theorem appendSeq_any (Bs : Nat) (A : Option Addr) (len cap : Nat) (zs : List Int) (hz : zs.length = len) (hreach : len ≤ 1000000) (w : World) (hc : w.cell? ⟨Bs, 0, none⟩ = some (.slice A len cap)) (hI : IntsAt w A zs) :
    Calls Try.prog 78 #[.slice none 0 0, .func (.func 70) #[] #[.pointer (some ⟨Bs, 0, none⟩)]] w fun e w' => ∃ v, e = .returned v ∧ Own w' w.heap.size v zs ∧ (v = .slice none 0 0 ↔ zs = []) ∧ Kp w w' := by
  refine (callsIn_wide (n := 9)).1 ?_
  have hBs : Bs < w.heap.size := lt_some2 (by rw [hc]; rfl)
  obtain ⟨i0, hi, hz0, hz1, hz2⟩ := info_parts infoInt
  refine callsIn_of_wp_marks Try.func78 rfl trivial ?_ rfl
  simp only [Try.ntmps78, List.size_toArray, List.length_cons, List.length_nil, Nat.reduceAdd, Nat.reduceSub, Array.replicate_succ, Array.replicate_zero, List.push_toArray, List.append_toArray, List.nil_append, List.cons_append]
  gi_wp2
  have bO := Boxed.new w 22 (.slice none 0 0)
  have hB0 : Below w.heap.size w (w.alloc (.cells #[.slice none 0 0] 22)) := (Below.refl _ w).alloc (Nat.le_refl _) _
  refine wpIn_rangeFunc_ownG rfl (by omega) (gf := 70) (lb := #[.pointer (some ⟨Bs, 0, none⟩)]) rfl trivial (enters_of Try.func70 (by kernel_rfl) rfl)
    (values_stops Fence.wide (9 - 1) trivial rfl (by omega) Bs A len cap zs hz hreach w hBs hc hI) belowK_t (belowK_b (by simp)) hB0 (fun _ => rfl)
    (fun pre W => (∃ v, Boxed W w.heap.size 22 v ∧ W.ownsRow w.heap.size 3 1 v pre.length (pre.map (Value.int .i64)) ∧ (v = .slice none 0 0 ↔ pre = [])) ∧ Below w.heap.size w W)
    (fun _ _ _ => False)
    (OwnFrom.and (Own.from (holdsRow_own w.heap.size w.heap.size 22 3 1 (fun pre => pre.length) (fun pre => pre.map (Value.int .i64)) (fun pre v => v = .slice none 0 0 ↔ pre = [])) _) (ownFrom_below (Nat.le_refl _) (by simp)))
    (fun _ _ _ _ _ hs _ _ => hs)
    ⟨⟨_, bO, World.ownsRow_nil _ _ _ _, by simp⟩, hB0⟩
    (fun x => { tmps := #[.slice none 0 0, .func (.func 70) #[] #[.pointer (some ⟨Bs, 0, none⟩)], .pointer (some ⟨w.heap.size, 0, none⟩), undef, .slice none 0 0, .int .i64 x, .func (.func 70) #[] #[.pointer (some ⟨Bs, 0, none⟩)], .int .i64 x, undef, undef, undef, undef, undef], defers := [] }) ?assign ?body ?done ?stop
  case assign =>
    intro l x W K hK
    gi_wp2
    exact hK
  case body =>
    rintro l pre x W ⟨⟨v, hv, hrow, hnil⟩, hB⟩ hlt
    have hc := hv.cell
    gi_wp2_with (gi_at_builtin; refine wpListIn_append_own _ rfl _ _ 22 rfl w.heap.size 3 i0 (.int .i64 0) 1 8 Try.underlying22 hi hz0 hz1 hz2 rfl (by decide) _ _ _ rfl (hrow.alloc _) ⟨W.heap.size, 0, none⟩ 1 1 [.int .i64 x] rfl rfl (cell_one_new _ _ _) (by simp [Value.oneCell']) (by unfold maxLen; omega) (by omega) (by have := hB.size; simp; omega) ?_; intro v' w1 hown' hgrow _; obtain ⟨g', cap', rfl⟩ := ownsRow_succ hown'; obtain ⟨hv1, hv2, hr2, hk2, hb2⟩ := hv.appended (by decide) hrow hB.size (Nat.le_refl _) hown' hgrow; have hc1 := hv1.cell; have hf1 := hv1.frozen)
    exact ⟨hk2.from _, hb2, ⟨_, hv2, by simpa using hr2, by simp⟩, hB.trans hb2⟩
  case done =>
    rintro D ys W hD rfl ⟨⟨v, hv, hrow, hnil⟩, hB⟩ hK
    have hc := hv.cell
    gi_wp2
    refine ⟨by simp, .inl ⟨_, _, rfl, run_takeDeferred hK, ?_⟩⟩
    exact ⟨_, results_tmp rfl _ _ _, v, rfl, ownsRow_putObj hrow _ hK rfl, hnil, hB.trans (belowK_b (w := w) (Nat.le_refl _) W D _ _ (by simp at hD; omega) hK rfl rfl)⟩
  case stop =>
    rintro D c pre W _ _ h _
    exact h.elim
set_option maxHeartbeats 1000000 in
theorem collect_any (Bs : Nat) (A : Option Addr) (len cap : Nat) (zs : List Int) (hz : zs.length = len) (hreach : len ≤ 1000000) (w : World) (hc : w.cell? ⟨Bs, 0, none⟩ = some (.slice A len cap)) (hI : IntsAt w A zs) :
    Calls Try.prog 68 #[.func (.func 70) #[] #[.pointer (some ⟨Bs, 0, none⟩)]] w fun e w' => ∃ v, e = .returned v ∧ Own w' w.heap.size v zs ∧ (v = .slice none 0 0 ↔ zs = []) ∧ Kp w w' := by
  have CC := Lib.hid (appendSeq_any Bs A len cap zs hz hreach w hc hI)
  clear hc hI hz
  go_enter Try.func68, Try.ntmps68
  go_wp2_with fail
  with_reducible refine Calls.mono CC.out ?_
  rintro e w' ⟨v, rfl, ho, hn, hk⟩
  clear CC
  go_wp2_with fail
  go_ret
  exact ⟨v, rfl, ho, hn, hk⟩
def sortL (xs : List Int) : List Int := xs.mergeSort fun x y => decide (x ≤ y)
set_option maxHeartbeats 1000000 in
/-- slices.Sorted over slices.Values: a slice of the call's own with the numbers in ascending order. -/
theorem sorted_any (Bs : Nat) (A : Option Addr) (len cap : Nat) (zs : List Int) (hz : zs.length = len) (hreach : len ≤ 1000000) (w : World) (hc : w.cell? ⟨Bs, 0, none⟩ = some (.slice A len cap)) (hI : IntsAt w A zs) :
    Calls Try.prog 56 #[.func (.func 70) #[] #[.pointer (some ⟨Bs, 0, none⟩)]] w fun e w' => ∃ v, e = .returned v ∧ Own w' w.heap.size v (sortL zs) ∧ Kp w w' := by
  have CC := Lib.hid (collect_any Bs A len cap zs hz hreach w hc hI)
  have Hz := Lib.hid hz
  clear hc hI hz
  go_enter Try.func56, Try.ntmps56
  go_wp2_with fail
  with_reducible refine Calls.mono CC.out ?_
  rintro e w' ⟨v, rfl, ho, hn, hk⟩
  clear CC
  by_cases hne : zs = []
  · have hv := hn.2 hne
    subst hne hv
    have CC := Lib.hid (show Calls Try.prog 69 #[.slice none 0 0] w' (fun e w'' => e = .returned (.tuple #[]) ∧ w'' = w') from Any.slices_Sort_int_none sortI none 0 w')
    go_wp2_with fail
    with_reducible refine Calls.mono CC.out ?_
    rintro e w2 ⟨rfl, rfl⟩
    clear CC
    go_wp2_with fail
    go_ret
    exact ⟨_, rfl, by simpa [sortL] using ho, hk⟩
  · rcases id ho.2 with ⟨_, h0⟩ | ⟨g, cap2, cur, rfl, hg, hrest⟩
    · exact absurd (List.eq_nil_of_length_eq_zero h0) hne
    · have CC := Lib.hid (sortInts_any w.heap.size g cap2 zs.length zs w' ho rfl (by rw [Hz.out]; exact hreach))
      clear hrest
      go_wp2_with fail
      with_reducible refine Calls.mono CC.out ?_
      rintro e w2 ⟨rfl, ho2, ht⟩
      clear CC
      go_wp2_with fail
      go_ret
      refine ⟨_, rfl, ?_, ?_⟩
      · unfold Own at ho2 ⊢
        have : (sortL zs).length = zs.length := by unfold sortL; simp
        exact ho2
      · exact Own.kp_turn ho hk (Nat.le_refl _) (ht.mono (fun i e => by subst e; rfl))
end Go.Proofs.Ytbniecepngeooaa

namespace Go.Proofs.Ytbniecepngeooaa
open Go.RowKit Go.Sort

/-- append of a whole list of numbers to a slice of the call's own. -/
theorem wpl_appAll {ops : Array Oper} {rest : List Oper} {o : Oper} {a : Act} {Q : Exit → Act → World → Prop} {W : World} (hgd : o.guard = none) (s x : Operand)
    (ho : o.op = .call { callee := .builtin .append, args := #[s, x], argTypes := #[22, 22] }) (base : Nat) (v : Value) (xs ys : List Int) (ad : Addr) (m c : Nat)
    (hs : a.eval s = v) (hx : a.eval x = .slice (some ad) m c) (hown : Own W base v xs) (hy : IntsAt W (some ad) ys) (hym : ys.length = m) (hbase : base ≤ W.heap.size) (hlen : xs.length + ys.length ≤ 4194304)
    (h : ∀ v' w', Own w' base v' (xs ++ ys) → Turn (fun i => v.ownBlock = some i) W w' → (v'.ownBlock = v.ownBlock ∨ ∀ g, v'.ownBlock = some g → W.heap.size ≤ g) → wpList Try.prog ops Q rest (a.put o.dst v') w') :
    wpList Try.prog ops Q (o :: rest) a W := by
  obtain ⟨i0, hi, hz0, hz1, hz2⟩ := info_parts infoInt
  refine wpList_append_own_at _ hgd s x 22 ho base 3 i0 (.int .i64 0) 1 8 Try.underlying22 hi hz0 hz1 hz2 rfl (by decide) v xs.length (xs.map (Value.int .i64)) hs hown ad m c (ys.map (Value.int .i64)) hx (by simp [hym]) ?_ (ints_oneCell _ _) ?_ ?_ hbase ?_
  · intro j u hj
    by_cases hlt : j < ys.length
    · rw [List.getElem?_map, List.getElem?_eq_getElem hlt] at hj
      have e : u = .int .i64 ys[j] := by simpa using hj.symm
      rw [e]; exact hy.some_ hlt
    · rw [List.getElem?_eq_none (by simpa using hlt)] at hj; cases hj
  · unfold maxLen; omega
  · omega
  · intro v' w' h2 h3 _ h4
    refine h v' w' ?_ (Turn.of_grown h3) ?_
    · unfold Own
      rw [List.length_append, List.map_append, hym]
      exact h2
    · rcases h4 with e | e
      · exact .inl e
      · exact .inr (fun g hg => by rw [e] at hg; simp at hg; omega)

theorem clone_some (ad : Addr) (xs : List Int) (n c : Nat) (w : World) (hx : IntsAt w (some ad) xs) (hn : xs.length = n) (hb : n ≤ 1048576) :
    Calls Try.prog 45 #[.slice (some ad) n c] w fun e w' => ∃ v, e = .returned v ∧ Own w' w.heap.size v xs ∧ Kp w w' := by
  have Hn := Lib.hid hn; clear hn
  have hq := fun (w : World) (a : Option Addr) (n c : Nat) => Lib.run_eql_slice_nil (P := Try.prog) w 22 3 a n c 0 0 Try.underlying22
  have hlen : ([] : List Int).length + xs.length ≤ 4194304 := by rw [Hn.out]; simp; omega
  have ho0 := own_new0 w w.heap.size (Nat.le_refl _)
  have hk0 := (Kp.refl w).alloc (.cells #[] 3)
  go_enter Try.func45, Try.ntmps45
  go_wp2_with (at_builtin; refine wpl_appAll rfl (.tmp 5) (.tmp 6) rfl w.heap.size _ [] xs ad n c rfl rfl ho0 (hx.kp hk0) Hn.out hk0.le hlen ?_; intro v' w' ho' ht' _; have hk4 := ho0.kp_turn hk0 (Nat.le_refl _) ht')
  go_ret
  exact ⟨_, rfl, by simpa using ho', hk4⟩

end Go.Proofs.Ytbniecepngeooaa

namespace Go.Proofs.Ytbniecepngeooaa
open Go.RowKit Go.Sort

set_option maxHeartbeats 400000 in
/-- A copy of the call's own. -/
theorem l1Own_any (ad : Addr) (xs : List Int) (n c : Nat) (w : World) (hx : IntsAt w (some ad) xs) (hn : xs.length = n) (hb : n ≤ 1048576) :
    Calls Try.prog 54 #[.slice (some ad) n c] w fun e w' => ∃ v, e = .returned v ∧ Own w' w.heap.size v xs ∧ Kp w w' := by
  have Hn := Lib.hid hn; clear hn
  have hlen : ([] : List Int).length + xs.length ≤ 4194304 := by rw [Hn.out]; simp; omega
  have ho0 := own_new0 w w.heap.size (Nat.le_refl _)
  have hk0 := (Kp.refl w).alloc (.cells #[] 3)
  go_enter Try.func54, Try.ntmps54
  go_wp2_with (at_builtin; refine wpl_appAll rfl (.tmp 3) (.tmp 4) rfl w.heap.size _ [] xs ad n c rfl rfl ho0 (hx.kp hk0) Hn.out hk0.le hlen ?_; intro v' w' ho' ht' _; have hk4 := ho0.kp_turn hk0 (Nat.le_refl _) ht')
  go_ret
  exact ⟨_, rfl, by simpa using ho', hk4⟩
end Go.Proofs.Ytbniecepngeooaa

namespace Go.Proofs.Ytbniecepngeooaa
open Go.RowKit

theorem keepc1 {wv w' : World} {p : Addr} {a : Value} (h1 : wv.cell? p = some a) (h : Kp wv w') : w'.cell? p = some a ∧ Kp wv w' := ⟨h.get h1, h⟩
theorem keepc2 {wv w' : World} {p q : Addr} {a b : Value} (h1 : wv.cell? p = some a) (h2 : wv.cell? q = some b) (h : Kp wv w') : w'.cell? p = some a ∧ w'.cell? q = some b ∧ Kp wv w' := ⟨h.get h1, h.get h2, h⟩
theorem keepc3 {wv w' : World} {p q r : Addr} {a b c : Value} (h1 : wv.cell? p = some a) (h2 : wv.cell? q = some b) (h3 : wv.cell? r = some c) (h : Kp wv w') : w'.cell? p = some a ∧ w'.cell? q = some b ∧ w'.cell? r = some c ∧ Kp wv w' := ⟨h.get h1, h.get h2, h.get h3, h⟩
theorem keepc4 {wv w' : World} {p q r s : Addr} {a b c d : Value} (h1 : wv.cell? p = some a) (h2 : wv.cell? q = some b) (h3 : wv.cell? r = some c) (h4 : wv.cell? s = some d) (h : Kp wv w') : w'.cell? p = some a ∧ w'.cell? q = some b ∧ w'.cell? r = some c ∧ w'.cell? s = some d ∧ Kp wv w' := ⟨h.get h1, h.get h2, h.get h3, h.get h4, h⟩
theorem keepc5 {wv w' : World} {p q r s t : Addr} {a b c d e : Value} (h1 : wv.cell? p = some a) (h2 : wv.cell? q = some b) (h3 : wv.cell? r = some c) (h4 : wv.cell? s = some d) (h5 : wv.cell? t = some e) (h : Kp wv w') : w'.cell? p = some a ∧ w'.cell? q = some b ∧ w'.cell? r = some c ∧ w'.cell? s = some d ∧ w'.cell? t = some e ∧ Kp wv w' := ⟨h.get h1, h.get h2, h.get h3, h.get h4, h.get h5, h⟩
theorem keepc6 {wv w' : World} {p q r s t u : Addr} {a b c d e f : Value} (h1 : wv.cell? p = some a) (h2 : wv.cell? q = some b) (h3 : wv.cell? r = some c) (h4 : wv.cell? s = some d) (h5 : wv.cell? t = some e) (h6 : wv.cell? u = some f) (h : Kp wv w') : w'.cell? p = some a ∧ w'.cell? q = some b ∧ w'.cell? r = some c ∧ w'.cell? s = some d ∧ w'.cell? t = some e ∧ w'.cell? u = some f ∧ Kp wv w' := ⟨h.get h1, h.get h2, h.get h3, h.get h4, h.get h5, h.get h6, h⟩
theorem keepc7 {wv w' : World} {p0 p1 p2 p3 p4 p5 p6 : Addr} {v0 v1 v2 v3 v4 v5 v6 : Value} (h0 : wv.cell? p0 = some v0) (h1 : wv.cell? p1 = some v1) (h2 : wv.cell? p2 = some v2) (h3 : wv.cell? p3 = some v3) (h4 : wv.cell? p4 = some v4) (h5 : wv.cell? p5 = some v5) (h6 : wv.cell? p6 = some v6) (h : Kp wv w') : w'.cell? p0 = some v0 ∧ w'.cell? p1 = some v1 ∧ w'.cell? p2 = some v2 ∧ w'.cell? p3 = some v3 ∧ w'.cell? p4 = some v4 ∧ w'.cell? p5 = some v5 ∧ w'.cell? p6 = some v6 ∧ Kp wv w' := ⟨h.get h0, h.get h1, h.get h2, h.get h3, h.get h4, h.get h5, h.get h6, h⟩
theorem keepc8 {wv w' : World} {p0 p1 p2 p3 p4 p5 p6 p7 : Addr} {v0 v1 v2 v3 v4 v5 v6 v7 : Value} (h0 : wv.cell? p0 = some v0) (h1 : wv.cell? p1 = some v1) (h2 : wv.cell? p2 = some v2) (h3 : wv.cell? p3 = some v3) (h4 : wv.cell? p4 = some v4) (h5 : wv.cell? p5 = some v5) (h6 : wv.cell? p6 = some v6) (h7 : wv.cell? p7 = some v7) (h : Kp wv w') : w'.cell? p0 = some v0 ∧ w'.cell? p1 = some v1 ∧ w'.cell? p2 = some v2 ∧ w'.cell? p3 = some v3 ∧ w'.cell? p4 = some v4 ∧ w'.cell? p5 = some v5 ∧ w'.cell? p6 = some v6 ∧ w'.cell? p7 = some v7 ∧ Kp wv w' := ⟨h.get h0, h.get h1, h.get h2, h.get h3, h.get h4, h.get h5, h.get h6, h.get h7, h⟩
theorem keepc9 {wv w' : World} {p0 p1 p2 p3 p4 p5 p6 p7 p8 : Addr} {v0 v1 v2 v3 v4 v5 v6 v7 v8 : Value} (h0 : wv.cell? p0 = some v0) (h1 : wv.cell? p1 = some v1) (h2 : wv.cell? p2 = some v2) (h3 : wv.cell? p3 = some v3) (h4 : wv.cell? p4 = some v4) (h5 : wv.cell? p5 = some v5) (h6 : wv.cell? p6 = some v6) (h7 : wv.cell? p7 = some v7) (h8 : wv.cell? p8 = some v8) (h : Kp wv w') : w'.cell? p0 = some v0 ∧ w'.cell? p1 = some v1 ∧ w'.cell? p2 = some v2 ∧ w'.cell? p3 = some v3 ∧ w'.cell? p4 = some v4 ∧ w'.cell? p5 = some v5 ∧ w'.cell? p6 = some v6 ∧ w'.cell? p7 = some v7 ∧ w'.cell? p8 = some v8 ∧ Kp wv w' := ⟨h.get h0, h.get h1, h.get h2, h.get h3, h.get h4, h.get h5, h.get h6, h.get h7, h.get h8, h⟩
theorem keepc10 {wv w' : World} {p0 p1 p2 p3 p4 p5 p6 p7 p8 p9 : Addr} {v0 v1 v2 v3 v4 v5 v6 v7 v8 v9 : Value} (h0 : wv.cell? p0 = some v0) (h1 : wv.cell? p1 = some v1) (h2 : wv.cell? p2 = some v2) (h3 : wv.cell? p3 = some v3) (h4 : wv.cell? p4 = some v4) (h5 : wv.cell? p5 = some v5) (h6 : wv.cell? p6 = some v6) (h7 : wv.cell? p7 = some v7) (h8 : wv.cell? p8 = some v8) (h9 : wv.cell? p9 = some v9) (h : Kp wv w') : w'.cell? p0 = some v0 ∧ w'.cell? p1 = some v1 ∧ w'.cell? p2 = some v2 ∧ w'.cell? p3 = some v3 ∧ w'.cell? p4 = some v4 ∧ w'.cell? p5 = some v5 ∧ w'.cell? p6 = some v6 ∧ w'.cell? p7 = some v7 ∧ w'.cell? p8 = some v8 ∧ w'.cell? p9 = some v9 ∧ Kp wv w' := ⟨h.get h0, h.get h1, h.get h2, h.get h3, h.get h4, h.get h5, h.get h6, h.get h7, h.get h8, h.get h9, h⟩
end Go.Proofs.Ytbniecepngeooaa

namespace Go.Proofs.Ytbniecepngeooaa
open Go.RowKit Go.Sort

theorem allO_mem {F : Fld} {O X Y : List Int} (h : Duel F.op.length O X Y) (x : Int) : x ∈ allO F O ↔ x ∈ O := by
  unfold allO
  rw [mem_bitsL]
  constructor
  · rintro ⟨h0, h1, h2⟩
    rw [bagN_bit (fun y hy => (h.rg y hy).1), decide_eq_true_eq] at h2
    rwa [show ((x.toNat : Nat) : Int) = x by omega] at h2
  · intro hx
    have := h.rg x hx
    refine ⟨this.1, this.2, ?_⟩
    rw [bagN_bit (fun y hy => (h.rg y hy).1), decide_eq_true_eq, show ((x.toNat : Nat) : Int) = x by omega]
    exact hx
theorem allO_set {F : Fld} {O X Y : List Int} (h : Duel F.op.length O X Y) : setB F (allO F O) = true :=
  ris_iff.2 ⟨allO_sorted F O, fun x hx => by have := h.rg x ((allO_mem h x).1 hx); omega⟩
theorem allO_ne {F : Fld} {O X Y : List Int} (h : Duel F.op.length O X Y) (hne : O ≠ []) : allO F O ≠ [] := fun e => by
  obtain ⟨x, hx⟩ := List.exists_mem_of_ne_nil _ hne
  have := (allO_mem h x).2 hx
  rw [e] at this; cases this
theorem sortL_allO {F : Fld} {O X Y : List Int} (h : Duel F.op.length O X Y) : sortL O = allO F O := by
  refine rising_ext ?_ (allO_sorted F O) (fun x => ?_)
  · have hs : (sortL O).Pairwise (fun a b => decide (a ≤ b) = true) := List.pairwise_mergeSort (fun a b c h1 h2 => by simp at h1 h2 ⊢; omega) (fun a b => by simp; omega) O
    have hn : (sortL O).Nodup := (List.mergeSort_perm O _).nodup_iff.2 h.nd
    exact (hs.and hn).imp (fun hab => by have h1 := hab.1; have h2 := hab.2; simp at h1; omega)
  · rw [allO_mem h]
    exact (List.mergeSort_perm O _).mem_iff
def duelB (F : Fld) (k : Int) : Bool := goodF F && inB k 1 ((F.op.length : Int) / 2)
set_option maxHeartbeats 400000 in
theorem isDuel_any (f : Value) (F : Fld) (k : Int) (w : World) (hf : FldAt w f F) :
    Calls Try.prog 25 #[f, .int .i64 k] w fun e w' => e = .returned (.bool (duelB F k)) ∧ Kp w w' := by
  obtain ⟨A, c, B, d, rfl, hA, hB⟩ := hf
  have hk0 : Kp w (w.alloc (.cells #[.slice A F.op.length c, .slice B F.di.length d] 29)) := (Kp.refl w).alloc _
  obtain ⟨d0, d1⟩ := box2 w (.slice A F.op.length c) (.slice B F.di.length d) 29
  have hFA := FldAt.kp (show FldAt w (.agg #[.slice A F.op.length c, .slice B F.di.length d]) F from ⟨A, c, B, d, rfl, hA, hB⟩) hk0
  clear hA hB
  have CC := Lib.hid (isField_any _ F _ hFA)
  go_enter Try.func25, Try.ntmps25
  go_wp2_with fail
  have hsz : Hid ((w.alloc (.cells #[.slice A F.op.length c, .slice B F.di.length d] 29)).heap.size = w.heap.size + 1) := by show _ = _; simp
  generalize w.alloc (.cells #[.slice A F.op.length c, .slice B F.di.length d] 29) = wb at *
  have hkb : Kp wb wb := Kp.refl _
  have hkw := hk0
  with_reducible refine Calls.mono CC.out ?_
  rintro e w1 ⟨rfl, hk1⟩
  clear CC
  replace hkb := hkb.trans hk1
  cases hg_ : goodF F
  · have Hno : Hid (duelB F k = false) := by show _ = _; rw [duelB, hg_]; rfl
    clear hg_
    have q_d0 := hkb.get d0
    have q_d1 := hkb.get d1
    go_wp2_with fail
    go_ret
    exact ⟨by rw [Hno.out]; rfl, hkw.trans hkb⟩
  have Hg := Lib.hid hg_; clear hg_
  have hg7 := (goodF_iff.1 Hg.out).1.2
  have htd : (F.op.length : Int).tdiv 2 = ((F.op.length : Int) / 2) := by exact Int.tdiv_eq_ediv_of_nonneg (by omega)
  have hwr : IntKind.i64.wrap ((F.op.length : Int) / 2) = ((F.op.length : Int) / 2) := IntWalk.i64_in _ (by omega)
  have q_d0 := hkb.get d0
  have q_d1 := hkb.get d1
  go_wp2_with fail
  have CC := Lib.hid (between_any k 1 ((F.op.length : Int) / 2) w1)
  with_reducible refine Calls.mono CC.out ?_
  rintro e w2 ⟨rfl, rfl⟩
  clear CC
  have He : Hid (duelB F k = inB k 1 ((F.op.length : Int) / 2)) := by show _ = _; rw [duelB, Hg.out, Bool.true_and]
  clear q_d0 q_d1
  have q_d0 := hkb.get d0
  have q_d1 := hkb.get d1
  go_wp2_with fail
  go_ret
  exact ⟨by rw [He.out]; rfl, hkw.trans hkb⟩
set_option maxHeartbeats 400000 in
theorem l9Firms_any (f : Value) (F : Fld) (k : Int) (w : World) (hf : FldAt w f F) :
    Calls Try.prog 21 #[f, .int .i64 k] w fun e w' => e = .returned (.bool (duelB F k)) ∧ Kp w w' := by
  obtain ⟨A, c, B, d, rfl, hA, hB⟩ := hf
  have hk0 : Kp w (w.alloc (.cells #[.slice A F.op.length c, .slice B F.di.length d] 29)) := (Kp.refl w).alloc _
  obtain ⟨d0, d1⟩ := box2 w (.slice A F.op.length c) (.slice B F.di.length d) 29
  have hFA := FldAt.kp (show FldAt w (.agg #[.slice A F.op.length c, .slice B F.di.length d]) F from ⟨A, c, B, d, rfl, hA, hB⟩) hk0
  clear hA hB
  have CC := Lib.hid (l2Good_any _ F _ hFA)
  go_enter Try.func21, Try.ntmps21
  go_wp2_with fail
  have hsz : Hid ((w.alloc (.cells #[.slice A F.op.length c, .slice B F.di.length d] 29)).heap.size = w.heap.size + 1) := by show _ = _; simp
  generalize w.alloc (.cells #[.slice A F.op.length c, .slice B F.di.length d] 29) = wb at *
  have hkb : Kp wb wb := Kp.refl _
  have hkw := hk0
  with_reducible refine Calls.mono CC.out ?_
  rintro e w1 ⟨rfl, hk1⟩
  clear CC
  replace hkb := hkb.trans hk1
  cases hg_ : goodF F
  · have Hno : Hid (duelB F k = false) := by show _ = _; rw [duelB, hg_]; rfl
    clear hg_
    have q_d0 := hkb.get d0
    have q_d1 := hkb.get d1
    go_wp2_with fail
    go_ret
    exact ⟨by rw [Hno.out]; rfl, hkw.trans hkb⟩
  have Hg := Lib.hid hg_; clear hg_
  have hg7 := (goodF_iff.1 Hg.out).1.2
  have htd : (F.op.length : Int).tdiv 2 = ((F.op.length : Int) / 2) := by exact Int.tdiv_eq_ediv_of_nonneg (by omega)
  have hwr : IntKind.i64.wrap ((F.op.length : Int) / 2) = ((F.op.length : Int) / 2) := IntWalk.i64_in _ (by omega)
  have q_d0 := hkb.get d0
  have q_d1 := hkb.get d1
  go_wp2_with fail
  have CC := Lib.hid (l1In_any k 1 ((F.op.length : Int) / 2) w1)
  with_reducible refine Calls.mono CC.out ?_
  rintro e w2 ⟨rfl, rfl⟩
  clear CC
  have He : Hid (duelB F k = inB k 1 ((F.op.length : Int) / 2)) := by show _ = _; rw [duelB, Hg.out, Bool.true_and]
  clear q_d0 q_d1
  have q_d0 := hkb.get d0
  have q_d1 := hkb.get d1
  go_wp2_with fail
  go_ret
  exact ⟨by rw [He.out]; rfl, hkw.trans hkb⟩
set_option maxRecDepth 100000 in
set_option maxHeartbeats 1000000 in
theorem won_any (f : Value) (F : Fld) (A0 : Option Addr) (O X Y : List Int) (n c0 : Nat) (w : World) (hf : FldAt w f F) (hO : IntsAt w A0 O) (hn : O.length = n) (hg : goodF F = true) (hd : Duel F.op.length O X Y) (hne : O ≠ []) :
    Calls Try.prog 44 #[f, .slice A0 n c0] w fun e w' => e = .returned (.int .i64 (wonV F O)) ∧ Kp w w' := by
  obtain ⟨A, c, B, d, rfl, hA, hB⟩ := hf
  have hk0 : Kp w (w.alloc (.cells #[.slice A F.op.length c, .slice B F.di.length d] 29)) := (Kp.refl w).alloc _
  obtain ⟨d0, d1⟩ := box2 w (.slice A F.op.length c) (.slice B F.di.length d) 29
  have hFA := FldAt.kp (show FldAt w (.agg #[.slice A F.op.length c, .slice B F.di.length d]) F from ⟨A, c, B, d, rfl, hA, hB⟩) hk0
  have hO0 := hO.kp hk0
  have Hn := Lib.hid hn
  have HD := Lib.hid hd
  have HS := Lib.hid (allO_set hd)
  have HE := Lib.hid (allO_ne hd hne)
  have HG := Lib.hid hg
  have h7 := (goodF_iff.1 hg).1.2
  have h8 := (goodF_iff.1 hg).2.2.1
  have hO7 : n ≤ 7 := by have := hd.len; omega
  have Hsl := Lib.hid (sortL_allO hd)
  clear hA hB hO hn hd hne hg
  go_enter Try.func44, Try.ntmps44
  go_wp2_with fail
  have hsz : Hid ((w.alloc (.cells #[.slice A F.op.length c, .slice B F.di.length d] 29)).heap.size = w.heap.size + 1) := by show _ = _; simp
  generalize w.alloc (.cells #[.slice A F.op.length c, .slice B F.di.length d] 29) = wb at *
  have hkb : Kp wb wb := Kp.refl _
  have hkw := hk0
  have CC := Lib.hid (values_any A0 n c0 wb)
  with_reducible refine Calls.mono CC.out ?_
  rintro e w9 ⟨rfl, rfl⟩
  clear CC
  have hkv : Kp wb (wb.alloc (.cells #[.slice A0 n c0] 22)) := (Kp.refl wb).alloc _
  have hcv : (wb.alloc (.cells #[.slice A0 n c0] 22)).cell? ⟨wb.heap.size, 0, none⟩ = some (.slice A0 n c0) := by rw [World.cell?_alloc_at _ _ _ _ rfl]; rfl
  generalize wb.alloc (.cells #[.slice A0 n c0] 22) = wv at *
  replace hkb := hkb.trans hkv
  have q_d0 := hkb.get d0
  have q_d1 := hkb.get d1
  go_wp2_with fail
  have CC := Lib.hid (sorted_any wb.heap.size A0 n c0 O Hn.out (by omega) wv hcv (hO0.kp hkb))
  with_reducible refine Calls.mono CC.out ?_
  rintro e w1 ⟨v, rfl, hov, hk1⟩
  clear CC q_d0 q_d1
  replace hkb := hkb.trans hk1
  rw [Hsl.out] at hov
  obtain ⟨Av, cv, rfl, hvi⟩ := hov.ints (by have := bitsL_len F.op.length (bagN O); unfold allO; omega)
  clear hov hcv hkv
  have q_d0 := hkb.get d0
  have q_d1 := hkb.get d1
  go_wp2_with fail
  have CC := Lib.hid (served_any _ F Av (allO F O) _ cv _ (hFA.kp hkb) hvi rfl HG.out HS.out HE.out)
  with_reducible refine Calls.mono CC.out ?_
  rintro e w2 ⟨u, rfl, hou, hk2⟩
  clear CC q_d0 q_d1
  replace hkb := hkb.trans hk2
  have hml := mapTo_len (fun i => siteF F i (allO F O)) F.di.length
  obtain ⟨Au, cu, rfl, hui⟩ := hou.ints (by omega)
  rw [hml]
  clear hou hvi
  have hOl := hO0.kp hkb
  have hkl := hkw.trans hkb
  obtain ⟨wl, rfl⟩ : ∃ wl : World, wl = w2 := ⟨_, rfl⟩
  clear hkb d0 d1 hk0 hO0
  go_wp2_with fail
  go_loopw [6, 16] (fun mv iv wr => ∃ j : Nat, j ≤ F.di.length ∧ iv = .int .i64 j ∧ mv = .int .i64 (wonTo F O (allO F O) j : Int) ∧ wr = wl) (fun _ iv _ => F.di.length - (intOf iv).toNat)
  case atStart => exact ⟨0, by omega, rfl, rfl, rfl⟩
  case round =>
    obtain ⟨j, hj, rfl, rfl, rfl⟩ := hrel
    by_cases hlt : j < F.di.length
    · have lx : j < (mapTo (fun i => siteF F i (allO F O)) F.di.length).length := by rw [hml]; exact hlt
      obtain ⟨ad, rfl, hcj⟩ := hui.at_ lx
      rw [mapTo_get hlt] at hcj
      have hsm := siteF_mem (F := F) (i := j) HE.out
      have hsO := (allO_mem HD.out _).1 hsm
      have hwl := wonTo_le F O (allO F O) j
      have Hws : Hid (wonTo F O (allO F O) (j + 1) = wonTo F O (allO F O) j + (if evB O (siteF F j (allO F O)) = true then 1 else 0)) := Lib.hid rfl
      obtain ⟨sv, Hsv⟩ : ∃ z, Hid (siteF F j (allO F O) = z) := ⟨_, Lib.hid rfl⟩
      rw [Hsv.out] at hcj hsO Hws
      clear hsm
      have HsO := Lib.hid hsO
      clear hsO
      go_wp2_with fail
      have CC := Lib.hid (index_any A0 O n c0 sv wr hOl Hn.out)
      with_reducible refine Calls.mono CC.out ?_
      rintro e w5 ⟨r, rfl, hr0, hrr, hw5⟩
      obtain rfl := hw5
      clear CC
      have hr1 : 0 ≤ r := by
        have : (O.any fun x => x == sv) = true := List.any_eq_true.2 ⟨sv, HsO.out, by simp⟩
        rw [this] at hr0
        simpa using hr0
      obtain ⟨hrn, hrg, _⟩ := hrr hr1
      obtain ⟨q, rfl⟩ := Int.eq_ofNat_of_zero_le hr1
      rw [Int.toNat_natCast] at hrg
      have hev : Hid (evB O sv = decide (q % 2 = 0)) := by show _ = _; rw [← hrg]; exact evB_at HD.out.nd (by rw [Hn.out]; omega)
      have htm : (q : Int).tmod 2 = ((q % 2 : Nat) : Int) := by rw [Int.tmod_eq_emod_of_nonneg (by omega)]; omega
      clear hr0 hrr hrg hr1
      by_cases he : q % 2 = 0
      · have h0 : (((q % 2 : Nat) : Int) == 0) = true := by rw [he]; rfl
        rw [hev.out, decide_eq_true he, if_pos rfl] at Hws
        have hwr : IntKind.i64.wrap ((wonTo F O (allO F O) j : Int) + 1) = ((wonTo F O (allO F O) j + 1 : Nat) : Int) := by rw [IntWalk.i64_in _ (by omega)]; omega
        clear he
        go_wp2_with fail
        go_roundw
        case rel => exact ⟨j + 1, by omega, by go_num, by rw [Hws.out, Int.natCast_add]; rfl, trivial⟩
        case measure => simp [intOf]; omega
      · have h0 : (((q % 2 : Nat) : Int) == 0) = false := by rw [show q % 2 = 1 by omega]; rfl
        rw [hev.out, decide_eq_false he, if_neg (by decide)] at Hws
        clear he
        go_wp2_with fail
        go_roundw
        case rel => exact ⟨j + 1, by omega, by go_num, by rw [Hws.out, Nat.add_zero], trivial⟩
        case measure => simp [intOf]; omega
    · obtain rfl : j = F.di.length := by omega
      go_wp2_with fail
      go_ret
      exact ⟨rfl, hkl⟩
end Go.Proofs.Ytbniecepngeooaa

namespace Go.Proofs.Ytbniecepngeooaa
open Go.RowKit

theorem infoIntsG : (Try.prog.info? 22).map (fun i => (i.zero, i.size, i.bytes)) = some (some (.slice none 0 0), 1, 24) := by kernel_rfl
theorem IntsAt.blk {w : World} {ad : Addr} {xs : List Int} (h : IntsAt w (some ad) xs) (hne : xs ≠ []) : ad.block < w.heap.size := by
  have hp : 0 < xs.length := List.length_pos_iff.2 hne
  have := World.block_lt_of_cell? _ _ (h.some_ hp)
  rwa [blk_add] at this
theorem IntsAt.turn {S : Nat → Prop} {w w' : World} {A : Option Addr} {xs : List Int} (h : IntsAt w A xs) (ht : Turn S w w') (hn : ∀ ad, A = some ad → xs ≠ [] → ¬ S ad.block) : IntsAt w' A xs :=
  ⟨h.1, fun k hk => by
    obtain ⟨ad, e, hc⟩ := h.2 k hk
    have hne : xs ≠ [] := fun e0 => by subst e0; simp at hk
    have hb : ad.block < w.heap.size := by
      have := World.block_lt_of_cell? _ _ hc
      rwa [blk_add] at this
    refine ⟨ad, e, ?_⟩
    have hbk : w'.heap[(ad.add k).block]? = w.heap[(ad.add k).block]? := by rw [blk_add]; exact ht.block _ hb (hn ad e hne)
    rw [World.cell?_of_block hbk]; exact hc⟩
theorem Own.capL {w : World} {base n c : Nat} {v : Value} {A : Option Addr} {xs : List Int} (h : Own w base v xs) (e : v = .slice A n c) : xs.length ≤ c := by
  rcases h.2 with ⟨rfl, h0⟩ | ⟨g, cap, cur, rfl, _, _, h4, _⟩
  · omega
  · simp only [Value.slice.injEq] at e
    omega
/-- A row that is read, and, where lo says from which block on, of the call's own. -/
def RowP (w : World) (lo : Option Nat) (u : Value) (xs : List Int) : Prop :=
  (∃ A c, u = .slice A xs.length c ∧ xs.length ≤ c ∧ IntsAt w A xs) ∧ ∀ b, lo = some b → Own w b u xs
theorem RowP.kp {w w' : World} {lo : Option Nat} {u : Value} {xs : List Int} (h : RowP w lo u xs) (hk : Kp w w') : RowP w' lo u xs := by
  obtain ⟨⟨A, c, e, hl, hi⟩, h2⟩ := h
  exact ⟨⟨A, c, e, hl, hi.kp hk⟩, fun b e => (h2 b e).kp hk⟩
theorem RowP.turn {S : Nat → Prop} {w w' : World} {lo : Option Nat} {u : Value} {xs : List Int} (h : RowP w lo u xs) (ht : Turn S w w') (hn : (xs ≠ [] ∨ lo ≠ none) → ∀ g, u.ownBlock = some g → ¬ S g) : RowP w' lo u xs := by
  obtain ⟨⟨A, c, rfl, hl, hi⟩, h2⟩ := h
  exact ⟨⟨A, c, rfl, hl, hi.turn ht (fun ad e hne => hn (.inl hne) ad.block (by rw [e]; rfl))⟩, fun b e => (h2 b e).turn ht (hn (.inr (by rw [e]; simp)))⟩
theorem RowP.lt {w : World} {lo : Option Nat} {u : Value} {xs : List Int} (h : RowP w lo u xs) (hn : xs ≠ [] ∨ lo ≠ none) : ∀ g, u.ownBlock = some g → g < w.heap.size := by
  obtain ⟨⟨A, c, rfl, hl, hi⟩, h2⟩ := h
  intro g hg
  rcases hn with hne | hlo
  · cases A with
    | none => cases hg
    | some ad =>
      have e : ad.block = g := by simpa [Value.ownBlock] using hg
      exact e ▸ hi.blk hne
  · cases lo with
    | none => exact absurd rfl hlo
    | some b => exact ((h2 b rfl).lt g hg).2
theorem RowP.of_own {w : World} {b : Nat} {u : Value} {xs : List Int} (h : Own w b u xs) (hl : xs.length ≤ 9223372036854775807) : RowP w (some b) u xs := by
  obtain ⟨A, c, e, hi⟩ := h.ints hl
  refine ⟨⟨A, c, e, h.capL e, hi⟩, fun b' e' => ?_⟩
  cases e'; exact h
theorem RowP.of_ints {w : World} {A : Option Addr} {xs : List Int} {c : Nat} (h : IntsAt w A xs) (hc : xs.length ≤ c) : RowP w none (.slice A xs.length c) xs :=
  ⟨⟨A, c, rfl, hc, h⟩, fun _ e => by cases e⟩
theorem RowP.mono {w : World} {b b' : Nat} {u : Value} {xs : List Int} (h : RowP w (some b) u xs) (hb : b' ≤ b) : RowP w (some b') u xs :=
  ⟨h.1, fun c e => by cases e; exact (h.2 b rfl).mono hb⟩
theorem RowP.read {w : World} {lo : Option Nat} {u : Value} {xs : List Int} (h : RowP w lo u xs) : ∃ A c, u = .slice A xs.length c ∧ xs.length ≤ c ∧ IntsAt w A xs := h.1
theorem RowP.one {w : World} {lo : Option Nat} {u : Value} {xs : List Int} (h : RowP w lo u xs) : u.oneCell' = true := by
  obtain ⟨⟨A, c, rfl, _⟩, _⟩ := h; rfl
/-- A slice of slices of the call's own; row j reads as rows[j] and does not lie in the outer block. -/
def GOwn (w : World) (lo : Option Nat) (base : Nat) (v : Value) (rows : List (List Int)) : Prop :=
  ∃ hs : List Value, w.ownsRow base 22 1 v rows.length hs ∧
    ∀ j (hj : j < rows.length), ∃ u, hs[j]? = some u ∧ RowP w lo u rows[j] ∧ ((rows[j] ≠ [] ∨ lo ≠ none) → ∀ g, u.ownBlock = some g → v.ownBlock ≠ some g)
theorem GOwn.kp {w w' : World} {lo : Option Nat} {base : Nat} {v : Value} {rows : List (List Int)} (h : GOwn w lo base v rows) (hk : Kp w w') : GOwn w' lo base v rows := by
  obtain ⟨hs, h1, h2⟩ := h
  exact ⟨hs, hk.own h1, fun j hj => by obtain ⟨u, e1, e2, e3⟩ := h2 j hj; exact ⟨u, e1, e2.kp hk, e3⟩⟩
theorem GOwn.nil (w : World) (lo : Option Nat) (base : Nat) : GOwn w lo base (.slice none 0 0) [] := ⟨[], World.ownsRow_nil _ _ _ _, fun j hj => by simp at hj⟩
theorem gown_new (w : World) (lo : Option Nat) (base : Nat) (hb : base ≤ w.heap.size) : GOwn (w.alloc (.cells #[] 22)) lo base (.slice (some ⟨w.heap.size, 0, none⟩) 0 0) [] :=
  ⟨[], World.ownsRow_lit w #[] 0 hb (by unfold maxLen; omega) (by simp), fun j hj => by simp at hj⟩
theorem GOwn.lt {w : World} {lo : Option Nat} {base : Nat} {v : Value} {rows : List (List Int)} (h : GOwn w lo base v rows) : ∀ k, v.ownBlock = some k → base ≤ k ∧ k < w.heap.size := by
  obtain ⟨hs, h1, _⟩ := h
  exact World.ownsRow.lt h1
theorem GOwn.mono {w : World} {lo : Option Nat} {base base' : Nat} {v : Value} {rows : List (List Int)} (h : GOwn w lo base v rows) (hb : base' ≤ base) : GOwn w lo base' v rows := by
  obtain ⟨hs, h1, h2⟩ := h
  refine ⟨hs, ⟨h1.1, ?_⟩, h2⟩
  rcases h1.2 with h | ⟨g, cap, cur, e, h3, h4⟩
  · exact .inl h
  · exact .inr ⟨g, cap, cur, e, Nat.le_trans hb h3, h4⟩
theorem GOwn.kp_turn {a w w' : World} {lo : Option Nat} {base : Nat} {v : Value} {rows : List (List Int)} (h : GOwn w lo base v rows) (hk : Kp a w) (hb : a.heap.size ≤ base) (ht : Turn (fun i => v.ownBlock = some i) w w') : Kp a w' :=
  hk.turn ht (fun i hi => Nat.le_trans hb (h.lt i hi).1)
theorem GOwn.drew {w : World} {lo : Option Nat} {base : Nat} {v : Value} {rows : List (List Int)} (h : GOwn w lo base v rows) : GOwn w.drew lo base v rows := h.kp (Kp.refl w).drew
theorem GOwn.one_kp {w : World} {lo : Option Nat} {base : Nat} {v : Value} {rows : List (List Int)} {o : Obj} (h : GOwn w lo base v rows) : GOwn (w.alloc o) lo base v rows := h.kp ((Kp.refl w).alloc o)
theorem GOwn.not_nil {w : World} {lo : Option Nat} {base : Nat} {v : Value} {rows : List (List Int)} (h : GOwn w lo base v rows) (hr : rows ≠ []) : v ≠ .slice none 0 0 := by
  rintro rfl
  obtain ⟨hs, h1, _⟩ := h
  rcases h1.2 with ⟨_, e⟩ | ⟨g, cap, cur, e, _⟩
  · exact hr (List.eq_nil_of_length_eq_zero e)
  · cases e

/-- The slice of this address reads as these rows. -/
def RowsAt (w : World) (lo : Option Nat) (A : Option Addr) (rows : List (List Int)) : Prop :=
  rows.length ≤ 9223372036854775807 ∧ ∀ k (_ : k < rows.length), ∃ ad u, A = some ad ∧ w.cell? (ad.add k) = some u ∧ RowP w lo u rows[k]
theorem RowsAt.kp {w w' : World} {lo : Option Nat} {A : Option Addr} {rows : List (List Int)} (h : RowsAt w lo A rows) (hk : Kp w w') : RowsAt w' lo A rows :=
  ⟨h.1, fun k hlt => by obtain ⟨ad, u, e, hc, hi⟩ := h.2 k hlt; exact ⟨ad, u, e, hk.get hc, hi.kp hk⟩⟩
theorem RowsAt.at_ {w : World} {lo : Option Nat} {A : Option Addr} {rows : List (List Int)} (h : RowsAt w lo A rows) {k : Nat} (hk : k < rows.length) : ∃ ad A2 c, A = some ad ∧ w.cell? (ad.add k) = some (.slice A2 rows[k].length c) ∧ rows[k].length ≤ c ∧ IntsAt w A2 rows[k] ∧ RowP w lo (.slice A2 rows[k].length c) rows[k] := by
  obtain ⟨ad, u, e, hc, hp⟩ := h.2 k hk
  obtain ⟨A2, c, rfl, h2, h3⟩ := hp.read
  exact ⟨ad, A2, c, e, hc, h2, h3, hp⟩
theorem RowsAt.some_ {w : World} {lo : Option Nat} {ad : Addr} {rows : List (List Int)} (h : RowsAt w lo (some ad) rows) {k : Nat} (hk : k < rows.length) : ∃ A2 c, w.cell? (ad.add k) = some (.slice A2 rows[k].length c) ∧ rows[k].length ≤ c ∧ IntsAt w A2 rows[k] ∧ RowP w lo (.slice A2 rows[k].length c) rows[k] := by
  obtain ⟨ad', A2, c, e, h1⟩ := h.at_ hk
  cases e; exact ⟨A2, c, h1⟩
theorem RowsAt.nil (w : World) (lo : Option Nat) (A : Option Addr) : RowsAt w lo A [] := ⟨by simp, fun k hk => absurd hk (by simp)⟩
theorem RowsAt.grid {w : World} {lo : Option Nat} {A : Option Addr} {rows : List (List Int)} (h : RowsAt w lo A rows) : GridAt w A rows :=
  ⟨h.1, fun k hk => by
    obtain ⟨ad, A2, c, e, hc, _, hi, _⟩ := h.at_ hk
    have e2 : rows.getD k [] = rows[k] := by simp [List.getD, hk]
    rw [e2]
    exact ⟨ad, A2, c, e, hc, hi⟩⟩
theorem RowsAt.take {w : World} {lo : Option Nat} {ad : Addr} {rows : List (List Int)} (h : RowsAt w lo (some ad) rows) (k : Nat) : RowsAt w lo (some ad) (rows.take k) :=
  ⟨Nat.le_trans (by simp; omega) h.1, fun j hj => by
    have h1 : j < rows.length := by simp at hj; omega
    obtain ⟨A2, c, e1, _, _, e3⟩ := h.some_ h1
    have e : (rows.take k)[j] = rows[j] := List.getElem_take
    rw [e]
    exact ⟨ad, _, rfl, e1, e3⟩⟩
theorem add_add (ad : Addr) (k j : Nat) : (ad.add k).add j = ad.add (k + j) := by
  unfold Addr.add
  by_cases hk : k = 0 <;> by_cases hj0 : j = 0 <;> simp [hk, hj0, Nat.add_assoc]
theorem RowsAt.drop {w : World} {lo : Option Nat} {ad : Addr} {rows : List (List Int)} (h : RowsAt w lo (some ad) rows) (k : Nat) : RowsAt w lo (some (ad.add k)) (rows.drop k) :=
  ⟨Nat.le_trans (by simp) h.1, fun j hj => by
    have h1 : k + j < rows.length := by simp at hj; omega
    obtain ⟨A2, c, e1, _, _, e3⟩ := h.some_ h1
    have e : (rows.drop k)[j] = rows[k + j] := List.getElem_drop
    rw [e]
    exact ⟨ad.add k, _, rfl, by rw [add_add]; exact e1, e3⟩⟩
theorem RowsAt.tail {w : World} {lo : Option Nat} {ad : Addr} {rows : List (List Int)} {c : Nat} (h : RowsAt w lo (some ad) rows) (hc : rows.length ≤ c) (k : Nat) : RowsAt w lo (if c = k then some ad else some (ad.add k)) (rows.drop k) := by
  by_cases e : c = k
  · rw [if_pos e, List.drop_eq_nil_of_le (by omega)]; exact RowsAt.nil _ _ _
  · rw [if_neg e]; exact h.drop k
theorem GOwn.rows {w : World} {lo : Option Nat} {base : Nat} {v : Value} {rows : List (List Int)} (h : GOwn w lo base v rows) (hl : rows.length ≤ 9223372036854775807) : ∃ A c, v = .slice A rows.length c ∧ rows.length ≤ c ∧ RowsAt w lo A rows := by
  obtain ⟨hs, h1, h2⟩ := h
  rcases id h1.2 with ⟨rfl, h0⟩ | ⟨g, cap, cur, rfl, _, _, hn, _⟩
  · have : rows = [] := List.eq_nil_of_length_eq_zero h0
    subst this
    exact ⟨none, 0, rfl, by simp, RowsAt.nil _ _ _⟩
  · refine ⟨_, cap, rfl, hn, hl, fun k hk => ?_⟩
    obtain ⟨u, e1, e2, _⟩ := h2 k hk
    exact ⟨_, u, rfl, World.ownsRow.cells h1 (g := g) rfl k _ e1, e2⟩
theorem GOwn.rows_some {w : World} {lo : Option Nat} {base : Nat} {v : Value} {rows : List (List Int)} (h : GOwn w lo base v rows) (hl : rows.length ≤ 9223372036854775807) (hv : v ≠ .slice none 0 0) : ∃ ad c, v = .slice (some ad) rows.length c ∧ rows.length ≤ c ∧ RowsAt w lo (some ad) rows := by
  obtain ⟨A, c, rfl, h2, h3⟩ := h.rows hl
  obtain ⟨hs, h1, _⟩ := h
  rcases h1.2 with ⟨e, _⟩ | ⟨g, cap, cur, e, _⟩
  · exact absurd e hv
  · simp only [Value.slice.injEq] at e
    obtain ⟨rfl, _, _⟩ := e
    exact ⟨_, c, rfl, h2, h3⟩
theorem GOwn.shape {w : World} {lo : Option Nat} {base : Nat} {v : Value} {rows : List (List Int)} (h : GOwn w lo base v rows) : ∃ A c, v = .slice A rows.length c := by
  obtain ⟨hs, h1, _⟩ := h
  rcases h1.2 with ⟨rfl, h0⟩ | ⟨g, cap, cur, e, _⟩
  · exact ⟨none, 0, by rw [h0]⟩
  · exact ⟨_, cap, e⟩
/-- What is read in a world that the call found lies apart from what has been made since. -/
theorem apart_old {w0 w : World} {lo : Option Nat} {base : Nat} {v u : Value} {rows : List (List Int)} {xs : List Int} (h : RowP w0 lo u xs) (hv : GOwn w lo base v rows) (hb : w0.heap.size ≤ base) : (xs ≠ [] ∨ lo ≠ none) → ∀ g, u.ownBlock = some g → v.ownBlock ≠ some g := by
  intro hn g hg hv2
  have := h.lt hn g hg
  have := (hv.lt _ hv2).1
  omega
theorem run_appg_all {W0 W : World} (ty : TypeId) {lo : Option Nat} (base : Nat) (v : Value) (rows rows2 : List (List Int)) (A : Option Addr) (m c : Nat)
    (hown : GOwn W lo base v rows) (hy : RowsAt W0 lo A rows2) (hk : Kp W0 W) (hap0 : ∀ k (hk : k < rows2.length) (ad : Addr) (u : Value), A = some ad → W0.cell? (ad.add k) = some u → RowP W0 lo u rows2[k] → (rows2[k] ≠ [] ∨ lo ≠ none) → ∀ g, u.ownBlock = some g → v.ownBlock ≠ some g) (hym : rows2.length = m) (hbase : base ≤ W.heap.size) (hlen : rows.length + rows2.length ≤ 4194304) :
    ∃ v' w', (Builtin.append_ #[23, 23] ty #[v, .slice A m c]).run Try.prog W = .ok v' w' ∧ GOwn w' lo base v' (rows ++ rows2) ∧ W.grownBy w' v.ownBlock ∧ (v'.ownBlock = v.ownBlock ∨ ∀ g, v'.ownBlock = some g → W.heap.size ≤ g) := by
  obtain ⟨i0, hi, hz0, hz1, hz2⟩ := info_parts infoIntsG
  rcases A with _ | ad
  · have hys : rows2 = [] := by
      rcases rows2 with _ | ⟨y, ys⟩
      · rfl
      · obtain ⟨ad, _, h, _⟩ := hy.2 0 (by simp)
        cases h
    subst hys
    obtain rfl : m = 0 := by simpa using hym.symm
    refine ⟨v, W, ?_, by simpa using hown, World.grownBy.refl W _, .inl rfl⟩
    obtain ⟨hs, h1, _⟩ := hown
    rcases h1.2 with ⟨rfl, hn0⟩ | ⟨g, cap, cur, rfl, _, _, hnc, _⟩
    · simp [Builtin.append_, run_underlying Try.underlying23, sizeOf, typeInfo, hi, Builtin.lenOf, Builtin.firstCells]
    · simp [Builtin.append_, run_underlying Try.underlying23, sizeOf, typeInfo, hi, Builtin.lenOf, Builtin.firstCells, hnc, storeCells]
  · have hown0 := hown
    obtain ⟨hs, h1, h2⟩ := hown
    have hlt : hs.length = rows.length := by rw [h1.1]; omega
    obtain ⟨hs2, hs2d⟩ : ∃ hs2 : List Value, hs2 = (List.range m).map (fun j => (W.cell? (ad.add j)).getD (.slice none 0 0)) := ⟨_, rfl⟩
    have hs2l : hs2.length = m := by simp [hs2d]
    have hs2a : ∀ j (hj : j < rows2.length), ∃ u, hs2[j]? = some u ∧ W0.cell? (ad.add j) = some u ∧ RowP W0 lo u rows2[j] := fun j hj => by
      obtain ⟨ad', u, e0, e1, e2⟩ := hy.2 j hj
      cases e0
      refine ⟨u, ?_, e1, e2⟩
      rw [hs2d]
      simp [show j < m by omega, hk.get e1]
    obtain ⟨v', w', hrun, g2, g3, _, g5⟩ := run_append_own_at (P := Try.prog) W base 23 ty 22 i0 (.slice none 0 0) 1 24 Try.underlying23 hi hz0 hz1 hz2 rfl (by decide) v rows.length hs h1 ad m c hs2 (by rw [hs2l]; omega) (by
        intro j u hj
        by_cases hlt : j < rows2.length
        · obtain ⟨u2, e1, e2, _⟩ := hs2a j hlt
          rw [e1] at hj
          have e : u2 = u := by simpa using hj
          rw [← e]; exact hk.get e2
        · rw [List.getElem?_eq_none (by omega)] at hj; cases hj) (by
        intro u hu
        obtain ⟨j, hj, rfl⟩ := List.getElem_of_mem hu
        obtain ⟨u2, e1, _, e3⟩ := hs2a j (by omega)
        rw [List.getElem?_eq_getElem hj] at e1
        have e : hs2[j] = u2 := by simpa using e1
        rw [e]; exact e3.one) (by unfold maxLen; omega) (by omega) hbase
    have ht := Turn.of_grown g3
    have h5 : v'.ownBlock = v.ownBlock ∨ ∀ g, v'.ownBlock = some g → W.heap.size ≤ g := by
      rcases g5 with e | e
      · exact .inl e
      · exact .inr (fun g hg => by rw [e] at hg; simp at hg; omega)
    have hnew : ∀ (u : Value) (xs : List Int), RowP W lo u xs → (xs ≠ [] ∨ lo ≠ none) → (∀ g, u.ownBlock = some g → v.ownBlock ≠ some g) → ∀ g, u.ownBlock = some g → v'.ownBlock ≠ some g := by
      intro u xs hx hn hv g hg e
      rcases h5 with h | h
      · rw [h] at e; exact hv g hg e
      · have := h _ e
        have := hx.lt hn g hg
        omega
    refine ⟨v', w', hrun, ⟨hs ++ hs2, ?_, fun j hj => ?_⟩, g3, h5⟩
    · rw [List.length_append, hym]; exact g2
    · rw [List.length_append] at hj
      by_cases hjl : j < rows.length
      · obtain ⟨u, e1, e2, e3⟩ := h2 j hjl
        have e : (rows ++ rows2)[j] = rows[j] := List.getElem_append_left hjl
        rw [e]
        exact ⟨u, by rw [List.getElem?_append_left (by omega)]; exact e1, e2.turn ht (fun hn g hg hh => e3 hn g hg hh), fun hn => hnew u _ e2 hn (e3 hn)⟩
      · have hj2 : j - rows.length < rows2.length := by omega
        obtain ⟨u, e1, e0, e3⟩ := hs2a _ hj2
        have e : (rows ++ rows2)[j] = rows2[j - rows.length] := List.getElem_append_right (by omega)
        rw [e]
        have hap := hap0 _ hj2 ad u rfl e0 e3
        exact ⟨u, by rw [List.getElem?_append_right (by omega), hlt]; exact e1, (e3.kp hk).turn ht (fun hn g hg hh => hap hn g hg hh), fun hn => hnew u _ (e3.kp hk) hn (hap hn)⟩
/-- The header of a slice stands in a block of one cell. -/
theorem RowsAt.one {W : World} {lo : Option Nat} {ad : Addr} {u : Value} {xs : List Int} (h : RowP W lo u xs) (hc : W.cell? ad = some u) : RowsAt W lo (some ad) [xs] :=
  ⟨by simp, fun k hk => by
    obtain rfl : k = 0 := by simpa using hk
    have e : ad.add 0 = ad := by unfold Addr.add; simp
    exact ⟨ad, u, rfl, by rw [e]; exact hc, h⟩⟩
theorem run_appg {W : World} (ty : TypeId) {lo : Option Nat} (base : Nat) (v : Value) (rows : List (List Int)) (r : List Int) (u : Value) (ad : Addr) (m' c' : Nat)
    (hown : GOwn W lo base v rows) (hr : RowP W lo u r) (hcell : W.cell? ad = some u) (hm : m' = 1) (hap : (r ≠ [] ∨ lo ≠ none) → ∀ g, u.ownBlock = some g → v.ownBlock ≠ some g) (hbase : base ≤ W.heap.size) (hlen : rows.length < 1048576) :
    ∃ v' w', (Builtin.append_ #[23, 23] ty #[v, .slice (some ad) m' c']).run Try.prog W = .ok v' w' ∧ GOwn w' lo base v' (rows ++ [r]) ∧ W.grownBy w' v.ownBlock ∧ (v'.ownBlock = v.ownBlock ∨ ∀ g, v'.ownBlock = some g → W.heap.size ≤ g) := by
  subst hm
  refine run_appg_all ty base v rows [r] (some ad) 1 c' hown (RowsAt.one hr hcell) (Kp.refl W) (fun k hk ad2 u2 e1 e2 hu2 hn g hg => ?_) rfl hbase (by simp; omega)
  obtain rfl : k = 0 := by simpa using hk
  cases e1
  have e : ad.add 0 = ad := by unfold Addr.add; simp
  rw [e, hcell] at e2
  cases e2
  exact hap hn g hg
/-- append of one row, in a plain region: the row's header stands in a new block of one cell. -/
theorem wpl_appg {ops : Array Oper} {rest : List Oper} {o : Oper} {a : Act} {Q : Exit → Act → World → Prop} {W : World} (hgd : o.guard = none) (s x : Operand)
    (ho : o.op = .call { callee := .builtin .append, args := #[s, x], argTypes := #[23, 23] }) {lo : Option Nat} (base : Nat) (v : Value) (rows : List (List Int)) (r : List Int) (u : Value)
    (hs : a.eval s = v) (hx : a.eval x = .slice (some ⟨W.heap.size, 0, none⟩) 1 1) (hown : GOwn W lo base v rows) (hr : RowP W lo u r) (hap : (r ≠ [] ∨ lo ≠ none) → ∀ g, u.ownBlock = some g → v.ownBlock ≠ some g) (hbase : base ≤ W.heap.size) (hlen : rows.length < 1048576)
    (h : ∀ v' w', GOwn w' lo base v' (rows ++ [r]) → Turn (fun i => v.ownBlock = some i) W w' → (v'.ownBlock = v.ownBlock ∨ ∀ g, v'.ownBlock = some g → W.heap.size ≤ g) → wpList Try.prog ops Q rest (a.put o.dst v') w') :
    wpList Try.prog ops Q (o :: rest) a (W.alloc (.cells #[u] 22)) := by
  have hk : Kp W (W.alloc (.cells #[u] 22)) := (Kp.refl W).alloc _
  obtain ⟨v', w', hrun, h2, h3, h4⟩ := run_appg (W := W.alloc (.cells #[u] 22)) o.type base v rows r u ⟨W.heap.size, 0, none⟩ 1 1 (hown.kp hk) (hr.kp hk) (by rw [World.cell?_alloc_at _ _ _ _ rfl]; rfl) rfl hap (by simp; omega) hlen
  refine Lib.wpList_append_run _ hgd s x _ _ ho _ _ hs hx v' w' hrun (h v' w' h2 ((Turn.of_kp hk).trans (Turn.of_grown h3)) ?_)
  rcases h4 with e | e
  · exact .inl e
  · exact .inr (fun g hg => by have := e g hg; simp at this; omega)
theorem step_appg {ops : Array Oper} {o : Oper} {a : Act} {K : Act → World → Prop} {Q : Exit → Act → World → Prop} {E : Prop} {W : World} (hgd : o.guard = none) (s x : Operand)
    (ho : o.op = .call { callee := .builtin .append, args := #[s, x], argTypes := #[23, 23] }) {lo : Option Nat} (base : Nat) (v : Value) (rows : List (List Int)) (r : List Int) (u : Value) (ad : Addr)
    (hs : a.eval s = v) (hx : a.eval x = .slice (some ad) 1 1) (hown : GOwn W lo base v rows) (hr : RowP W lo u r) (hcell : W.cell? ad = some u) (hap : (r ≠ [] ∨ lo ≠ none) → ∀ g, u.ownBlock = some g → v.ownBlock ≠ some g) (hbase : base ≤ W.heap.size) (hlen : rows.length < 1048576)
    (h : ∀ v' w', GOwn w' lo base v' (rows ++ [r]) → Turn (fun i => v.ownBlock = some i) W w' → (v'.ownBlock = v.ownBlock ∨ ∀ g, v'.ownBlock = some g → W.heap.size ≤ g) → K (a.put o.dst v') w') :
    if Region.wanted o (yielded ops a.tmps) = true then Oper.wp Try.prog o a W K Q else E := by
  have hw : Region.wanted o (yielded ops a.tmps) = true := by simp [Region.wanted, hgd]
  rw [if_pos hw]
  obtain ⟨v', w', hrun, h2, h3, h4⟩ := run_appg (W := W) o.type base v rows r u ad 1 1 hown hr hcell rfl hap hbase hlen
  unfold Oper.wp execOp
  simp only [ho, resolve, invoke, builtin, Sem.run_bind, Sem.run_pure, Result.andThen_ok, List.map_toArray, List.map_cons, List.map_nil, hs, hx, hrun]
  exact h v' w' h2 (Turn.of_grown h3) h4
theorem step_appg_all {ops : Array Oper} {o : Oper} {a : Act} {K : Act → World → Prop} {Q : Exit → Act → World → Prop} {E : Prop} {W0 W : World} (hgd : o.guard = none) (s x : Operand)
    (ho : o.op = .call { callee := .builtin .append, args := #[s, x], argTypes := #[23, 23] }) {lo : Option Nat} (base : Nat) (v : Value) (rows rows2 : List (List Int)) (A : Option Addr) (m c : Nat)
    (hs : a.eval s = v) (hx : a.eval x = .slice A m c) (hown : GOwn W lo base v rows) (hy : RowsAt W0 lo A rows2) (hk : Kp W0 W) (hb0 : W0.heap.size ≤ base) (hym : rows2.length = m) (hbase : base ≤ W.heap.size) (hlen : rows.length + rows2.length ≤ 4194304)
    (h : ∀ v' w', GOwn w' lo base v' (rows ++ rows2) → Turn (fun i => v.ownBlock = some i) W w' → (v'.ownBlock = v.ownBlock ∨ ∀ g, v'.ownBlock = some g → W.heap.size ≤ g) → K (a.put o.dst v') w') :
    if Region.wanted o (yielded ops a.tmps) = true then Oper.wp Try.prog o a W K Q else E := by
  have hw : Region.wanted o (yielded ops a.tmps) = true := by simp [Region.wanted, hgd]
  rw [if_pos hw]
  obtain ⟨v', w', hrun, h2, h3, h4⟩ := run_appg_all (W := W) o.type base v rows rows2 A m c hown hy hk (fun k _ _ _ _ _ hu => apart_old hu hown hb0) hym hbase hlen
  unfold Oper.wp execOp
  simp only [ho, resolve, invoke, builtin, Sem.run_bind, Sem.run_pure, Result.andThen_ok, List.map_toArray, List.map_cons, List.map_nil, hs, hx, hrun]
  exact h v' w' h2 (Turn.of_grown h3) h4
/-- append of all rows in a plain region; the rows lie apart. -/
theorem wpl_appg_all {ops : Array Oper} {rest : List Oper} {o : Oper} {a : Act} {Q : Exit → Act → World → Prop} {W : World} (hgd : o.guard = none) (s x : Operand)
    (ho : o.op = .call { callee := .builtin .append, args := #[s, x], argTypes := #[23, 23] }) {lo : Option Nat} (base : Nat) (v : Value) (rows rows2 : List (List Int)) (A : Option Addr) (m c : Nat)
    (hs : a.eval s = v) (hx : a.eval x = .slice A m c) (hown : GOwn W lo base v rows) (hy : RowsAt W lo A rows2) (hap0 : ∀ k (hk : k < rows2.length) (ad : Addr) (u : Value), A = some ad → W.cell? (ad.add k) = some u → RowP W lo u rows2[k] → (rows2[k] ≠ [] ∨ lo ≠ none) → ∀ g, u.ownBlock = some g → v.ownBlock ≠ some g) (hym : rows2.length = m) (hbase : base ≤ W.heap.size) (hlen : rows.length + rows2.length ≤ 4194304)
    (h : ∀ v' w', GOwn w' lo base v' (rows ++ rows2) → Turn (fun i => v.ownBlock = some i) W w' → (v'.ownBlock = v.ownBlock ∨ ∀ g, v'.ownBlock = some g → W.heap.size ≤ g) → wpList Try.prog ops Q rest (a.put o.dst v') w') :
    wpList Try.prog ops Q (o :: rest) a W := by
  obtain ⟨v', w', hrun, h2, h3, h4⟩ := run_appg_all (W := W) o.type base v rows rows2 A m c hown hy (Kp.refl W) hap0 hym hbase hlen
  exact Lib.wpList_append_run _ hgd s x _ _ ho _ _ hs hx v' w' hrun (h v' w' h2 (Turn.of_grown h3) h4)
end Go.Proofs.Ytbniecepngeooaa

/- The drawing of arguments: a field; a worth; a list of sites; The drawing of arguments: a list of sites; Lists of different numbers; Marginal shares, and the sum of them over all orders, in plain Lean; Marginal shares added to what stands there: the program; slices.Sort and slices.Reverse of a slice of numbers of the call's own: laid (by layp.py), and what they leave; slices.Values, slices.AppendSeq, slices.Collect and slices.Sorted of ints: a slice of the call's own with what the iterator gives; Orders of all clients: program and reference; MarginalShares: program and reference. No condition. -/
import Derived.Test.YtffpdebjjcbenaaGreatQAr
import Derived.Test.YtffpdebjjcbenaaGreatQAd
import Derived.Test.YtffpdebjjcbenaaGreatQAa
import Derived.Test.YtffpdebjjcbenaaGreatQAc
import Derived.Test.YtffpdebjjcbenaaGreatQAh
import Derived.Test.YtffpdebjjcbenaaGreatQAg
import Derived.Test.YtffpdebjjcbenaaGreatQAb
import Derived.StillTailTactics
import Derived.Shelf.Sort.Plain
import Derived.Shelf.Slices.Reverse
import Derived.Lib.OwnBridge
import Derived.Lib.AppendIntMem
import Derived.Shelf.Slices.In.SortNone
import Derived.RangeFuncBox
import Derived.RangeFuncLeaves
import Derived.Shelf.Abstract
import Derived.WalkKit
import Derived.OwnWalkIn
import Derived.TacticsInMore
import Derived.LoopNIn
import Derived.LoopIn
import Derived.Maps.AppendAt
namespace Go.Proofs.YtffpdebjjcbenaaGreat
open Go.RowKit Go.Sort

theorem DFld.shape {w : World} {b : Nat} {v : Value} (h : DFld w b v) : ∃ A n c B k d, v = .agg #[.slice A n c, .slice B k d] ∧ n ≤ 9223372036854775807 := by
  obtain ⟨F, A, c, B, d, e, h1, h2⟩ := h
  exact ⟨A, F.op.length, c, B, F.di.length, d, e, h1.1.1⟩
theorem DFld.shape2 {w : World} {b : Nat} {v : Value} (h : DFld w b v) : ∃ A n c B k d, v = .agg #[.slice A n c, .slice B k d] ∧ n ≤ 9223372036854775807 ∧ k ≤ 90 := by
  obtain ⟨F, A, c, B, d, e, h1, h2⟩ := h
  exact ⟨A, F.op.length, c, B, F.di.length, d, e, h1.1.1, h2.1⟩
theorem DFld.shape3 {w : World} {b : Nat} {v : Value} (h : DFld w b v) : ∃ A n c B k d, v = .agg #[.slice A n c, .slice B k d] ∧ n ≤ 100 ∧ k ≤ 90 := by
  obtain ⟨F, A, c, B, d, e, h1, h2⟩ := h
  exact ⟨A, F.op.length, c, B, F.di.length, d, e, h1.2.2, h2.1⟩
theorem DFld.turn {S : Nat → Prop} {w w' : World} {b : Nat} {v : Value} (h : DFld w b v) (ht : Turn S w w') (hn : ∀ i, b ≤ i → ¬ S i) : DFld w' b v := by
  obtain ⟨F, hf⟩ := h
  exact ⟨F, hf.turn ht hn⟩
theorem DFld.kp {w w' : World} {b : Nat} {v : Value} (h : DFld w b v) (hk : Kp w w') : DFld w' b v := h.turn (Turn.of_kp (S := fun _ => False) hk) (fun _ _ h => h)
theorem DFld.mono {w : World} {b b' : Nat} {v : Value} (h : DFld w b v) (hb : b' ≤ b) : DFld w b' v := by
  obtain ⟨F, hf⟩ := h
  exact ⟨F, hf.mono (fun i hi => by omega)⟩
/-- The result's cells, when the field is stored there. -/
theorem fld_ret {w w2 : World} {p m rb : Nat} {x y : Value} (hf : DFld w2 (rb + 1) (.agg #[x, y])) (ht : w2.there rb 0 2) (hc : Cur w2 p m) (hp : p < rb) (k : Tp p w w2) (hr : w.heap.size ≤ rb) : (w2.setCells rb 0 [x, y]).cell? ⟨rb, 0, none⟩ = some x ∧ (w2.setCells rb 0 [x, y]).cell? ⟨rb, 1, none⟩ = some y ∧ DFld (w2.setCells rb 0 [x, y]) w.heap.size (.agg #[x, y]) ∧ Cur (w2.setCells rb 0 [x, y]) p m ∧ Tp p w (w2.setCells rb 0 [x, y]) := by
  have ts := turn_setCellsD rb [x, y] 0 w2
  have hg := World.rangeAt_setCells_same w2 rb 0 [x, y] ht
  exact ⟨hg 0 _ rfl, hg 1 _ rfl, (hf.turn ts (fun i hi => by omega)).mono (by omega), hc.turn ts (fun i hi => by omega), ⟨ts.os.trans k.os, ts.tape.trans k.tape, ts.output.trans k.output, Nat.le_trans k.size ts.size, fun i hi hn => by
    rw [ts.block i (Nat.lt_of_lt_of_le hi k.size) (by omega), k.block i hi hn]⟩⟩
set_option maxRecDepth 100000 in
set_option maxHeartbeats 2000000 in
theorem fieldOf_any (p m : Nat) (most : Int) (w : World) (hc : Cur w p m) (hm : m < 100000000) (hmost : 1 ≤ most) :
    Calls Tryz.prog 18 #[.pointer (some ⟨p, 0, none⟩), .int .i64 most] w fun e w' => ∃ v, e = .returned v ∧ DFld w' w.heap.size v ∧ Cur w' p (m + 5000) ∧ Tp p w w' := by
  have hp := hc.lt
  have t0 := there_newD w [.slice none 0 0, .slice none 0 0] 27
  simp only [List.length_cons, List.length_nil, Nat.zero_add, Nat.reduceAdd] at t0
  have k0 : Tp p w (w.alloc (.cells #[.slice none 0 0, .slice none 0 0] 27)) := Turn.of_kp ((Kp.refl w).alloc _)
  have c0 := hc.kp ((Kp.refl w).alloc (.cells #[.slice none 0 0, .slice none 0 0] 27))
  have hsz : Hid ((w.alloc (.cells #[.slice none 0 0, .slice none 0 0] 27)).heap.size = w.heap.size + 1) := by show _ = _; simp
  have CP := Lib.hid (pick_any p m 3 (w.alloc (.cells #[.slice none 0 0, .slice none 0 0] 27)) c0 (by omega) (by omega))
  go_enter Tryz.func18, Tryz.ntmps18
  go_wp2_with fail
  generalize w.alloc (.cells #[.slice none 0 0, .slice none 0 0] 27) = wa at *
  with_reducible refine Calls.mono CP.out ?_
  rintro e w1 ⟨r, rfl, hr, c1, u1⟩
  clear CP
  have hw1 : w.heap.size + 1 ≤ w1.heap.size := by have := u1.size; rw [hsz.out] at this; exact this
  have hr3 : r = 0 ∨ r = 1 ∨ r = 2 := by have := hr.2.2 (by omega); omega
  clear hr c0
  rcases hr3 with rfl | rfl | rfl
  · have CC := Lib.hid (rawField_any p (m + 2) most w1 c1 (by omega) hmost)
    go_wp2_with fail
    with_reducible refine Calls.mono CC.out ?_
    rintro e w2 ⟨a, d, rfl, ⟨xs, J, B, Cp, f, hrf, hrb⟩, c2, u2⟩
    clear CC
    have CC := Lib.hid (spoilt2_any p _ a d w1.heap.size xs J B Cp f wa w2 c2 (by omega) (u1.trans u2) (by rw [hsz.out]; exact hw1) (by rw [hsz.out]; omega) u2.size hrf hrb)
    go_wp2_with fail
    with_reducible refine Calls.mono CC.out ?_
    rintro e w3 ⟨v, rfl, hv, cv, kv⟩
    clear CC
    rw [hsz.out] at hv
    obtain ⟨A9, n9, c9, B9, k9, d9, rfl, _⟩ := hv.shape
    have ht9 := turn_thereD kv t0 (by show ¬ w.heap.size = p; omega)
    have HE := Lib.hid (fld_ret hv ht9 cv hp (k0.trans kv) (Nat.le_refl _))
    go_wp2_with (first | (refine wpList_store_mid rfl 27 (.tmp 4) (.tmp 13) rfl w.heap.size 0 #[.slice A9 n9 c9, .slice B9 k9 d9] rfl rfl ht9 (by kernel_rfl) (by simp [Value.oneCell']) ?_) | fail)
    obtain ⟨z0, z1, z2, z3, z4⟩ := HE.out
    exact bodyPost_ret (v := .agg #[.slice A9 n9 c9, .slice B9 k9 d9]) (by simp [results, Tryz.results18, go_sem, z0, z1]) rfl ⟨_, rfl, z2, z3.mono (by omega), z4⟩
  · have CC := Lib.hid (lineField_any p (m + 2) most w1 c1 (by omega) hmost)
    go_wp2_with fail
    with_reducible refine Calls.mono CC.out ?_
    rintro e w2 ⟨a, d, rfl, ⟨xs, J, B, Cp, f, hrf, hrb⟩, c2, u2⟩
    clear CC
    have CC := Lib.hid (spoilt2_any p _ a d w1.heap.size xs J B Cp f wa w2 c2 (by omega) (u1.trans u2) (by rw [hsz.out]; exact hw1) (by rw [hsz.out]; omega) u2.size hrf hrb)
    go_wp2_with fail
    with_reducible refine Calls.mono CC.out ?_
    rintro e w3 ⟨v, rfl, hv, cv, kv⟩
    clear CC
    rw [hsz.out] at hv
    obtain ⟨A9, n9, c9, B9, k9, d9, rfl, _⟩ := hv.shape
    have ht9 := turn_thereD kv t0 (by show ¬ w.heap.size = p; omega)
    have HE := Lib.hid (fld_ret hv ht9 cv hp (k0.trans kv) (Nat.le_refl _))
    go_wp2_with (first | (refine wpList_store_mid rfl 27 (.tmp 4) (.tmp 20) rfl w.heap.size 0 #[.slice A9 n9 c9, .slice B9 k9 d9] rfl rfl ht9 (by kernel_rfl) (by simp [Value.oneCell']) ?_) | fail)
    obtain ⟨z0, z1, z2, z3, z4⟩ := HE.out
    exact bodyPost_ret (v := .agg #[.slice A9 n9 c9, .slice B9 k9 d9]) (by simp [results, Tryz.results18, go_sem, z0, z1]) rfl ⟨_, rfl, z2, z3.mono (by omega), z4⟩
  · have CC := Lib.hid (rawField_any p (m + 2) most w1 c1 (by omega) hmost)
    go_wp2_with fail
    with_reducible refine Calls.mono CC.out ?_
    rintro e w2 ⟨a, d, rfl, ⟨xs, J, B, Cp, f, hrf, hrb⟩, c2, u2⟩
    clear CC
    have CC := Lib.hid (l2Close_any a d w1.heap.size xs J B Cp f w2 hrf hrb)
    go_wp2_with fail
    with_reducible refine Calls.mono CC.out ?_
    rintro e w3 ⟨a', d', rfl, ⟨xs', J', B', Cp', f', hrf', hrb'⟩, k3⟩
    clear CC
    have h23 := u2.size
    have CC := Lib.hid (spoilt2_any p _ a' d' w2.heap.size xs' J' B' Cp' f' wa w3 (c2.kp k3) (by omega) ((u1.trans u2).trans (Turn.of_kp k3)) (by rw [hsz.out]; omega) (by rw [hsz.out]; omega) k3.le hrf' hrb')
    go_wp2_with fail
    with_reducible refine Calls.mono CC.out ?_
    rintro e w4 ⟨v, rfl, hv, cv, kv⟩
    clear CC
    rw [hsz.out] at hv
    obtain ⟨A9, n9, c9, B9, k9, d9, rfl, _⟩ := hv.shape
    have ht9 := turn_thereD kv t0 (by show ¬ w.heap.size = p; omega)
    have HE := Lib.hid (fld_ret hv ht9 cv hp (k0.trans kv) (Nat.le_refl _))
    go_wp2_with (first | (refine wpList_store_mid rfl 27 (.tmp 4) (.tmp 26) rfl w.heap.size 0 #[.slice A9 n9 c9, .slice B9 k9 d9] rfl rfl ht9 (by kernel_rfl) (by simp [Value.oneCell']) ?_) | fail)
    obtain ⟨z0, z1, z2, z3, z4⟩ := HE.out
    exact bodyPost_ret (v := .agg #[.slice A9 n9 c9, .slice B9 k9 d9]) (by simp [results, Tryz.results18, go_sem, z0, z1]) rfl ⟨_, rfl, z2, z3.mono (by omega), z4⟩
end Go.Proofs.YtffpdebjjcbenaaGreat

namespace Go.Proofs.YtffpdebjjcbenaaGreat
open Go.RowKit Go.Sort

/-- A list that has been drawn. -/
def DInts (w : World) (b : Nat) (v : Value) : Prop := ∃ xs : List Int, Own w b v xs ∧ xs.length ≤ 200
theorem DInts.mono {w : World} {b b' : Nat} {v : Value} (h : DInts w b v) (hb : b' ≤ b) : DInts w b' v := by
  obtain ⟨xs, h1, h2⟩ := h
  exact ⟨xs, h1.mono hb, h2⟩
theorem DInts.turn {S : Nat → Prop} {w w' : World} {b : Nat} {v : Value} (h : DInts w b v) (ht : Turn S w w') (hn : ∀ i, b ≤ i → ¬ S i) : DInts w' b v := by
  obtain ⟨xs, h1, h2⟩ := h
  exact ⟨xs, own_low h1 ht hn, h2⟩
theorem DInts.kp {w w' : World} {b : Nat} {v : Value} (h : DInts w b v) (hk : Kp w w') : DInts w' b v := h.turn (Turn.of_kp (S := fun _ => False) hk) (fun _ _ h => h)
theorem DInts.ints {w : World} {b : Nat} {v : Value} (h : DInts w b v) : ∃ A c xs, v = .slice A xs.length c ∧ IntsAt w A xs ∧ xs.length ≤ 200 ∧ xs.length ≤ c := by
  obtain ⟨xs, h1, h2⟩ := h
  obtain ⟨A, c, e, hi⟩ := h1.ints (by omega)
  exact ⟨A, c, xs, e, hi, h2, h1.capL e⟩
theorem own_oneD (w : World) (base : Nat) (a : Int) (hb : base ≤ w.heap.size) : Own (w.alloc (.cells #[.int .i64 a] 3)) base (.slice (some ⟨w.heap.size, 0, none⟩) 1 1) [a] :=
  World.ownsRow_lit w #[.int .i64 a] 1 hb (by unfold maxLen; omega) (by simp)
/-- Own memory has turned. -/
theorem tp_own {w w1 w2 : World} {p : Nat} {S : Nat → Prop} (k : Tp p w w1) (ht : Turn S w1 w2) (hs : ∀ i, S i → w.heap.size ≤ i) : Tp p w w2 :=
  ⟨ht.os.trans k.os, ht.tape.trans k.tape, ht.output.trans k.output, Nat.le_trans k.size ht.size, fun i hi hn => by
    rw [ht.block i (Nat.lt_of_lt_of_le hi k.size) (fun e => by have := hs i e; omega), k.block i hi hn]⟩
end Go.Proofs.YtffpdebjjcbenaaGreat

namespace Go.Proofs.YtffpdebjjcbenaaGreat
open Go.RowKit Go.Sort

theorem getD_snoc_lt {O : List Int} {a : Int} {i : Nat} (h : i < O.length) : (O ++ [a]).getD i 0 = O.getD i 0 := by
  simp [List.getD, List.getElem?_append_left h]
theorem getD_snoc_eq {O : List Int} {a : Int} : (O ++ [a]).getD O.length 0 = a := by simp [List.getD]
theorem nd_len : ∀ (xs ys : List Int), xs.Nodup → (∀ x ∈ xs, x ∈ ys) → xs.length ≤ ys.length
  | [], _, _, _ => Nat.zero_le _
  | x :: t, ys, hn, hs => by
    rw [List.nodup_cons] at hn
    have hx : x ∈ ys := hs x List.mem_cons_self
    have h1 := nd_len t (ys.erase x) hn.2 (fun y hy => (List.mem_erase_of_ne (show y ≠ x from fun e => hn.1 (by rw [← e]; exact hy))).2 (hs y (List.mem_cons_of_mem _ hy)))
    rw [List.length_erase_of_mem hx] at h1
    have := List.length_pos_of_mem hx
    rw [List.length_cons]; omega
end Go.Proofs.YtffpdebjjcbenaaGreat

namespace Go.Proofs.YtffpdebjjcbenaaGreat
open Go.RowKit Go.Sort

/-- What a client adds behind the first t ones of an order, summed over the places where it stands. -/
def mgT (ct : Nat → Int) (O : List Int) (j : Nat) : Nat → Int
  | 0 => 0
  | t + 1 => mgT ct O j t + (if O.getD t 0 = (j : Int) then ct (bagN (O.take (t + 1))) - ct (bagN (O.take t)) else 0)
theorem mgT_snoc (ct : Nat → Int) (O : List Int) (a : Int) (j : Nat) : ∀ t, t ≤ O.length → mgT ct (O ++ [a]) j t = mgT ct O j t
  | 0, _ => rfl
  | t + 1, h => by
    unfold mgT
    rw [mgT_snoc ct O a j t (by omega), getD_snoc_lt (by omega), List.take_append_of_le_length (by omega), List.take_append_of_le_length (by omega)]
theorem mgT_top (ct : Nat → Int) (O : List Int) (a : Int) (j : Nat) : mgT ct (O ++ [a]) j (O.length + 1) = mgT ct O j O.length + (if a = (j : Int) then ct (bagN (O ++ [a])) - ct (bagN O) else 0) := by
  show mgT ct (O ++ [a]) j O.length + _ = _
  rw [mgT_snoc ct O a j _ (Nat.le_refl _), getD_snoc_eq, List.take_of_length_le (by simp), List.take_append_of_le_length (Nat.le_refl _), List.take_length]
theorem mgT_none (ct : Nat → Int) (O : List Int) (j : Nat) (h : (j : Int) ∉ O) : ∀ t, t ≤ O.length → mgT ct O j t = 0
  | 0, _ => rfl
  | t + 1, ht => by
    unfold mgT
    rw [mgT_none ct O j h t (by omega), if_neg]
    · rfl
    · intro e
      have : O.getD t 0 = O[t] := by simp [List.getD, show t < O.length by omega]
      exact h (by rw [← e, this]; exact List.getElem_mem _)
/-- The sum of what all orders add that begin so. -/
def fsT (ct : Nat → Int) (n j : Nat) : Nat → List Int → Int
  | 0, O => mgT ct O j O.length
  | r + 1, O => sumTo (fun i => if (i : Int) ∈ O then 0 else fsT ct n j r (O ++ [(i : Int)])) n
def facT : Nat → Int
  | 0 => 1
  | r + 1 => (r + 1 : Nat) * facT r
/-- The number of these orders. -/
def cnT (n : Nat) : Nat → List Int → Int
  | 0, _ => 1
  | r + 1, O => sumTo (fun i => if (i : Int) ∈ O then 0 else cnT n r (O ++ [(i : Int)])) n
/-- An order of some of n. -/
structure Ord (n : Nat) (O : List Int) : Prop where
  nd : O.Nodup
  rg : ∀ x ∈ O, 0 ≤ x ∧ x < (n : Int)
theorem Ord.nil (n : Nat) : Ord n [] := ⟨List.nodup_nil, by simp⟩
theorem Ord.snoc {n : Nat} {O : List Int} (h : Ord n O) {i : Nat} (hi : i < n) (hn : (i : Int) ∉ O) : Ord n (O ++ [(i : Int)]) := by
  refine ⟨?_, fun x hx => ?_⟩
  · rw [List.nodup_append]
    refine ⟨h.nd, by simp, fun x hx y hy => ?_⟩
    rw [List.mem_singleton] at hy
    subst hy
    intro e; subst e; exact hn hx
  · rw [List.mem_append, List.mem_singleton] at hx
    rcases hx with h1 | rfl
    · exact h.rg x h1
    · omega
theorem Ord.len {n : Nat} {O : List Int} (h : Ord n O) : O.length ≤ n := by
  have hp := nd_len O ((List.range n).map (fun (i : Nat) => (i : Int))) h.nd (fun x hx => by
    have := h.rg x hx
    exact List.mem_map.2 ⟨x.toNat, List.mem_range.2 (by omega), by omega⟩)
  simpa using hp
theorem Ord.full {n : Nat} {O : List Int} (h : Ord n O) (hl : O.length = n) {j : Nat} (hj : j < n) : (j : Int) ∈ O := Classical.byContradiction (fun hn => by
  have := (h.snoc hj hn).len
  rw [List.length_append, List.length_singleton] at this
  omega)
/-- How many of the first n are so. -/
theorem cnt_mem {n : Nat} {O : List Int} (h : Ord n O) : sumTo (fun i => if (i : Int) ∈ O then 1 else 0) n = (O.length : Int) := by
  have key : ∀ (O : List Int), O.Nodup → (∀ x ∈ O, 0 ≤ x ∧ x < (n : Int)) → sumTo (fun i => if (i : Int) ∈ O then 1 else 0) n = (O.length : Int) := by
    intro O
    induction O with
    | nil => intro _ _; simp only [List.not_mem_nil, if_false]; rw [sumTo_c0]; rfl
    | cons x t ih =>
      intro hn hr
      rw [List.nodup_cons] at hn
      have hx := hr x List.mem_cons_self
      have e : ∀ i, i < n → (if (i : Int) ∈ x :: t then (1 : Int) else 0) = (if (i : Int) ∈ t then 1 else 0) + (if i = x.toNat then 1 else 0) := fun i hi => by
        by_cases e1 : (i : Int) = x
        · rw [if_pos (by rw [e1]; exact List.mem_cons_self), if_neg (by rw [e1]; exact hn.1), if_pos (by omega)]; rfl
        · rw [if_neg (show ¬ i = x.toNat by omega)]
          by_cases e2 : (i : Int) ∈ t
          · rw [if_pos (List.mem_cons_of_mem _ e2), if_pos e2]; rfl
          · rw [if_neg (by rw [List.mem_cons]; exact fun h => h.elim e1 e2), if_neg e2]; rfl
      rw [sumTo_congr e, sumTo_addf, ih hn.2 (fun y hy => hr y (List.mem_cons_of_mem _ hy)), sumTo_one (by omega)]
      rw [List.length_cons]; omega
  exact key O h.nd h.rg
theorem cnt_out {n : Nat} {O : List Int} (h : Ord n O) : sumTo (fun i => if (i : Int) ∈ O then 0 else 1) n = (n : Int) - (O.length : Int) := by
  have h1 := cnt_mem h
  have e : sumTo (fun i => (if (i : Int) ∈ O then (0 : Int) else 1) + (if (i : Int) ∈ O then 1 else 0)) n = (n : Int) := by
    rw [sumTo_congr (h := fun _ => 1) (fun i _ => by split <;> rfl)]
    exact sumTo_ones n
  rw [sumTo_addf, h1] at e
  omega
theorem cnT_eq {n : Nat} : ∀ (r : Nat) (O : List Int), Ord n O → O.length + r = n → cnT n r O = facT r
  | 0, _, _, _ => rfl
  | r + 1, O, h, hl => by
    unfold cnT
    have e : ∀ i, i < n → (if (i : Int) ∈ O then (0 : Int) else cnT n r (O ++ [(i : Int)])) = (if (i : Int) ∈ O then 0 else 1) * facT r := fun i hi => by
      by_cases hO : (i : Int) ∈ O
      · rw [if_pos hO, if_pos hO]; simp
      · rw [if_neg hO, if_neg hO, cnT_eq r _ (h.snoc hi hO) (by rw [List.length_append, List.length_singleton]; omega)]; simp
    rw [sumTo_congr e, sumTo_mulc, cnt_out h]
    show ((n : Int) - O.length) * facT r = ((r + 1 : Nat) : Int) * facT r
    congr 1; omega
/-- All of P is in C. -/
def subT (n P C : Nat) : Bool := (List.range n).all fun i => !P.testBit i || C.testBit i
theorem subT_iff {n P C : Nat} : subT n P C = true ↔ ∀ i, i < n → P.testBit i = true → C.testBit i = true := by
  unfold subT
  rw [List.all_eq_true]
  constructor
  · intro h i hi hp
    have := h i (List.mem_range.2 hi)
    rw [hp] at this
    simpa using this
  · intro h i hi
    have := h i (List.mem_range.1 hi)
    cases hp : P.testBit i
    · rfl
    · rw [this hp]; rfl
/-- How many are in C. -/
def pcT (n C : Nat) : Int := sumTo (fun i => if C.testBit i = true then 1 else 0) n
theorem pc_len (n C : Nat) : pcT n C = ((bitsL n C).length : Int) := by
  unfold pcT
  induction n with
  | zero => simp [sumTo_zero, bitsL, bitsN]
  | succ n ih =>
    rw [sumTo_succ, ih]
    by_cases h : C.testBit n = true
    · rw [if_pos h, bitsL_yes h, List.length_append]; simp
    · have h' : C.testBit n = false := by simpa using h
      rw [if_neg h, bitsL_no h']; simp
theorem pc_bag {n : Nat} {O : List Int} (h : Ord n O) : pcT n (bagN O) = (O.length : Int) := by
  rw [← cnt_mem h]
  exact sumTo_congr (fun i _ => by
    rw [bagN_bit (fun y hy => (h.rg y hy).1)]
    by_cases hO : (i : Int) ∈ O
    · rw [decide_eq_true hO, if_pos rfl, if_pos hO]
    · rw [decide_eq_false hO, if_neg (by decide), if_neg hO])
theorem pc_nn (n C : Nat) : 0 ≤ pcT n C := sumTo_nn (fun i _ => by split <;> omega)
theorem pc_le (n C : Nat) : pcT n C ≤ n := by
  have := sumTo_mono' (k := n) (g := fun i => if C.testBit i = true then 1 else 0) (h := fun _ => 1) (fun i _ => by split <;> omega)
  rw [sumTo_ones] at this
  exact this
theorem pc_diff {n P C : Nat} (h : subT n P C = true) : sumTo (fun i => if C.testBit i = true ∧ P.testBit i = false then 1 else 0) n = pcT n C - pcT n P := by
  unfold pcT
  rw [← sumTo_sub]
  refine sumTo_congr (fun i hi => ?_)
  have := subT_iff.1 h i hi
  cases hp : P.testBit i
  · cases hc : C.testBit i <;> simp
  · rw [this hp]; simp
theorem pc_eq {n P C : Nat} (h : subT n P C = true) (hP : P < 2 ^ n) (hC : C < 2 ^ n) (he : pcT n C = pcT n P) : C = P := by
  have hd := pc_diff h
  rw [he, Int.sub_self] at hd
  refine Nat.eq_of_testBit_eq (fun i => ?_)
  by_cases hi : i < n
  · cases hp : P.testBit i
    · cases hc : C.testBit i
      · rfl
      · have := sumTo_ge (g := fun i => if C.testBit i = true ∧ P.testBit i = false then (1 : Int) else 0) (a := i) (k := n) (fun i _ => by split <;> omega) hi
        rw [hd, if_pos ⟨hc, hp⟩] at this
        omega
    · exact subT_iff.1 h i hi hp
  · rw [Nat.testBit_lt_two_pow (Nat.lt_of_lt_of_le hC (Nat.pow_le_pow_right (by omega) (by omega))), Nat.testBit_lt_two_pow (Nat.lt_of_lt_of_le hP (Nat.pow_le_pow_right (by omega) (by omega)))]
/-- What client j adds to the set C. -/
def dlT (ct : Nat → Int) (j C : Nat) : Int := ct (C + 2 ^ j) - ct C
/-- The sum over all sets that hold P and not j. -/
def stT (ct : Nat → Int) (n j P : Nat) (p : Nat) : Int := sumTo (fun C => if subT n P C = true ∧ C.testBit j = false then facT ((bitsL n C).length - p) * facT (n - 1 - (bitsL n C).length) * dlT ct j C else 0) (2 ^ n)
theorem add_or {C j : Nat} (h : C.testBit j = false) : C + 2 ^ j = C ||| 2 ^ j := by
  have hp : 0 < 2 ^ j := Nat.two_pow_pos j
  obtain ⟨q, hq⟩ : ∃ q, q = C / 2 ^ j := ⟨_, rfl⟩
  obtain ⟨r, hr⟩ : ∃ r, r = C % 2 ^ j := ⟨_, rfl⟩
  have hC : C = 2 ^ j * q + r := by rw [hq, hr]; exact (Nat.div_add_mod C (2 ^ j)).symm
  have hrl : r < 2 ^ j := by rw [hr]; exact Nat.mod_lt _ hp
  have hq2 : q % 2 = 0 := by
    rw [Nat.testBit_eq_decide_div_mod_eq, decide_eq_false_iff_not, ← hq] at h
    omega
  obtain ⟨m, hm⟩ : ∃ m, q = 2 * m := ⟨q / 2, by omega⟩
  have e1 : 2 ^ j * q = 2 ^ (j + 1) * m := by rw [hm, Nat.pow_succ, Nat.mul_assoc]
  have e2 : 2 ^ j * (q + 1) = 2 ^ j * q ||| 2 ^ j := by
    rw [Nat.mul_add, Nat.mul_one, e1]
    exact Nat.two_pow_add_eq_or_of_lt (by rw [Nat.pow_succ]; omega) m
  have e3 : C + 2 ^ j = 2 ^ j * (q + 1) + r := by rw [hC, Nat.mul_add, Nat.mul_one]; omega
  rw [e3, Nat.two_pow_add_eq_or_of_lt hrl, e2, hC, Nat.two_pow_add_eq_or_of_lt hrl, Nat.or_assoc, Nat.or_assoc, Nat.or_comm r]
theorem bag_snoc {O : List Int} (a : Nat) : bagN (O ++ [(a : Int)]) = bagN O ||| 2 ^ a := by
  unfold bagN bagTo
  rw [List.foldl_append]
  simp
theorem sub_snoc {n C : Nat} {O : List Int} {i : Nat} (hi : i < n) : subT n (bagN (O ++ [(i : Int)])) C = true ↔ subT n (bagN O) C = true ∧ C.testBit i = true := by
  rw [subT_iff, subT_iff]
  constructor
  · intro h
    refine ⟨fun k hk hb => h k hk (by rw [bag_snoc, Nat.testBit_or, hb]; rfl), h i hi (by rw [bag_snoc, Nat.testBit_or, Nat.testBit_two_pow]; simp)⟩
  · rintro ⟨h1, h2⟩ k hk hb
    rw [bag_snoc, Nat.testBit_or, Nat.testBit_two_pow, Bool.or_eq_true, decide_eq_true_eq] at hb
    rcases hb with hb | rfl
    · exact h1 k hk hb
    · exact h2
theorem Ord.bag {n : Nat} {O : List Int} (h : Ord n O) : bagN O < 2 ^ n := bagN_lt (fun y hy => h.rg y hy)
theorem Ord.bit {n : Nat} {O : List Int} (h : Ord n O) (i : Nat) : (bagN O).testBit i = decide ((i : Int) ∈ O) := bagN_bit (fun y hy => (h.rg y hy).1) i
theorem fs_eq {ct : Nat → Int} {n j : Nat} (hj : j < n) : ∀ (r : Nat) (O : List Int), Ord n O → O.length + r = n → fsT ct n j r O = if (j : Int) ∈ O then facT r * mgT ct O j O.length else stT ct n j (bagN O) O.length
  | 0, O, h, hl => by rw [if_pos (h.full hl hj)]; show mgT ct O j O.length = 1 * _; omega
  | r + 1, O, h, hl => by
    unfold fsT
    have ih := fun (i : Nat) (hi : i < n) (hO : (i : Int) ∉ O) => fs_eq (ct := ct) hj r (O ++ [(i : Int)]) (h.snoc hi hO) (by rw [List.length_append, List.length_singleton]; omega)
    by_cases hjO : (j : Int) ∈ O
    · rw [if_pos hjO]
      have e : ∀ i, i < n → (if (i : Int) ∈ O then (0 : Int) else fsT ct n j r (O ++ [(i : Int)])) = (if (i : Int) ∈ O then 0 else 1) * (facT r * mgT ct O j O.length) := fun i hi => by
        by_cases hO : (i : Int) ∈ O
        · rw [if_pos hO, if_pos hO]; simp
        · rw [if_neg hO, if_neg hO, ih i hi hO, if_pos (List.mem_append_left _ hjO), List.length_append, List.length_singleton, mgT_top, if_neg (fun e => hO (by rw [e]; exact hjO))]; simp
      rw [sumTo_congr e, sumTo_mulc, cnt_out h]
      show ((n : Int) - O.length) * (facT r * _) = ((r + 1 : Nat) : Int) * facT r * _
      rw [Int.mul_assoc]
      congr 1; omega
    · rw [if_neg hjO]
      have hjb : (bagN O).testBit j = false := by rw [h.bit, decide_eq_false hjO]
      -- the client itself comes next, or another one
      have e : ∀ i, i < n → (if (i : Int) ∈ O then (0 : Int) else fsT ct n j r (O ++ [(i : Int)])) = (if i = j then facT r * dlT ct j (bagN O) else 0) + sumTo (fun C => if subT n (bagN O) C = true ∧ C.testBit j = false then (if C.testBit i = true ∧ (bagN O).testBit i = false then 1 else 0) * (facT ((bitsL n C).length - (O.length + 1)) * facT (n - 1 - (bitsL n C).length) * dlT ct j C) else 0) (2 ^ n) := fun i hi => by
        by_cases hO : (i : Int) ∈ O
        · rw [if_pos hO, if_neg (fun e => hjO (by rw [← e]; exact hO))]
          rw [sumTo_congr (h := fun _ => 0) (fun C _ => by
            rw [h.bit i, decide_eq_true hO]; simp), sumTo_c0]; rfl
        · rw [if_neg hO, ih i hi hO]
          have hib : (bagN O).testBit i = false := by rw [h.bit, decide_eq_false hO]
          by_cases hij : i = j
          · subst hij
            rw [if_pos (List.mem_append_right _ (List.mem_singleton.2 rfl)), if_pos rfl, List.length_append, List.length_singleton, mgT_top, if_pos rfl, mgT_none ct O i hO _ (Nat.le_refl _), bag_snoc, ← add_or hjb]
            rw [sumTo_congr (h := fun _ => 0) (fun C _ => by
              by_cases hc : C.testBit i = true
              · rw [if_neg (fun hh => by rw [hc] at hh; cases hh.2)]
              · by_cases h2 : subT n (bagN O) C = true ∧ C.testBit i = false
                · rw [if_pos h2, if_neg (fun hh => hc hh.1), Int.zero_mul]
                · rw [if_neg h2]), sumTo_c0]
            show facT r * (0 + dlT ct i (bagN O)) = _
            rw [Int.zero_add]; omega
          · have hjn : (j : Int) ∉ O ++ [(i : Int)] := fun hh => by
              rw [List.mem_append, List.mem_singleton] at hh
              rcases hh with hh | hh
              · exact hjO hh
              · omega
            rw [if_neg hjn, if_neg hij, Int.zero_add]
            unfold stT
            refine sumTo_congr (fun C _ => ?_)
            rw [List.length_append, List.length_singleton, hib]
            by_cases h1 : subT n (bagN O) C = true ∧ C.testBit j = false
            · rw [if_pos h1]
              by_cases h2 : C.testBit i = true
              · rw [if_pos ⟨(sub_snoc hi).2 ⟨h1.1, h2⟩, h1.2⟩, if_pos ⟨h2, rfl⟩, Int.one_mul]
              · rw [if_neg (fun hh => h2 ((sub_snoc hi).1 hh.1).2), if_neg (fun hh => h2 hh.1), Int.zero_mul]
            · rw [if_neg h1, if_neg (fun hh => h1 ⟨((sub_snoc hi).1 hh.1).1, hh.2⟩)]
      rw [sumTo_congr e, sumTo_addf, sumTo_swap]
      rw [sumTo_single (g := fun i => if i = j then facT r * dlT ct j (bagN O) else 0) hj (fun i _ hn => if_neg hn), if_pos rfl]
      -- every set is met once for each of its clients that is not in P
      have e2 : ∀ C, C < 2 ^ n → sumTo (fun i => if subT n (bagN O) C = true ∧ C.testBit j = false then (if C.testBit i = true ∧ (bagN O).testBit i = false then 1 else 0) * (facT ((bitsL n C).length - (O.length + 1)) * facT (n - 1 - (bitsL n C).length) * dlT ct j C) else 0) n = (if subT n (bagN O) C = true ∧ C.testBit j = false then facT ((bitsL n C).length - O.length) * facT (n - 1 - (bitsL n C).length) * dlT ct j C else 0) - (if C = bagN O then facT r * dlT ct j (bagN O) else 0) := fun C hC => by
        by_cases h1 : subT n (bagN O) C = true ∧ C.testBit j = false
        · have hd := pc_diff h1.1
          rw [pc_bag h, pc_len] at hd
          rw [sumTo_congr (h := fun i => (if C.testBit i = true ∧ (bagN O).testBit i = false then 1 else 0) * (facT ((bitsL n C).length - (O.length + 1)) * facT (n - 1 - (bitsL n C).length) * dlT ct j C)) (fun i _ => if_pos h1), sumTo_mulc, hd, if_pos h1]
          have hnn := sumTo_nn (g := fun i => if C.testBit i = true ∧ (bagN O).testBit i = false then (1 : Int) else 0) (k := n) (fun i _ => by split <;> omega)
          rw [hd] at hnn
          by_cases hCe : C = bagN O
          · have hlc : ((bitsL n C).length : Int) = O.length := by rw [← pc_len, hCe, pc_bag h]
            have hl2 : (bitsL n C).length = O.length := by omega
            rw [if_pos hCe, hl2, hCe, Nat.sub_self, show n - 1 - O.length = r by omega]
            show ((O.length : Int) - O.length) * _ = 1 * facT r * _ - _
            rw [Int.sub_self, Int.zero_mul, Int.one_mul, Int.sub_self]
          · have hne : (bitsL n C).length ≠ O.length := fun hh => hCe (pc_eq h1.1 h.bag hC (by rw [pc_bag h, pc_len, hh]))
            rw [if_neg hCe, Int.sub_zero]
            obtain ⟨d, hd2⟩ : ∃ d, (bitsL n C).length = O.length + (d + 1) := ⟨(bitsL n C).length - O.length - 1, by omega⟩
            rw [hd2, show O.length + (d + 1) - O.length = d + 1 by omega, show O.length + (d + 1) - (O.length + 1) = d by omega]
            show (((O.length + (d + 1) : Nat) : Int) - O.length) * (facT d * _ * _) = ((d + 1 : Nat) : Int) * facT d * _ * _
            rw [show ((O.length + (d + 1) : Nat) : Int) - O.length = ((d + 1 : Nat) : Int) by omega, Int.mul_assoc, Int.mul_assoc, Int.mul_assoc]
        · rw [if_neg h1, sumTo_congr (h := fun _ => 0) (fun i _ => if_neg h1), sumTo_c0, if_neg (fun hh => h1 ⟨by rw [hh]; exact subT_iff.2 (fun _ _ hb => hb), by rw [hh]; exact hjb⟩)]; rfl
      rw [sumTo_congr e2, sumTo_sub, sumTo_single (g := fun C => if C = bagN O then facT r * dlT ct j (bagN O) else 0) h.bag (fun i _ hn => if_neg hn), if_pos rfl]
      unfold stT
      omega
end Go.Proofs.YtffpdebjjcbenaaGreat

namespace Go.Proofs.YtffpdebjjcbenaaGreat
open Go.RowKit Go.Sort

theorem mapTo_set' {g : Nat → Int} {M a : Nat} {z : Int} : (mapTo g M).set a z = mapTo (upd g a z) M := by
  refine List.ext_getElem (by simp [mapTo]) (fun i h1 h2 => ?_)
  have hi : i < M := by simpa [mapTo] using h2
  rw [mapTo_get hi h2, List.getElem_set]
  by_cases e : a = i
  · subst e; rw [if_pos rfl, upd_at]
  · rw [if_neg e, mapTo_get hi, upd_ne (by omega)]
theorem mapTo_lget' {g : Nat → Int} {M a : Nat} (h : a < M) : lget (mapTo g M) a = g a := by
  rw [lget_at (by rw [mapTo_len]; exact h), mapTo_get h]
theorem mapTo_congr' {g h : Nat → Int} {M : Nat} (e : ∀ a, a < M → g a = h a) : mapTo g M = mapTo h M := by
  unfold mapTo
  exact List.map_congr_left (fun a ha => e a (List.mem_range.1 ha))
def amT (ct : Nat → Int) (t0 : Nat → Int) (O : List Int) (k j : Nat) : Int := t0 j + mgT ct O j k
theorem amT_zero (ct : Nat → Int) (t0 : Nat → Int) (O : List Int) : amT ct t0 O 0 = t0 := by funext j; unfold amT mgT; omega
theorem amT_step (ct : Nat → Int) (t0 : Nat → Int) (O : List Int) {k o : Nat} (hk : k < O.length) (ho : O[k] = (o : Int)) (j : Nat) : amT ct t0 O (k + 1) j = upd (amT ct t0 O k) o (amT ct t0 O k o + (ct (bagN (O.take (k + 1))) - ct (bagN (O.take k)))) j := by
  have e : O.getD k 0 = (o : Int) := by rw [← ho]; simp [List.getD, hk]
  unfold amT
  show t0 j + (mgT ct O j k + _) = _
  rw [e]
  by_cases h : j = o
  · subst h; rw [upd_at, if_pos rfl]; omega
  · rw [upd_ne h, if_neg (by omega)]; omega
theorem mgT_bd {ct : Nat → Int} {n : Nat} {O : List Int} (h : Ord n O) (hct : ∀ c, c < 2 ^ n → 0 ≤ ct c ∧ ct c ≤ 1386) (j : Nat) : ∀ t, t ≤ O.length → -(1386 * (t : Int)) ≤ mgT ct O j t ∧ mgT ct O j t ≤ 1386 * (t : Int)
  | 0, _ => by unfold mgT; omega
  | t + 1, ht => by
    have ih := mgT_bd h hct j t (by omega)
    have b1 := hct (bagN (O.take (t + 1))) (bagN_lt (fun y hy => h.rg y (List.mem_of_mem_take hy)))
    have b2 := hct (bagN (O.take t)) (bagN_lt (fun y hy => h.rg y (List.mem_of_mem_take hy)))
    unfold mgT
    split <;> omega
end Go.Proofs.YtffpdebjjcbenaaGreat

namespace Go.Proofs.YtffpdebjjcbenaaGreat
open Go.RowKit Go.Sort Go.Shelf

theorem turn_put {w : World} {g q : Nat} (d : Array Int) (os : Array Obj) : Turn (fun i => i = g) w (grow (putRow (Value.int .i64) (Sort.ahead w q) g 0 d) os) :=
  ⟨rfl, rfl, rfl, by simp, fun i hi hn => by
    rw [heap_grow_old _ _ (by simpa using hi)]
    simp [putRow, mapBlock, Sort.ahead, Array.getElem?_modify, Ne.symm hn]⟩
theorem own_put {w : World} {base g cap q : Nat} {xs ys : List Int} (h : Own w base (.slice (some ⟨g, 0, none⟩) xs.length cap) xs) (hy : ys.length = xs.length) (os : Array Obj) :
    Own (grow (putRow (Value.int .i64) (Sort.ahead w q) g 0 ys.toArray) os) base (.slice (some ⟨g, 0, none⟩) xs.length cap) ys := by
  have h3 := Lib.ownsRow_putRow (q := q) (k := xs.length) (ys := ys) h hy (Nat.le_refl _)
  rw [List.take_of_length_le (by omega)] at h3
  have h4 := Lib.ownsRow_grow h3 0 os
  unfold Own
  rw [hy]
  exact h4
theorem own_holds {w : World} {base g cap : Nat} {xs : List Int} (h : Own w base (.slice (some ⟨g, 0, none⟩) xs.length cap) xs) : Holds (Value.int .i64) w g 0 xs.toArray ∧ g < w.heap.size := by
  obtain ⟨g2, cap2, e2, _, hlt, _, _, _, hH⟩ := Lib.holds_of_ownsRow h (by simp)
  simp only [Value.slice.injEq, Option.some.injEq, Addr.mk.injEq] at e2
  obtain ⟨⟨rfl, _, _⟩, _, rfl⟩ := e2
  exact ⟨hH, hlt⟩
end Go.Proofs.YtffpdebjjcbenaaGreat

namespace Go.Proofs.YtffpdebjjcbenaaGreat
open Go.RowKit Go.Sort Go.Shelf

attribute [local go_sem] Oper.semAt_some

theorem lt_some2 {w : World} {p : Addr} (h : (w.cell? p).isSome = true) : p.block < w.heap.size := by
  obtain ⟨v, e⟩ := Option.isSome_iff_exists.1 h
  exact World.block_lt_of_cell? _ _ e
set_option maxRecDepth 100000 in
set_option maxHeartbeats 4000000 in
/-- What has come when k rounds are over. -/
def uptoL (zs : List Int) (k : Nat) : List Int := zs.take k
theorem uptoL_succ {zs : List Int} {k : Nat} (h : k < zs.length) : uptoL zs (k + 1) = uptoL zs k ++ [zs[k]?.getD 0] := by
  unfold uptoL
  rw [List.take_succ_eq_append_getElem h]
  simp [h]
theorem uptoL_len {zs : List Int} {k : Nat} (h : k ≤ zs.length) : (uptoL zs k).length = k := by simp [uptoL, h]

def srtL (xs : List Int) : List Int := xs.mergeSort fun x y => decide (x ≤ y)
end Go.Proofs.YtffpdebjjcbenaaGreat

namespace Go.Proofs.YtffpdebjjcbenaaGreat
open Go.RowKit Go.Sort

def ordB (n : Nat) (xs : List Int) : Bool := decide (xs.length = n) && (List.range n).all fun j => xs.any fun x => x == (j : Int)
theorem perm_of : ∀ (L xs : List Int), L.Nodup → (∀ x ∈ L, x ∈ xs) → xs.length ≤ L.length → L.Perm xs
  | [], xs, _, _, hl => by
    have : xs = [] := List.eq_nil_of_length_eq_zero (by simpa using hl)
    rw [this]
  | x :: t, xs, hn, hs, hl => by
    rw [List.nodup_cons] at hn
    have hx : x ∈ xs := hs x List.mem_cons_self
    have hp := List.length_pos_of_mem hx
    have h1 := perm_of t (xs.erase x) hn.2 (fun y hy => (List.mem_erase_of_ne (show y ≠ x from fun e => hn.1 (by rw [← e]; exact hy))).2 (hs y (List.mem_cons_of_mem _ hy))) (by rw [List.length_erase_of_mem hx]; rw [List.length_cons] at hl; omega)
    exact (h1.cons x).trans (List.perm_cons_erase hx).symm
theorem any_mem {xs : List Int} {j : Int} : (xs.any fun x => x == j) = true ↔ j ∈ xs := by
  rw [List.any_eq_true]
  exact ⟨fun ⟨x, hx, e⟩ => (eq_of_beq e) ▸ hx, fun h => ⟨_, h, by simp⟩⟩
theorem ordB_iff {n : Nat} {xs : List Int} : ordB n xs = true ↔ Ord n xs ∧ xs.length = n := by
  unfold ordB
  rw [Bool.and_eq_true, decide_eq_true_eq, List.all_eq_true]
  constructor
  · rintro ⟨h1, h2⟩
    have hs : ∀ x ∈ (List.range n).map (fun (i : Nat) => (i : Int)), x ∈ xs := fun x hx => by
      obtain ⟨i, hi, rfl⟩ := List.mem_map.1 hx
      exact any_mem.1 (h2 i hi)
    have hnd : ((List.range n).map (fun (i : Nat) => (i : Int))).Nodup := by
      show List.Pairwise (· ≠ ·) _
      rw [List.pairwise_map]
      exact List.pairwise_lt_range.imp (fun h => by omega)
    have hp := perm_of _ xs hnd hs (by simp [h1])
    refine ⟨⟨hp.nodup_iff.1 hnd, fun x hx => ?_⟩, h1⟩
    obtain ⟨i, hi, rfl⟩ := List.mem_map.1 (hp.mem_iff.2 hx)
    have := List.mem_range.1 hi
    omega
  · rintro ⟨h1, h2⟩
    exact ⟨h2, fun j hj => any_mem.2 (h1.full h2 (List.mem_range.1 hj))⟩
theorem srtL_len (xs : List Int) : (srtL xs).length = xs.length := by unfold srtL; simp
theorem srtL_mem {xs : List Int} {x : Int} : x ∈ srtL xs ↔ x ∈ xs := (List.mergeSort_perm xs _).mem_iff
theorem ris_ord {n : Nat} {xs : List Int} (hl : xs.length = n) : risB (srtL xs) 0 ((n : Int) - 1) = ordB n xs := by
  rw [Bool.eq_iff_iff, ris_iff, ordB_iff]
  constructor
  · rintro ⟨h1, h2⟩
    have hn : (srtL xs).Nodup := h1.imp (fun h => by omega)
    refine ⟨⟨(List.mergeSort_perm xs _).nodup_iff.1 hn, fun x hx => ?_⟩, hl⟩
    have := h2 x (srtL_mem.2 hx)
    omega
  · rintro ⟨h1, _⟩
    have hs : (srtL xs).Pairwise (fun a b => decide (a ≤ b) = true) := List.pairwise_mergeSort (fun a b c h1 h2 => by simp at h1 h2 ⊢; omega) (fun a b => by simp; omega) xs
    have hn : (srtL xs).Nodup := (List.mergeSort_perm xs _).nodup_iff.2 h1.nd
    refine ⟨(hs.and hn).imp (fun hab => by have h1 := hab.1; have h2 := hab.2; simp at h1; omega), fun x hx => ?_⟩
    have := h1.rg x (srtL_mem.1 hx)
    omega
theorem ordB_len {n : Nat} {xs : List Int} (h : xs.length ≠ n) : ordB n xs = false := by
  unfold ordB
  rw [decide_eq_false h, Bool.false_and]
theorem all_to {p : Nat → Bool} {k : Nat} : (List.range (k + 1)).all p = ((List.range k).all p && p k) := by
  rw [List.range_succ, List.all_append]; simp
set_option maxRecDepth 100000 in
set_option maxHeartbeats 1000000 in
theorem l9Order_any (f : Value) (F : Fld) (A0 : Option Addr) (xs : List Int) (m c0 : Nat) (w : World) (hf : FldAt w f F) (hx : IntsAt w A0 xs) (hm : xs.length = m) (hn7 : F.di.length ≤ 1000) :
    Calls Tryz.prog 71 #[f, .slice A0 m c0] w fun e w' => e = .returned (.bool (ordB F.di.length xs)) ∧ Kp w w' := by
  obtain ⟨A, c, B, d, rfl, hA, hB⟩ := hf
  have hk0 : Kp w (w.alloc (.cells #[.slice A F.op.length c, .slice B F.di.length d] 27)) := (Kp.refl w).alloc _
  obtain ⟨d0, d1⟩ := box2 w (.slice A F.op.length c) (.slice B F.di.length d) 27
  have hFA := FldAt.kp (show FldAt w (.agg #[.slice A F.op.length c, .slice B F.di.length d]) F from ⟨A, c, B, d, rfl, hA, hB⟩) hk0
  have hx0 := hx.kp hk0
  have Hm := Lib.hid hm
  clear hA hB hx hm hFA
  go_enter Tryz.func71, Tryz.ntmps71
  go_wp2_with fail
  have hsz : Hid ((w.alloc (.cells #[.slice A F.op.length c, .slice B F.di.length d] 27)).heap.size = w.heap.size + 1) := by show _ = _; simp
  generalize w.alloc (.cells #[.slice A F.op.length c, .slice B F.di.length d] 27) = wb at *
  have hkb : Kp wb wb := Kp.refl _
  have hkw := hk0
  obtain ⟨wl, rfl⟩ : ∃ wl : World, wl = wb := ⟨_, rfl⟩
  go_loopw [5] (fun iv wr => ∃ j : Nat, j ≤ F.di.length ∧ iv = .int .i64 j ∧ wr = wl ∧ Hid ((List.range j).all (fun j => xs.any fun x => x == (j : Int)) = true)) (fun iv _ => F.di.length - (intOf iv).toNat)
  case atStart => exact ⟨0, by omega, rfl, rfl, rfl⟩
  case round =>
    obtain ⟨j, hj, rfl, rfl, Hal⟩ := hrel
    by_cases hlt : j < F.di.length
    · have CC := Lib.hid (l1Has_any A0 xs m c0 (j : Int) wr hx0 Hm.out)
      go_wp2_with fail
      with_reducible refine Calls.mono CC.out ?_
      rintro e w5 ⟨rfl, hw5⟩
      obtain rfl := hw5
      clear CC
      cases hh : xs.any fun x => x == (j : Int)
      · have Hno : Hid (ordB F.di.length xs = false) := by
          show _ = _
          cases ho : ordB F.di.length xs
          · rfl
          · obtain ⟨h1, h2⟩ := ordB_iff.1 ho
            rw [any_mem.2 (h1.full h2 hlt)] at hh; cases hh
        clear hh
        go_wp2_with fail
        go_ret
        exact ⟨by rw [Hno.out]; rfl, hkw⟩
      · have Hal2 : Hid ((List.range (j + 1)).all (fun j => xs.any fun x => x == (j : Int)) = true) := by show _ = _; rw [all_to, Hal.out, hh]; rfl
        clear hh
        go_wp2_with fail
        go_roundw
        case rel => exact ⟨j + 1, by omega, by go_num, trivial, Hal2⟩
        case measure => simp [intOf]; omega
    · obtain rfl : j = F.di.length := by omega
      have Hy : Hid (ordB F.di.length xs = ((m : Int) == (F.di.length : Int))) := by
        show _ = _
        unfold ordB
        rw [Hal.out, Bool.and_true, Hm.out, Bool.eq_iff_iff, decide_eq_true_eq, beq_iff_eq]
        omega
      go_wp2_with fail
      go_ret
      exact ⟨by rw [Hy.out]; rfl, hkw⟩
end Go.Proofs.YtffpdebjjcbenaaGreat

namespace Go.Proofs.YtffpdebjjcbenaaGreat
open Go.RowKit Go.Sort

def msOk (F : Fld) (O : List Int) : Bool := goodF F && ordB F.di.length O
def msL (F : Fld) (O : List Int) : List Int := if msOk F O = true then mapTo (amT (ctF F) (fun _ => 0) O O.length) F.di.length else []
theorem msL_yes {F : Fld} {O : List Int} (h : msOk F O = true) : msL F O = mapTo (amT (ctF F) (fun _ => 0) O O.length) F.di.length := if_pos h
theorem msL_no {F : Fld} {O : List Int} (h : msOk F O = false) : msL F O = [] := if_neg (by simp [h])
theorem msL_len (F : Fld) (O : List Int) : (msL F O).length ≤ 1048576 := by
  cases h : msOk F O
  · rw [msL_no h]; simp
  · rw [msL_yes h, mapTo_len]
    unfold msOk at h
    rw [Bool.and_eq_true] at h
    have := (goodF_iff.1 h.1).2.2.1
    omega
theorem ct_bd {F : Fld} (h : goodF F = true) (c : Nat) : 0 ≤ ctF F c ∧ ctF F c ≤ 1386 := cost_bd h (bitsL_crowd F c)
theorem zeros_map (n : Nat) : List.replicate n (0 : Int) = mapTo (fun _ => 0) n := by
  unfold mapTo
  rw [List.map_const', List.length_range]
theorem ms_nums {s T q P : Nat} (hbn : q = s + T) (hnb : q < P) (hpw : P ≤ 128) : wrap64 (T : Int) = (T : Int) ∧ wrap64 ((s : Int) + (T : Int)) = (q : Int) := by
  subst hbn
  exact ⟨IntWalk.wrap64_in _ (by omega), by rw [IntWalk.wrap64_in _ (by omega)]; omega⟩
theorem ms_sub {a b : Int} (h1 : 0 ≤ a ∧ a ≤ 1386) (h2 : 0 ≤ b ∧ b ≤ 1386) : IntKind.i64.wrap (b - a) = b - a ∧ wrap64 (b - a) = b - a := ⟨IntWalk.i64_in _ (by omega), IntWalk.wrap64_in _ (by omega)⟩
theorem mgT_zero (ct : Nat → Int) (O : List Int) (j : Nat) : ∀ k, (∀ t, t < k → O.getD t 0 ≠ (j : Int)) → mgT ct O j k = 0
  | 0, _ => rfl
  | k + 1, h => by
    unfold mgT
    rw [mgT_zero ct O j k (fun t ht => h t (by omega)), if_neg (h k (by omega))]
    rfl
set_option maxRecDepth 100000 in
set_option maxHeartbeats 2000000 in
theorem specMs_any (f : Value) (F : Fld) (A1 : Option Addr) (O : List Int) (m c1 : Nat) (w : World) (hf : FldAt w f F) (h1 : IntsAt w A1 O) (hm : O.length = m) :
    Calls Tryz.prog 47 #[f, .slice A1 m c1] w fun e w' => ∃ v, e = .returned (.tuple #[v, .bool (msOk F O)]) ∧ Own w' w.heap.size v (msL F O) ∧ Kp w w' := by
  obtain ⟨A, c, B, d, rfl, hA, hB⟩ := hf
  have hk0 : Kp w (w.alloc (.cells #[.slice A F.op.length c, .slice B F.di.length d] 27)) := (Kp.refl w).alloc _
  obtain ⟨d0, d1⟩ := box2 w (.slice A F.op.length c) (.slice B F.di.length d) 27
  have hFA := FldAt.kp (show FldAt w (.agg #[.slice A F.op.length c, .slice B F.di.length d]) F from ⟨A, c, B, d, rfl, hA, hB⟩) hk0
  have h10 := h1.kp hk0
  have Hm := Lib.hid hm
  clear hA hB h1 hm
  go_enter Tryz.func47, Tryz.ntmps47
  go_wp2_with fail
  have hsz : Hid ((w.alloc (.cells #[.slice A F.op.length c, .slice B F.di.length d] 27)).heap.size = w.heap.size + 1) := by show _ = _; simp
  generalize w.alloc (.cells #[.slice A F.op.length c, .slice B F.di.length d] 27) = wb at *
  have hkb : Kp wb wb := Kp.refl _
  have hkw := hk0
  have CC := Lib.hid (l2Good_any _ F _ (hFA.kp hkb))
  with_reducible refine Calls.mono CC.out ?_
  rintro e w1 ⟨rfl, hk1⟩
  clear CC
  replace hkb := hkb.trans hk1
  cases hg_ : goodF F
  · have Hno : Hid (msOk F O = false) := by show _ = _; rw [msOk, hg_]; rfl
    clear hg_
    have hle := (hkw.trans hkb).le
    have q_d0 := hkb.get d0
    have q_d1 := hkb.get d1
    go_wp2_with fail
    go_ret2
    exact ⟨_, by rw [Hno.out]; rfl, by rw [msL_no Hno.out]; exact own_new0 _ _ hle, (hkw.trans hkb).alloc _⟩
  have HG := Lib.hid hg_; clear hg_
  have h7 := (goodF_iff.1 HG.out).2.2.1
  have q_d0 := hkb.get d0
  have q_d1 := hkb.get d1
  go_wp2_with fail
  have CC := Lib.hid (l9Order_any _ F A1 O m c1 w1 (hFA.kp hkb) (h10.kp hkb) Hm.out (by omega))
  with_reducible refine Calls.mono CC.out ?_
  rintro e w2 ⟨rfl, hk2⟩
  clear CC q_d0 q_d1
  replace hkb := hkb.trans hk2
  cases ho_ : ordB F.di.length O
  · have Hno : Hid (msOk F O = false) := by show _ = _; rw [msOk, ho_]; simp
    clear ho_
    have hle := (hkw.trans hkb).le
    have q_d0 := hkb.get d0
    have q_d1 := hkb.get d1
    go_wp2_with fail
    go_ret2
    exact ⟨_, by rw [Hno.out]; rfl, by rw [msL_no Hno.out]; exact own_new0 _ _ hle, (hkw.trans hkb).alloc _⟩
  have Hok : Hid (msOk F O = true) := by show _ = _; rw [msOk, HG.out, ho_]; rfl
  have HO := Lib.hid (ordB_iff.1 ho_)
  clear ho_
  obtain rfl : m = F.di.length := by rw [← Hm.out]; exact HO.out.2
  have hmk := run_make_row' (P := Tryz.prog) 24 3 (.int .i64 0) 8 Tryz.underlying24 infoInt rfl .i64 .i64 F.di.length (by omega) (by omega)
  have hom := own_made w2 w2.heap.size F.di.length (Nat.le_refl _) (by omega)
  have hkm := (Kp.refl w2).alloc (.cells (madeCells #[.int .i64 0] F.di.length) 3)
  have hkn := hkb.trans hkm
  have y0 := hkn.get d0
  have y1 := hkn.get d1
  have q_d0 := hkb.get d0
  have q_d1 := hkb.get d1
  go_wp2_with fail
  generalize w2.alloc (.cells (madeCells #[.int .i64 0] F.di.length) 3) = wm at *
  have CC := Lib.hid (l9Table_any _ F wm (hFA.kp hkn) HG.out)
  with_reducible refine Calls.mono CC.out ?_
  rintro e w3 ⟨v, rfl, hov, hk3⟩
  clear q_d0 q_d1
  clear CC y0 y1
  have hml := mapTo_len (ctF F) (2 ^ F.di.length)
  obtain ⟨gv, cv, rfl⟩ := hov.at0 hml (Nat.two_pow_pos _)
  have hpw : 2 ^ F.di.length ≤ 128 := Nat.pow_le_pow_right (by omega) h7
  have hiv := hov.intsOf (by rw [hml]; omega)
  have hgv := (hov.lt gv rfl).1
  have hgm := (hom.lt w2.heap.size rfl).2
  have hw2 := hkm.le
  have ho3 := hom.kp hk3
  rw [zeros_map] at ho3
  have HA1 := Lib.hid (fun (ad : Addr) (e : A1 = some ad) (hne : O ≠ []) => (show ad.block ≠ w2.heap.size from by
    have h1i := h10.kp hkb
    obtain ⟨ad', e', hc⟩ := h1i.at_ (k := 0) (List.length_pos_iff.2 hne)
    rw [e] at e'
    obtain rfl : ad = ad' := by simpa using e'
    have := World.block_lt_of_cell? _ _ hc
    rw [show (ad.add 0).block = ad.block from rfl] at this
    omega))
  have h13 := h10.kp (hkn.trans hk3)
  have hk23 : Kp w2 w3 := hkm.trans hk3
  obtain ⟨G, HGe⟩ : ∃ g, Hid (w2.heap.size = g) := ⟨_, Lib.hid rfl⟩
  rw [HGe.out] at ho3 HA1 hgm hw2
  obtain ⟨P, HPe⟩ : ∃ p, Hid (2 ^ F.di.length = p) := ⟨_, Lib.hid rfl⟩
  rw [HPe.out] at hiv hpw
  have hgG : gv ≠ G := by omega
  rw [show (⟨w2.heap.size, 0, none⟩ : Addr) = ⟨G, 0, none⟩ by rw [HGe.out]]
  rw [HPe.out]
  clear hov hom hmk hgv hgm hw2 hml
  obtain ⟨wl, rfl⟩ : ∃ wl : World, wl = w3 := ⟨_, rfl⟩
  go_wp2_with fail
  go_loopw [8, 9] (fun sv iv wr => ∃ k : Nat, k ≤ F.di.length ∧ iv = .int .i64 k ∧ sv = .int .i64 (bagN (O.take k) : Int) ∧ Own wr G (.slice (some ⟨G, 0, none⟩) F.di.length F.di.length) (mapTo (amT (ctF F) (fun _ => 0) O k) F.di.length) ∧ Turn (fun i => i = G) wl wr) (fun _ iv _ => F.di.length - (intOf iv).toNat)
  case atStart => exact ⟨0, by omega, rfl, rfl, by rw [amT_zero]; exact ho3, Turn.refl _ _⟩
  case round =>
    clear ho3
    obtain ⟨k, hk, rfl, rfl, hown, htn⟩ := hrel
    have h1r := h13.turn htn (fun ad e hne hb => HA1.out ad e hne hb)
    by_cases hlt : k < F.di.length
    · have lx : k < O.length := by rw [Hm.out]; exact hlt
      obtain ⟨ad1, rfl, hck⟩ := h1r.at_ lx
      have hrg := HO.out.1.rg _ (List.getElem_mem lx)
      obtain ⟨o, ho⟩ : ∃ o : Nat, O[k] = (o : Int) := ⟨O[k].toNat, by omega⟩
      have Ho := Lib.hid ho
      rw [ho] at hck hrg
      have hon : o < F.di.length := by omega
      have hnew : ∀ t, t < k → O.getD t 0 ≠ (o : Int) := fun t ht e => by
        have e1 : O.getD t 0 = O[t] := by simp [List.getD, show t < O.length by omega]
        rw [e1, ← Ho.out] at e
        have := (List.getElem_inj HO.out.1.nd).1 e
        omega
      have hz := mgT_zero (ctF F) O o k hnew
      have hbit : (bagN (O.take k)).testBit o = false := by
        rw [bagN_bit (fun y hy => (HO.out.1.rg y (List.mem_of_mem_take hy)).1), decide_eq_false_iff_not]
        intro hin
        obtain ⟨t, ht, e⟩ := List.getElem_of_mem hin
        rw [List.length_take] at ht
        rw [List.getElem_take] at e
        refine hnew t (by omega) ?_
        rw [← e]; simp [List.getD, show t < O.length by omega]
      have hsb : bagN (O.take k) < 2 ^ F.di.length := bagN_lt (fun y hy => HO.out.1.rg y (List.mem_of_mem_take hy))
      have hnb : bagN (O.take (k + 1)) < 2 ^ F.di.length := bagN_lt (fun y hy => HO.out.1.rg y (List.mem_of_mem_take hy))
      have hadd := add_or hbit
      have hbn := bag_next lx
      rw [ho, Int.toNat_natCast, ← hadd] at hbn
      rw [HPe.out] at hsb hnb
      obtain ⟨s, Hs⟩ : ∃ z, Hid (bagN (O.take k) = z) := ⟨_, Lib.hid rfl⟩
      obtain ⟨q, Hq⟩ : ∃ z, Hid (bagN (O.take (k + 1)) = z) := ⟨_, Lib.hid rfl⟩
      rw [Hs.out] at hsb hbn ⊢
      rw [Hq.out] at hnb hbn
      have hbs := ct_bd HG.out s
      have hbq := ct_bd HG.out q
      obtain ⟨T, HT⟩ : ∃ z, Hid (2 ^ o = z) := ⟨_, Lib.hid rfl⟩
      rw [HT.out] at hbn
      have hsh : wrap64 (2 ^ o) = (T : Int) := by
        rw [show (2 : Int) ^ o = ((2 ^ o : Nat) : Int) by simp, HT.out]
        exact (ms_nums hbn hnb hpw).1
      have hsh2 : IntKind.i64.wrap (2 ^ o) = (T : Int) := (IntWalk.i64_left _).trans hsh
      have hsm : wrap64 ((s : Int) + (T : Int)) = (q : Int) := (ms_nums hbn hnb hpw).2
      have hsm2 : IntKind.i64.wrap ((s : Int) + (T : Int)) = (q : Int) := (IntWalk.i64_left _).trans hsm
      obtain ⟨r1, r2, r3⟩ := hown.slotL (mapTo_len _ _) hon
      obtain ⟨cs, Hcs⟩ : ∃ z, Hid (ctF F s = z) := ⟨_, Lib.hid rfl⟩
      obtain ⟨cq, Hcq⟩ : ∃ z, Hid (ctF F q = z) := ⟨_, Lib.hid rfl⟩
      rw [Hcs.out] at hbs
      rw [Hcq.out] at hbq
      have h0r := hiv.turn htn (fun ad e _ hb => hgG (by cases e; exact hb))
      obtain ⟨ad0, e0, hcs⟩ := h0r.at_ (k := s) (by rw [mapTo_len]; exact hsb)
      obtain rfl : (⟨gv, 0, none⟩ : Addr) = ad0 := by simpa using e0
      rw [mapTo_get hsb, Hcs.out] at hcs
      obtain ⟨ad0', e0', hcq⟩ := h0r.at_ (k := q) (by rw [mapTo_len]; exact hnb)
      obtain rfl : (⟨gv, 0, none⟩ : Addr) = ad0' := by simpa using e0'
      rw [mapTo_get hnb, Hcq.out] at hcq
      have hst := r3 (cq - cs)
      obtain ⟨hw1, hw3⟩ := ms_sub hbs hbq
      have ad_o : (⟨G, 0, none⟩ : Addr).add o = ⟨G, o, none⟩ := add0 _ _
      have ad_s : (⟨gv, 0, none⟩ : Addr).add s = ⟨gv, s, none⟩ := add0 _ _
      have ad_q : (⟨gv, 0, none⟩ : Addr).add q = ⟨gv, q, none⟩ := add0 _ _
      rw [ad_s] at hcs
      rw [ad_q] at hcq
      have HN : Hid ((mapTo (amT (ctF F) (fun _ => 0) O k) F.di.length).set o (cq - cs) = mapTo (amT (ctF F) (fun _ => 0) O (k + 1)) F.di.length) := by
        show _ = _
        rw [mapTo_set']
        refine mapTo_congr' (fun j _ => ?_)
        rw [amT_step (ctF F) (fun _ => 0) O lx Ho.out j, Hq.out, Hs.out, Hcq.out, Hcs.out]
        have : amT (ctF F) (fun _ => 0) O k o = 0 := by unfold amT; rw [hz]; rfl
        rw [this, Int.zero_add]
      have HST := Lib.hid hst
      rw [HN.out] at HST
      have e8 : ((o : Int)).toNat = o := Int.toNat_natCast o
      have hsI : (s : Int) < (P : Int) := Int.ofNat_lt.2 hsb
      have hqI : (q : Int) < (P : Int) := Int.ofNat_lt.2 hnb
      have honI : (o : Int) < (F.di.length : Int) := Int.ofNat_lt.2 hon
      clear r3 hst e0 e0' h0r h1r hown ho hz hbit hnew hadd hbn
      go_wp2_with fail
      go_still_tail 15, (by kernel_rfl)
      change wpList _ _ _ _ _ _
      go_wp2_with fail
      go_roundw
      case rel => exact ⟨k + 1, by omega, by go_num, by rw [Hq.out], HST.out.1.kp (Kp.refl _).drew, (htn.trans HST.out.2).trans (Turn.of_kp (Kp.refl _).drew)⟩
      case measure => simp [intOf]; omega
    · obtain rfl : k = F.di.length := by omega
      go_wp2_with fail
      go_ret2
      have hk4 : Kp w2 wr := hk23.turn htn (fun i e => by have := HGe.out; omega)
      refine ⟨_, by rw [Hok.out]; rfl, ?_, (hkw.trans hkb).trans hk4⟩
      rw [msL_yes Hok.out, HO.out.2]
      exact hown.mono (by have := (hkw.trans hkb).le; have := HGe.out; omega)
end Go.Proofs.YtffpdebjjcbenaaGreat

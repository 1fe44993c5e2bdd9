/- RoomReach: the lengths, each once, in ascending order; both ways of making the list; slices.Sort and slices.Reverse of a slice of numbers of the call's own: laid (by layp.py), and what they leave; l1Put: the reference's walk; slices.Compact of a slice of numbers of the call's own: laid (by layp.py), and what it leaves; slices.Sort where the slice may be nil; slices.Grow of nil, slices.Concat; The library's striking out of rows of a slice, at this program; slices.DeleteFunc of rows of the call's own: the rows of which something is so are struck out; RoomReach: the program's helpers: which k, all lengths, sets of at most k sites. No condition. -/
import Derived.Test.YtpiijhfjliolfaaGreatQAw
import Derived.Test.YtpiijhfjliolfaaGreatQAf
import Derived.Test.YtpiijhfjliolfaaGreatQAc
import Derived.Test.YtpiijhfjliolfaaGreatQAa
import Derived.Shelf.Sort.Plain
import Derived.Shelf.Slices.Reverse
import Derived.Lib.OwnBridge
import Derived.Lib.AppendIntMem
import Derived.Deep.RegionHeld3
import Derived.Shelf.Slices.CompactI
import Derived.Shelf.Slices.In.SortNone
import Derived.Test.YtpiijhfjliolfaaGreatQAb
import Derived.Lib.AppendZerosOnto
import Derived.Lib.AppendZeros
import Derived.Test.YtpiijhfjliolfaaGreatQAd
import Derived.Shelf.SlicesE.DeleteFunc
import Derived.Test.YtpiijhfjliolfaaGreatQAh
namespace Go.Proofs.YtpiijhfjliolfaaGreat
open Go.RowKit Go.Sort

/-- All numbers of a list, each once, as the reference puts them in. -/
def putAllL (xs : List Int) : List Int := xs.foldl putL []
theorem putFold_mem : ∀ (xs S : List Int) (x : Int), x ∈ xs.foldl putL S ↔ x ∈ S ∨ x ∈ xs
  | [], S, x => by simp
  | y :: t, S, x => by
    rw [List.foldl_cons, putFold_mem t, mem_putL]
    simp only [List.mem_cons]
    constructor
    · rintro ((h | h) | h)
      · exact .inl h
      · exact .inr (.inl h)
      · exact .inr (.inr h)
    · rintro (h | h | h)
      · exact .inl (.inl h)
      · exact .inl (.inr h)
      · exact .inr h
theorem putFold_sorted : ∀ (xs S : List Int), S.Pairwise (· < ·) → (xs.foldl putL S).Pairwise (· < ·)
  | [], S, h => h
  | y :: t, S, h => by rw [List.foldl_cons]; exact putFold_sorted t _ (putL_sorted h y)
theorem putFold_len : ∀ (xs S : List Int), (xs.foldl putL S).length ≤ S.length + xs.length
  | [], S => by simp
  | y :: t, S => by
    rw [List.foldl_cons]
    have := putFold_len t (putL S y)
    have := putL_len S y
    simp only [List.length_cons]
    omega
/-- All lengths, each once. -/
def lensF (F : Fld) : List Int := Lib.compact (F.di.flatten.mergeSort fun x y => decide (x ≤ y))
/-- With 0. -/
def reachL (F : Fld) : List Int := Lib.compact (0 :: lensF F)
theorem lensF_spec (F : Fld) : (lensF F).Pairwise (· < ·) ∧ ∀ x, x ∈ lensF F ↔ x ∈ F.di.flatten := by
  have hs : (F.di.flatten.mergeSort fun x y => decide (x ≤ y)).Pairwise (· ≤ ·) := by
    have h := List.pairwise_mergeSort (le := fun x y : Int => decide (x ≤ y)) (fun a b c h1 h2 => decide_eq_true (Int.le_trans (of_decide_eq_true h1) (of_decide_eq_true h2))) (fun a b => by rcases Int.le_total a b with h | h <;> simp [h]) F.di.flatten
    exact h.imp (fun h => of_decide_eq_true h)
  obtain ⟨h1, h2⟩ := compact_spec hs
  exact ⟨h1, fun x => by unfold lensF; rw [h2, List.mem_mergeSort]⟩
theorem lensF_len (F : Fld) : (lensF F).length ≤ F.di.flatten.length := by
  have := compact_len (F.di.flatten.mergeSort fun x y => decide (x ≤ y))
  unfold lensF
  simpa using this
theorem reachL_len (F : Fld) : (reachL F).length ≤ F.di.flatten.length + 1 := by
  have := compact_len (0 :: lensF F)
  have := lensF_len F
  unfold reachL
  simp only [List.length_cons] at *
  omega
theorem dist_pos {F : Fld} (hg : goodF F = true) : ∀ x ∈ F.di.flatten, 0 ≤ x ∧ x ≤ 99 := fun x hx => by
  obtain ⟨r, hr, hx2⟩ := List.mem_flatten.1 hx
  exact ((goodF_iff.1 hg).2.2.2 r hr).1 x hx2
theorem reachL_eq {F : Fld} (hg : goodF F = true) : reachL F = putL (putAllL F.di.flatten) 0 := by
  obtain ⟨h1, h2⟩ := lensF_spec F
  have hs : (0 :: lensF F).Pairwise (· ≤ ·) := by
    rw [List.pairwise_cons]
    refine ⟨fun x hx => (dist_pos hg x ((h2 x).1 hx)).1, h1.imp (fun h => Int.le_of_lt h)⟩
  obtain ⟨h3, h4⟩ := compact_spec hs
  refine rising_ext h3 (putL_sorted (putFold_sorted _ _ List.Pairwise.nil) 0) (fun x => ?_)
  unfold reachL putAllL
  rw [h4, mem_putL, putFold_mem, List.mem_cons, h2]
  simp only [List.not_mem_nil, false_or]
  exact Or.comm
theorem flat_len49 {F : Fld} (hg : goodF F = true) : F.di.flatten.length ≤ 49 := by
  obtain ⟨h1, _, h3, h4⟩ := goodF_iff.1 hg
  have : ∀ rows : List (List Int), (∀ r ∈ rows, r.length ≤ 7) → rows.flatten.length ≤ rows.length * 7 := by
    intro rows
    induction rows with
    | nil => simp
    | cons r t ih =>
      intro h
      have := ih (fun r hr => h r (List.mem_cons_of_mem _ hr))
      have := h r List.mem_cons_self
      simp only [List.flatten_cons, List.length_append, List.length_cons]
      omega
  have := this F.di (fun r hr => by have := (h4 r hr).2; omega)
  omega
/-- The first one of which something is so. -/
def firstR (p : Int → Bool) (xs : List Int) : Option Int := xs.find? p
/-- A set of at most k sites serves all needs within r. -/
noncomputable def someB (F : Fld) (rooms needs : List Int) (k : Int) (r : Int) : Bool := (setsL F.op.length).any fun S => decide ((S.length : Int) ≤ k) && csB F rooms needs S r
def rrOk (F : Fld) (rooms needs : List Int) (k : Int) : Bool := goodF F && inB k 1 F.op.length && needsB F rooms needs
noncomputable def rrO (F : Fld) (rooms needs : List Int) (k : Int) : Option Int := if rrOk F rooms needs k = true then (reachL F).find? (someB F rooms needs k) else none
noncomputable def rrV (F : Fld) (rooms needs : List Int) (k : Int) : Int := (rrO F rooms needs k).getD 0
noncomputable def rrB (F : Fld) (rooms needs : List Int) (k : Int) : Bool := (rrO F rooms needs k).isSome
theorem rr_no {F : Fld} {rooms needs : List Int} {k : Int} (h : rrOk F rooms needs k = false) : Ending.returned (.tuple #[.int .i64 0, .bool false]) = .returned (.tuple #[.int .i64 (rrV F rooms needs k), .bool (rrB F rooms needs k)]) := by
  unfold rrV rrB rrO; rw [h]; rfl
theorem findR_at {p : Int → Bool} {xs : List Int} {i : Nat} (hi : i < xs.length) (hn : ∀ j, j < i → ∀ h : j < xs.length, p xs[j] = false) (hy : p xs[i] = true) : xs.find? p = some xs[i] := by
  rw [List.find?_eq_some_iff_getElem]
  exact ⟨hy, i, hi, rfl, fun j hj => by rw [hn j hj (by omega)]; rfl⟩
theorem findR_none {p : Int → Bool} {xs : List Int} (hn : ∀ j, j < xs.length → ∀ h : j < xs.length, p xs[j] = false) : xs.find? p = none := by
  rw [List.find?_eq_none]
  intro x hx
  obtain ⟨i, hi, rfl⟩ := List.getElem_of_mem hx
  rw [hn i hi hi]; simp
theorem rr_at {F : Fld} {rooms needs : List Int} {k : Int} (h : rrOk F rooms needs k = true) {i : Nat} (hi : i < (reachL F).length) (hn : ∀ j, j < i → ∀ h : j < (reachL F).length, someB F rooms needs k (reachL F)[j] = false) (hy : someB F rooms needs k (reachL F)[i] = true) :
    Ending.returned (.tuple #[.int .i64 (reachL F)[i], .bool true]) = .returned (.tuple #[.int .i64 (rrV F rooms needs k), .bool (rrB F rooms needs k)]) := by
  unfold rrV rrB rrO; rw [h, if_pos rfl, findR_at hi hn hy]; rfl
theorem rr_end {F : Fld} {rooms needs : List Int} {k : Int} (h : rrOk F rooms needs k = true) (hn : ∀ j, j < (reachL F).length → ∀ h : j < (reachL F).length, someB F rooms needs k (reachL F)[j] = false) :
    Ending.returned (.tuple #[.int .i64 0, .bool false]) = .returned (.tuple #[.int .i64 (rrV F rooms needs k), .bool (rrB F rooms needs k)]) := by
  unfold rrV rrB rrO; rw [h, if_pos rfl, findR_none hn]; rfl
theorem someB_iff {F : Fld} {rooms needs : List Int} {k r : Int} : someB F rooms needs k r = ((setsL F.op.length).filter fun S => decide ((S.length : Int) ≤ k)).any fun S => csB F rooms needs S r := by
  unfold someB
  rw [List.any_filter]
end Go.Proofs.YtpiijhfjliolfaaGreat

namespace Go.Proofs.YtpiijhfjliolfaaGreat
open Go.RowKit Go.Sort Go.Shelf

def sortI_ren : Go.Shelf.Ren := ⟨fun | 189 => 92 | 125 => 112 | 257 => 118 | 128 => 132 | 129 => 133 | 294 => 135 | 295 => 136 | 296 => 137 | 297 => 138 | 298 => 139 | 299 => 140 | 216 => 141 | 300 => 142 | 301 => 143 | 328 => 151 | 329 => 147 | 330 => 148 | 331 => 152 | 332 => 153 | 215 => 134 | 343 => 157 | n => n, fun | 28 => 24 | 3 => 3 | 46 => 85 | 0 => 0 | 51 => 125 | 53 => 49 | 4 => 4 | 183 => 119 | 182 => 118 | 131 => 41 | 5 => 5 | 9 => 9 | 218 => 134 | 222 => 138 | 228 => 146 | 229 => 147 | n => n, fun | n => n⟩
theorem sortI : Go.Proofs.Lays.n189 Tryz.prog sortI_ren := {
  mixed := by kernel_rfl
  f125 := Tryz.func112.trans (congrArg some (by kernel_rfl))
  f128 := Tryz.func132.trans (congrArg some (by kernel_rfl))
  f129 := Tryz.func133.trans (congrArg some (by kernel_rfl))
  f189 := Tryz.func92.trans (congrArg some (by kernel_rfl))
  f215 := Tryz.func134.trans (congrArg some (by kernel_rfl))
  f216 := Tryz.func141.trans (congrArg some (by kernel_rfl))
  f257 := Tryz.func118.trans (congrArg some (by kernel_rfl))
  f294 := Tryz.func135.trans (congrArg some (by kernel_rfl))
  f295 := Tryz.func136.trans (congrArg some (by kernel_rfl))
  f296 := Tryz.func137.trans (congrArg some (by kernel_rfl))
  f297 := Tryz.func138.trans (congrArg some (by kernel_rfl))
  f298 := Tryz.func139.trans (congrArg some (by kernel_rfl))
  f299 := Tryz.func140.trans (congrArg some (by kernel_rfl))
  f300 := Tryz.func142.trans (congrArg some (by kernel_rfl))
  f301 := Tryz.func143.trans (congrArg some (by kernel_rfl))
  f328 := Tryz.func151.trans (congrArg some (by kernel_rfl))
  f329 := Tryz.func147.trans (congrArg some (by kernel_rfl))
  f330 := Tryz.func148.trans (congrArg some (by kernel_rfl))
  f331 := Tryz.func152.trans (congrArg some (by kernel_rfl))
  f332 := Tryz.func153.trans (congrArg some (by kernel_rfl))
  f343 := Tryz.func157.trans (congrArg some (by kernel_rfl))
  t0 := Tryz.underlying0
  a0 := Tryz.isAgg0
  z0 := Tryz.sizeOf0
  v0 := Tryz.zeroValue0
  t3 := Tryz.underlying3
  a3 := Tryz.isAgg3
  z3 := Tryz.sizeOf3
  v3 := Tryz.zeroValue3
  t4 := Tryz.underlying4
  a4 := Tryz.isAgg4
  z4 := Tryz.sizeOf4
  v4 := Tryz.zeroValue4
  t5 := Tryz.underlying5
  a5 := Tryz.isAgg5
  z5 := Tryz.sizeOf5
  v5 := Tryz.zeroValue5
  t9 := Tryz.underlying9
  a9 := Tryz.isAgg9
  z9 := Tryz.sizeOf9
  v9 := Tryz.zeroValue9
  t28 := Tryz.underlying24
  a28 := Tryz.isAgg24
  z28 := Tryz.sizeOf24
  v28 := Tryz.zeroValue24
  t46 := Tryz.underlying85
  a46 := Tryz.isAgg85
  z46 := Tryz.sizeOf85
  v46 := Tryz.zeroValue85
  t51 := Tryz.underlying125
  a51 := Tryz.isAgg125
  z51 := Tryz.sizeOf125
  v51 := Tryz.zeroValue125
  t53 := Tryz.underlying49
  a53 := Tryz.isAgg49
  z53 := Tryz.sizeOf49
  v53 := Tryz.zeroValue49
  t131 := Tryz.underlying41
  a131 := Tryz.isAgg41
  z131 := Tryz.sizeOf41
  v131 := Tryz.zeroValue41
  t182 := Tryz.underlying118
  a182 := Tryz.isAgg118
  z182 := Tryz.sizeOf118
  v182 := Tryz.zeroValue118
  t183 := Tryz.underlying119
  a183 := Tryz.isAgg119
  z183 := Tryz.sizeOf119
  v183 := Tryz.zeroValue119
  t218 := Tryz.underlying134
  a218 := Tryz.isAgg134
  z218 := Tryz.sizeOf134
  v218 := Tryz.zeroValue134
  t222 := Tryz.underlying138
  a222 := Tryz.isAgg138
  z222 := Tryz.sizeOf138
  v222 := Tryz.zeroValue138
  t228 := Tryz.underlying146
  a228 := Tryz.isAgg146
  z228 := Tryz.sizeOf146
  v228 := Tryz.zeroValue146
  t229 := Tryz.underlying147
  a229 := Tryz.isAgg147
  z229 := Tryz.sizeOf147
  v229 := Tryz.zeroValue147 }
theorem turn_put {w : World} {g q : Nat} (d : Array Int) (os : Array Obj) : Turn (fun i => i = g) w (grow (putRow (Value.int .i64) (Sort.ahead w q) g 0 d) os) :=
  ⟨rfl, rfl, rfl, by simp, fun i hi hn => by
    rw [heap_grow_old _ _ (by simpa using hi)]
    simp [putRow, mapBlock, Sort.ahead, Array.getElem?_modify, Ne.symm hn]⟩
theorem own_put {w : World} {base g cap q : Nat} {xs ys : List Int} (h : Own w base (.slice (some ⟨g, 0, none⟩) xs.length cap) xs) (hy : ys.length = xs.length) (os : Array Obj) :
    Own (grow (putRow (Value.int .i64) (Sort.ahead w q) g 0 ys.toArray) os) base (.slice (some ⟨g, 0, none⟩) xs.length cap) ys := by
  have h3 := Lib.ownsRow_putRow (q := q) (k := xs.length) (ys := ys) h hy (Nat.le_refl _)
  rw [List.take_of_length_le (by omega)] at h3
  have h4 := Lib.ownsRow_grow h3 0 os
  unfold Own
  rw [hy]
  exact h4
theorem own_holds {w : World} {base g cap : Nat} {xs : List Int} (h : Own w base (.slice (some ⟨g, 0, none⟩) xs.length cap) xs) : Holds (Value.int .i64) w g 0 xs.toArray ∧ g < w.heap.size := by
  obtain ⟨g2, cap2, e2, _, hlt, _, _, _, hH⟩ := Lib.holds_of_ownsRow h (by simp)
  simp only [Value.slice.injEq, Option.some.injEq, Addr.mk.injEq] at e2
  obtain ⟨⟨rfl, _, _⟩, _, rfl⟩ := e2
  exact ⟨hH, hlt⟩
theorem sortInts_any (base g cap n : Nat) (xs : List Int) (w : World) (h : Own w base (.slice (some ⟨g, 0, none⟩) n cap) xs) (hn : xs.length = n) (hl : n ≤ 1000000) :
    Calls Tryz.prog 92 #[.slice (some ⟨g, 0, none⟩) n cap] w fun e w' => e = .returned (.tuple #[]) ∧ Own w' base (.slice (some ⟨g, 0, none⟩) n cap) (xs.mergeSort fun x y => decide (x ≤ y)) ∧ Turn (fun i => i = g) w w' := by
  subst hn
  obtain ⟨hH, hlt⟩ := own_holds h
  refine Calls.mono (Any.slices_Sort_int sortI g 0 cap xs w hH hlt (by omega)) ?_
  rintro e w' ⟨rfl, q, os, rfl⟩
  exact ⟨rfl, own_put h (by simp) os, turn_put _ os⟩
end Go.Proofs.YtpiijhfjliolfaaGreat

namespace Go.Proofs.YtpiijhfjliolfaaGreat
open Go.RowKit Go.Sort

theorem IntsAt.take {w : World} {ad : Addr} {xs : List Int} (h : IntsAt w (some ad) xs) (k : Nat) : IntsAt w (some ad) (xs.take k) :=
  ⟨Nat.le_trans (by simp; omega) h.1, fun j hj => by
    have h1 : j < xs.length := by simp at hj; omega
    refine ⟨ad, rfl, ?_⟩
    rw [h.some_ h1]
    have h2 : j < k := by simp at hj; omega
    simp [List.getD, h1, h2, List.getElem?_take]⟩
theorem IntsAt.drop {w : World} {ad : Addr} {xs : List Int} (h : IntsAt w (some ad) xs) (k : Nat) : IntsAt w (some (ad.add k)) (xs.drop k) :=
  ⟨Nat.le_trans (by simp) h.1, fun j hj => by
    have h1 : k + j < xs.length := by simp at hj; omega
    refine ⟨ad.add k, rfl, ?_⟩
    have := h.some_ h1
    have e : (ad.add k).add j = ad.add (k + j) := by
      unfold Addr.add
      by_cases hk : k = 0 <;> by_cases hj0 : j = 0 <;> simp [hk, hj0, Nat.add_assoc]
    rw [e, this]
    simp [List.getD, h1]⟩
theorem Own.cap {w : World} {base n c : Nat} {v : Value} {A : Option Addr} {xs : List Int} (h : Own w base v xs) (e : v = .slice A n c) : xs.length ≤ c := by
  rcases h.2 with ⟨rfl, h0⟩ | ⟨g, cap, cur, rfl, _, _, h4, _⟩
  · omega
  · simp only [Value.slice.injEq] at e
    omega
theorem IntsAt.tail {w : World} {ad : Addr} {xs : List Int} {c : Nat} (h : IntsAt w (some ad) xs) (hc : xs.length ≤ c) (k : Nat) : IntsAt w (if c = k then some ad else some (ad.add k)) (xs.drop k) := by
  by_cases e : c = k
  · rw [if_pos e, List.drop_eq_nil_of_le (by omega)]; exact IntsAt.nil _ _
  · rw [if_neg e]; exact h.drop k
theorem own_ab (w : World) (a : Int) : Own ((w.alloc (.cells #[] 3)).alloc (.cells #[.int .i64 a] 3)) w.heap.size (.slice (some ⟨w.heap.size, 0, none⟩) 0 0) [] :=
  (own_new0 w _ (Nat.le_refl _)).kp ((Kp.refl _).alloc _)
theorem own_ba (w : World) (a : Int) : Own ((w.alloc (.cells #[.int .i64 a] 3)).alloc (.cells #[] 3)) w.heap.size (.slice (some ⟨w.heap.size + 1, 0, none⟩) 0 0) [] := by
  have := own_new0 (w.alloc (.cells #[.int .i64 a] 3)) w.heap.size (by simp)
  simpa using this
theorem Own.drew {w : World} {base : Nat} {v : Value} {xs : List Int} (h : Own w base v xs) : Own w.drew base v xs := h.kp (Kp.refl w).drew
theorem one_ab (w : World) (a : Int) : IntsAt ((w.alloc (.cells #[] 3)).alloc (.cells #[.int .i64 a] 3)) (some ⟨w.heap.size + 1, 0, none⟩) [a] := by
  have := one_new (w.alloc (.cells #[] 3)) a
  simpa using this
theorem one_ba (w : World) (a : Int) : IntsAt ((w.alloc (.cells #[.int .i64 a] 3)).alloc (.cells #[] 3)) (some ⟨w.heap.size, 0, none⟩) [a] :=
  (one_new w a).kp ((Kp.refl _).alloc _)
set_option maxRecDepth 100000 in
set_option maxHeartbeats 2000000 in
theorem l1Put_some (ad : Addr) (S : List Int) (n c0 : Nat) (a : Int) (w : World) (hS : IntsAt w (some ad) S) (hn : S.length = n) (hs : S.Pairwise (· < ·)) (hc : n ≤ c0) (hb : n < 1048576) :
    Calls Tryz.prog 54 #[.slice (some ad) n c0, .int .i64 a] w fun e w' => ∃ v, e = .returned v ∧ ((a ∈ S ∧ v = .slice (some ad) n c0) ∨ Own w' w.heap.size v (putL S a)) ∧ Kp w w' := by
  have hm : n ≤ 9223372036854775807 := hn ▸ hS.1
  have hnc : S.length ≤ c0 := by omega
  have Hn := Lib.hid hn; clear hn
  have Hs := Lib.hid hs; clear hs
  go_enter Tryz.func54, Tryz.ntmps54
  go_wp2_with fail
  go_loop [5] (fun iv => ∃ k : Nat, k ≤ n ∧ iv = .int .i64 k ∧ Hid (∀ x ∈ S.take k, x < a)) (fun iv => n - (intOf iv).toNat)
  case atStart => exact ⟨0, by omega, rfl, by show ∀ x ∈ S.take 0, x < a; simp⟩
  case round =>
    obtain ⟨k, hk, rfl, Hp⟩ := hrel
    have hkc : k ≤ c0 := by omega
    by_cases hlt : k < n
    · have lx : k < S.length := by rw [Hn.out]; exact hlt
      have hck := hS.some_ lx
      by_cases h1 : S[k] < a
      · go_wp2_with fail
        go_round
        case rel =>
          refine ⟨k + 1, by omega, by go_num, ?_⟩
          show ∀ x ∈ S.take (k + 1), x < a
          intro x hx
          rw [List.take_succ_eq_append_getElem lx, List.mem_append] at hx
          rcases hx with hx | hx
          · exact Hp.out x hx
          · have : x = S[k] := by simpa using hx
            omega
        case measure => simp [intOf]; omega
      · by_cases h2 : S[k] = a
        · have hin : Hid (a ∈ S) := h2 ▸ List.getElem_mem lx
          go_wp2_with fail
          go_ret
          exact ⟨_, rfl, .inl ⟨hin.out, rfl⟩, Kp.refl _⟩
        · have hlk : (S.take k).length = k := by rw [List.length_take, Hn.out]; omega
          have hld : (S.drop k).length = n - k := by rw [List.length_drop, Hn.out]
          have hl1 : ([] : List Int).length + (S.take k).length ≤ 4194304 := by rw [hlk]; simp; omega
          have hl2 : (([] : List Int) ++ S.take k).length + [a].length ≤ 4194304 := by rw [List.length_append, hlk]; simp; omega
          have hl3 : (([] : List Int) ++ S.take k).length < 1048576 := by rw [List.length_append, hlk]; simp; omega
          have hl4 : (([] : List Int) ++ S.take k ++ [a]).length + (S.drop k).length ≤ 4194304 := by rw [List.length_append, List.length_append, hlk, hld]; simp; omega
          have hput := Lib.hid (put_at Hs.out Hp.out (fun _ => by omega))
          have hA := Lib.hid ((own_new0 w _ (Nat.le_refl _)).drew)
          have hAB := Lib.hid ((own_ab w a).drew)
          have hBA := Lib.hid ((own_ba w a).drew)
          go_wp2_with fail
          go_region_held3 (fun w' => Kp w w')
            (first | exact (by repeat (first | with_reducible assumption | with_reducible exact Kp.refl _ | with_reducible refine Kp.drew ?_ | with_reducible refine Kp.alloc ?_ _ | with_reducible refine Kp.drewN ?_ _ | refine Kp.setCell ?_ (by dsimp only; omega) _)) | exact hkA | exact hkA.alloc _ | exact hkB | exact hkC)
            (first
              | (refine step_app_all (by rfl) (.tmp 33) (.tmp 36) (by rfl) w.heap.size _ [] (S.take k) (some ad) k c0 (by rfl) (by rfl) hA.out ((hS.take k).kp (by repeat (first | with_reducible assumption | with_reducible exact Kp.refl _ | with_reducible refine Kp.drew ?_ | with_reducible refine Kp.alloc ?_ _ | with_reducible refine Kp.drewN ?_ _ | refine Kp.setCell ?_ (by dsimp only; omega) _))) hlk (by simp) hl1 ?_; intro v1 w1 ho1 ht1 h41; have hkA : Kp w w1 := hA.out.kp_turn (by repeat (first | with_reducible assumption | with_reducible exact Kp.refl _ | with_reducible refine Kp.drew ?_ | with_reducible refine Kp.alloc ?_ _ | with_reducible refine Kp.drewN ?_ _ | refine Kp.setCell ?_ (by dsimp only; omega) _)) (Nat.le_refl _) ht1)
              | (refine step_app_all (by rfl) (.tmp 33) (.tmp 36) (by rfl) w.heap.size _ [] (S.take k) (some ad) k c0 (by rfl) (by rfl) hAB.out ((hS.take k).kp (by repeat (first | with_reducible assumption | with_reducible exact Kp.refl _ | with_reducible refine Kp.drew ?_ | with_reducible refine Kp.alloc ?_ _ | with_reducible refine Kp.drewN ?_ _ | refine Kp.setCell ?_ (by dsimp only; omega) _))) hlk (by simp; omega) hl1 ?_; intro v1 w1 ho1 ht1 h41; have hkA : Kp w w1 := hAB.out.kp_turn (by repeat (first | with_reducible assumption | with_reducible exact Kp.refl _ | with_reducible refine Kp.drew ?_ | with_reducible refine Kp.alloc ?_ _ | with_reducible refine Kp.drewN ?_ _ | refine Kp.setCell ?_ (by dsimp only; omega) _)) (Nat.le_refl _) ht1; have h1n := one_turn (g := w.heap.size + 1) ((one_ab w a).kp (Kp.refl _).drew) ht1 (by simp [Value.ownBlock]) (by simp; try omega))
              | (refine step_app_all (by rfl) (.tmp 33) (.tmp 36) (by rfl) w.heap.size _ [] (S.take k) (some ad) k c0 (by rfl) (by rfl) hBA.out ((hS.take k).kp (by repeat (first | with_reducible assumption | with_reducible exact Kp.refl _ | with_reducible refine Kp.drew ?_ | with_reducible refine Kp.alloc ?_ _ | with_reducible refine Kp.drewN ?_ _ | refine Kp.setCell ?_ (by dsimp only; omega) _))) hlk (by simp; omega) hl1 ?_; intro v1 w1 ho1 ht1 h41; have hkA : Kp w w1 := hBA.out.kp_turn (by repeat (first | with_reducible assumption | with_reducible exact Kp.refl _ | with_reducible refine Kp.drew ?_ | with_reducible refine Kp.alloc ?_ _ | with_reducible refine Kp.drewN ?_ _ | refine Kp.setCell ?_ (by dsimp only; omega) _)) (Nat.le_refl _) ht1; have h1n := one_turn (g := w.heap.size) ((one_ba w a).kp (Kp.refl _).drew) ht1 (by simp [Value.ownBlock]) (by simp; try omega))
              | (refine step_app_all (by rfl) (.tmp 37) (.tmp 39) (by rfl) w.heap.size v1 ([] ++ S.take k) [a] (some ⟨w.heap.size + 1, 0, none⟩) 1 1 (by rfl) (by rfl) ho1 h1n rfl hkA.le hl2 ?_; intro v2 w2 ho2 ht2 h42; have hkB : Kp w w2 := ho1.kp_turn hkA (Nat.le_refl _) ht2)
              | (refine step_app_all (by rfl) (.tmp 37) (.tmp 39) (by rfl) w.heap.size v1 ([] ++ S.take k) [a] (some ⟨w.heap.size, 0, none⟩) 1 1 (by rfl) (by rfl) ho1 h1n rfl hkA.le hl2 ?_; intro v2 w2 ho2 ht2 h42; have hkB : Kp w w2 := ho1.kp_turn hkA (Nat.le_refl _) ht2)
              | (refine step_app (by rfl) (.tmp 37) (.tmp 39) (by rfl) w.heap.size v1 ([] ++ S.take k) a _ (by rfl) (by rfl) (by rfl) ho1 hkA.le hl3 ?_; intro v2 w2 ho2 ht2 h42; have hkB : Kp w w2 := ho1.kp_turn hkA (Nat.le_refl _) ht2)
              | (refine step_app_all (by rfl) (.tmp 40) (.tmp 43) (by rfl) w.heap.size v2 ([] ++ S.take k ++ [a]) (S.drop k) (if c0 = k then some ad else some (ad.add k)) (n - k) (c0 - k) (by rfl) (by rfl) ho2 ((hS.tail hnc k).kp hkB) hld hkB.le hl4 ?_; intro v3 w3 ho3 ht3 h43; have hkC : Kp w w3 := ho2.kp_turn hkB (Nat.le_refl _) ht3))
          all_goals
            go_wp2_with fail
            all_goals
              go_ret
              have e4 : [] ++ S.take k ++ [a] ++ S.drop k = putL S a := by rw [hput.out]; simp
              rw [e4] at ho3
              exact ⟨_, rfl, .inr ho3, hkC⟩
    · have hlk : (S.take k).length = k := by rw [List.length_take, Hn.out]; omega
      have hld : (S.drop k).length = n - k := by rw [List.length_drop, Hn.out]
      have hl1 : ([] : List Int).length + (S.take k).length ≤ 4194304 := by rw [hlk]; simp; omega
      have hl2 : (([] : List Int) ++ S.take k).length + [a].length ≤ 4194304 := by rw [List.length_append, hlk]; simp; omega
      have hl3 : (([] : List Int) ++ S.take k).length < 1048576 := by rw [List.length_append, hlk]; simp; omega
      have hl4 : (([] : List Int) ++ S.take k ++ [a]).length + (S.drop k).length ≤ 4194304 := by rw [List.length_append, List.length_append, hlk, hld]; simp; omega
      have hput := Lib.hid (put_at Hs.out Hp.out (fun h => absurd h (by rw [Hn.out]; omega)))
      have hA := Lib.hid ((own_new0 w _ (Nat.le_refl _)).drew)
      have hAB := Lib.hid ((own_ab w a).drew)
      have hBA := Lib.hid ((own_ba w a).drew)
      go_wp2_with fail
      go_region_held3 (fun w' => Kp w w')
        (first | exact (by repeat (first | with_reducible assumption | with_reducible exact Kp.refl _ | with_reducible refine Kp.drew ?_ | with_reducible refine Kp.alloc ?_ _ | with_reducible refine Kp.drewN ?_ _ | refine Kp.setCell ?_ (by dsimp only; omega) _)) | exact hkA | exact hkA.alloc _ | exact hkB | exact hkC)
        (first
          | (refine step_app_all (by rfl) (.tmp 33) (.tmp 36) (by rfl) w.heap.size _ [] (S.take k) (some ad) k c0 (by rfl) (by rfl) hA.out ((hS.take k).kp (by repeat (first | with_reducible assumption | with_reducible exact Kp.refl _ | with_reducible refine Kp.drew ?_ | with_reducible refine Kp.alloc ?_ _ | with_reducible refine Kp.drewN ?_ _ | refine Kp.setCell ?_ (by dsimp only; omega) _))) hlk (by simp) hl1 ?_; intro v1 w1 ho1 ht1 h41; have hkA : Kp w w1 := hA.out.kp_turn (by repeat (first | with_reducible assumption | with_reducible exact Kp.refl _ | with_reducible refine Kp.drew ?_ | with_reducible refine Kp.alloc ?_ _ | with_reducible refine Kp.drewN ?_ _ | refine Kp.setCell ?_ (by dsimp only; omega) _)) (Nat.le_refl _) ht1)
          | (refine step_app_all (by rfl) (.tmp 33) (.tmp 36) (by rfl) w.heap.size _ [] (S.take k) (some ad) k c0 (by rfl) (by rfl) hAB.out ((hS.take k).kp (by repeat (first | with_reducible assumption | with_reducible exact Kp.refl _ | with_reducible refine Kp.drew ?_ | with_reducible refine Kp.alloc ?_ _ | with_reducible refine Kp.drewN ?_ _ | refine Kp.setCell ?_ (by dsimp only; omega) _))) hlk (by simp; omega) hl1 ?_; intro v1 w1 ho1 ht1 h41; have hkA : Kp w w1 := hAB.out.kp_turn (by repeat (first | with_reducible assumption | with_reducible exact Kp.refl _ | with_reducible refine Kp.drew ?_ | with_reducible refine Kp.alloc ?_ _ | with_reducible refine Kp.drewN ?_ _ | refine Kp.setCell ?_ (by dsimp only; omega) _)) (Nat.le_refl _) ht1; have h1n := one_turn (g := w.heap.size + 1) ((one_ab w a).kp (Kp.refl _).drew) ht1 (by simp [Value.ownBlock]) (by simp; try omega))
          | (refine step_app_all (by rfl) (.tmp 33) (.tmp 36) (by rfl) w.heap.size _ [] (S.take k) (some ad) k c0 (by rfl) (by rfl) hBA.out ((hS.take k).kp (by repeat (first | with_reducible assumption | with_reducible exact Kp.refl _ | with_reducible refine Kp.drew ?_ | with_reducible refine Kp.alloc ?_ _ | with_reducible refine Kp.drewN ?_ _ | refine Kp.setCell ?_ (by dsimp only; omega) _))) hlk (by simp; omega) hl1 ?_; intro v1 w1 ho1 ht1 h41; have hkA : Kp w w1 := hBA.out.kp_turn (by repeat (first | with_reducible assumption | with_reducible exact Kp.refl _ | with_reducible refine Kp.drew ?_ | with_reducible refine Kp.alloc ?_ _ | with_reducible refine Kp.drewN ?_ _ | refine Kp.setCell ?_ (by dsimp only; omega) _)) (Nat.le_refl _) ht1; have h1n := one_turn (g := w.heap.size) ((one_ba w a).kp (Kp.refl _).drew) ht1 (by simp [Value.ownBlock]) (by simp; try omega))
          | (refine step_app_all (by rfl) (.tmp 37) (.tmp 39) (by rfl) w.heap.size v1 ([] ++ S.take k) [a] (some ⟨w.heap.size + 1, 0, none⟩) 1 1 (by rfl) (by rfl) ho1 h1n rfl hkA.le hl2 ?_; intro v2 w2 ho2 ht2 h42; have hkB : Kp w w2 := ho1.kp_turn hkA (Nat.le_refl _) ht2)
          | (refine step_app_all (by rfl) (.tmp 37) (.tmp 39) (by rfl) w.heap.size v1 ([] ++ S.take k) [a] (some ⟨w.heap.size, 0, none⟩) 1 1 (by rfl) (by rfl) ho1 h1n rfl hkA.le hl2 ?_; intro v2 w2 ho2 ht2 h42; have hkB : Kp w w2 := ho1.kp_turn hkA (Nat.le_refl _) ht2)
          | (refine step_app (by rfl) (.tmp 37) (.tmp 39) (by rfl) w.heap.size v1 ([] ++ S.take k) a _ (by rfl) (by rfl) (by rfl) ho1 hkA.le hl3 ?_; intro v2 w2 ho2 ht2 h42; have hkB : Kp w w2 := ho1.kp_turn hkA (Nat.le_refl _) ht2)
          | (refine step_app_all (by rfl) (.tmp 40) (.tmp 43) (by rfl) w.heap.size v2 ([] ++ S.take k ++ [a]) (S.drop k) (if c0 = k then some ad else some (ad.add k)) (n - k) (c0 - k) (by rfl) (by rfl) ho2 ((hS.tail hnc k).kp hkB) hld hkB.le hl4 ?_; intro v3 w3 ho3 ht3 h43; have hkC : Kp w w3 := ho2.kp_turn hkB (Nat.le_refl _) ht3))
      all_goals
        go_wp2_with fail
        all_goals
          go_ret
          have e4 : [] ++ S.take k ++ [a] ++ S.drop k = putL S a := by rw [hput.out]; simp
          rw [e4] at ho3
          exact ⟨_, rfl, .inr ho3, hkC⟩
end Go.Proofs.YtpiijhfjliolfaaGreat

namespace Go.Proofs.YtpiijhfjliolfaaGreat
open Go.RowKit Go.Sort Go.Shelf

def compI_ren : Go.Shelf.Ren := ⟨fun | 20 => 47 | n => n, fun | 22 => 24 | 3 => 3 | 4 => 4 | 0 => 0 | n => n, fun | n => n⟩
theorem compI : Go.Proofs.Lays2.n20 Tryz.prog compI_ren := {
  mixed := by kernel_rfl
  f20 := Tryz.func47.trans (congrArg some (by kernel_rfl))
  t0 := Tryz.underlying0
  a0 := Tryz.isAgg0
  z0 := Tryz.sizeOf0
  v0 := Tryz.zeroValue0
  t3 := Tryz.underlying3
  a3 := Tryz.isAgg3
  z3 := Tryz.sizeOf3
  v3 := Tryz.zeroValue3
  t4 := Tryz.underlying4
  a4 := Tryz.isAgg4
  z4 := Tryz.sizeOf4
  v4 := Tryz.zeroValue4
  t22 := Tryz.underlying24
  a22 := Tryz.isAgg24
  z22 := Tryz.sizeOf24
  v22 := Tryz.zeroValue24
  i3 := by kernel_rfl }
theorem compactI_any (base : Nat) (v : Value) (xs : List Int) (w : World) (h : Own w base v xs) (hl : xs.length ≤ 1000000) :
    Calls Tryz.prog 47 #[v] w fun e w' => ∃ A c, e = .returned (.slice A (Lib.compact xs).length c) ∧ (Lib.compact xs).length ≤ c ∧ IntsAt w' A (Lib.compact xs) ∧ Turn (fun i => v.ownBlock = some i) w w' := by
  rcases id h.2 with ⟨rfl, h0⟩ | ⟨g, cap, cur, rfl, hb, hg, hn, hm, hsz, ht⟩
  · obtain rfl : xs = [] := by simpa using h0
    refine Calls.mono (Any.slices_Compact_int_empty compI none 0 w) ?_
    rintro e w' ⟨rfl, rfl⟩
    exact ⟨none, 0, rfl, Nat.le_refl _, IntsAt.nil _ _, Turn.refl _ _⟩
  · obtain ⟨hH, hlt⟩ := own_holds h
    have hcap : xs.length ≤ cap := h.cap rfl
    refine Calls.mono (Any.slices_Compact_int compI g 0 cap xs w hH (by omega) hcap) ?_
    rintro e w' ⟨rfl, q, rfl⟩
    have hle : (Lib.compact xs).length ≤ xs.length := compact_len xs
    have e0 := grow_empty (putRow (Value.int .i64) (Sort.ahead w q) g 0 (Lib.compact xs ++ List.replicate (xs.length - (Lib.compact xs).length) 0).toArray)
    have ho : Own (putRow (Value.int .i64) (Sort.ahead w q) g 0 (Lib.compact xs ++ List.replicate (xs.length - (Lib.compact xs).length) 0).toArray) base (.slice (some ⟨g, 0, none⟩) xs.length cap) (Lib.compact xs ++ List.replicate (xs.length - (Lib.compact xs).length) 0) := by
      have h5 := own_put (q := q) h (ys := Lib.compact xs ++ List.replicate (xs.length - (Lib.compact xs).length) 0) (by simp; omega) #[]
      rw [e0] at h5
      exact h5
    have hi := (ho.intsOf (by simp; omega)).take (Lib.compact xs).length
    rw [List.take_left'] at hi
    · refine ⟨_, cap, rfl, by omega, hi, ?_⟩
      have h6 := turn_put (w := w) (g := g) (q := q) (Lib.compact xs ++ List.replicate (xs.length - (Lib.compact xs).length) 0).toArray #[]
      rw [e0] at h6
      exact h6.mono (fun i hi => by rw [hi]; rfl)
    · rfl
theorem sortI_any (base : Nat) (v : Value) (xs : List Int) (w : World) (h : Own w base v xs) (hl : xs.length ≤ 1000000) :
    Calls Tryz.prog 92 #[v] w fun e w' => e = .returned (.tuple #[]) ∧ Own w' base v (xs.mergeSort fun x y => decide (x ≤ y)) ∧ Turn (fun i => v.ownBlock = some i) w w' := by
  rcases id h.2 with ⟨rfl, h0⟩ | ⟨g, cap, cur, rfl, hb, hg, hn, hm, hsz, ht⟩
  · obtain rfl : xs = [] := by simpa using h0
    refine Calls.mono (Any.slices_Sort_int_none sortI none 0 w) ?_
    rintro e w' ⟨rfl, rfl⟩
    exact ⟨rfl, by simpa using h, Turn.refl _ _⟩
  · refine Calls.mono (sortInts_any base g cap xs.length xs w h rfl hl) ?_
    rintro e w' ⟨rfl, h1, h2⟩
    exact ⟨rfl, h1, h2.mono (fun i hi => by rw [hi]; rfl)⟩
end Go.Proofs.YtpiijhfjliolfaaGreat

namespace Go.Proofs.YtpiijhfjliolfaaGreat
open Go.RowKit

set_option maxRecDepth 100000 in
set_option maxHeartbeats 400000 in
theorem grow0_any (n : Nat) (w : World) (hn : n ≤ 1048576) :
    Calls Tryz.prog 117 #[.slice none 0 0, .int .i64 n] w fun e w' => ∃ v, e = .returned v ∧ Own w' w.heap.size v [] ∧ Kp w w' := by
  obtain ⟨i0, hi, hz0, hz1, hz2⟩ := info_parts infoInt
  by_cases h0 : n = 0
  · subst h0
    go_enter Tryz.func117, Tryz.ntmps117
    go_wp2_with fail
    go_ret
    exact ⟨_, rfl, Own.nil _ _, Kp.refl _⟩
  · have hp : 0 < n := by omega
    have hb := grownCap_ge w (0 + n) 0 3
    have hm := grownCap_le_maxLen w (0 + n) 0 3 (by unfold maxLen; omega)
    have hrz : ∀ ty, (Builtin.append_ #[24, 3] ty #[.slice none 0 0, .int .i64 (n : Int)]).run Tryz.prog w = .ok (.slice (some ⟨w.heap.size, 0, none⟩) (0 + n) (grownCap w (0 + n) 0 3))
        (w.drew.alloc (.cells (([] : List Value).toArray ++ Builtin.zeroCells (Value.int .i64 0).cells n ++ Builtin.zeroCells (Value.int .i64 0).cells (grownCap w (0 + n) 0 3 - (0 + n))) 3)) := fun ty =>
      Lib.run_append_grow_zeros w 24 3 ty 3 i0 (.int .i64 0) .i64 .i64 Tryz.underlying24 Tryz.underlying3 hi hz0 none 0 0 [] (run_firstCells_none _ _ _ _ _) n hp (by omega) (by omega) (by omega) (by rw [hz2]; omega) (growslice_fits (by omega) (by rw [hz2]; omega))
    have ho : Own (w.drew.alloc (.cells (([] : List Value).toArray ++ Builtin.zeroCells (Value.int .i64 0).cells n ++ Builtin.zeroCells (Value.int .i64 0).cells (grownCap w (0 + n) 0 3 - (0 + n))) 3)) w.heap.size (.slice (some ⟨w.heap.size, 0, none⟩) 0 (grownCap w (0 + n) 0 3)) [] := by
      refine World.ownsRow_made (w := w.drew) (e := 3) (size := 1) _ _ (Nat.le_refl _) hm ?_
      have hz : ∀ k, (Builtin.zeroCells (Value.int .i64 0).cells k).size = k := fun k => by simp [Builtin.zeroCells, Value.cells]
      rw [Array.size_append, Array.size_append, hz, hz]
      show 0 + n + _ = _ * 1
      omega
    have HO := Lib.hid ho
    clear ho
    unfold maxLen at hm
    generalize grownCap w (0 + n) 0 3 = G at *
    generalize Obj.cells (([] : List Value).toArray ++ Builtin.zeroCells (Value.int .i64 0).cells n ++ Builtin.zeroCells (Value.int .i64 0).cells (G - (0 + n))) 3 = ob at *
    have Hrz := Lib.hid hrz
    clear hrz
    go_enter Tryz.func117, Tryz.ntmps117
    go_wp2_with (at_builtin; refine Lib.wpList_append_run _ rfl _ _ _ _ rfl _ _ rfl rfl _ _ (Hrz.out _) ?_)
    go_ret
    exact ⟨_, rfl, HO.out, (Kp.refl _).drew.alloc _⟩
theorem wpl_app_all {ops : Array Oper} {rest : List Oper} {o : Oper} {a : Act} {Q : Exit → Act → World → Prop} {W : World} (hgd : o.guard = none) (s x : Operand)
    (ho : o.op = .call { callee := .builtin .append, args := #[s, x], argTypes := #[24, 24] }) (base : Nat) (v : Value) (xs ys : List Int) (A : Option Addr) (m c : Nat)
    (hs : a.eval s = v) (hx : a.eval x = .slice A m c) (hown : Own W base v xs) (hy : IntsAt W A ys) (hym : ys.length = m) (hbase : base ≤ W.heap.size) (hlen : xs.length + ys.length ≤ 4194304)
    (h : ∀ v' w', Own w' base v' (xs ++ ys) → Turn (fun i => v.ownBlock = some i) W w' → (v'.ownBlock = v.ownBlock ∨ ∀ g, v'.ownBlock = some g → W.heap.size ≤ g) → wpList Tryz.prog ops Q rest (a.put o.dst v') w') :
    wpList Tryz.prog ops Q (o :: rest) a W := by
  obtain ⟨v', w', hrun, h2, h3, h4⟩ := run_app_all (W := W) o.type base v xs ys A m c hown hy hym hbase hlen
  exact Lib.wpList_append_run _ hgd s x _ _ ho _ _ hs hx v' w' hrun (h v' w' h2 (Turn.of_grown h3) h4)
theorem flat_take_succ {rows : List (List Int)} {k : Nat} (hk : k < rows.length) : (rows.take (k + 1)).flatten = (rows.take k).flatten ++ rows[k] := by
  rw [List.take_succ_eq_append_getElem hk, List.flatten_append]; simp
theorem flat_len (rows : List (List Int)) : rows.flatten.length = rowSum rows := by
  induction rows with
  | nil => rfl
  | cons r rs ih => simp [rowSum, ih]
set_option maxHeartbeats 400000 in
theorem concat_any (B : Option Addr) (rows : List (List Int)) (m c : Nat) (w : World) (hx : GridAt w B rows) (hm : rows.length = m) (hs : rowSum rows ≤ 1048576) :
    Calls Tryz.prog 91 #[.slice B m c] w fun e w' => ∃ v, e = .returned v ∧ Own w' w.heap.size v rows.flatten ∧ Kp w w' := by
  have hm63 : m ≤ 9223372036854775807 := hm ▸ hx.1
  have Hm := Lib.hid hm; clear hm
  go_enter Tryz.func91, Tryz.ntmps91
  go_wp2_with fail
  go_loop [3, 11] (fun sv iv => ∃ k : Nat, k ≤ m ∧ iv = .int .i64 k ∧ sv = .int .i64 (rowSum (rows.take k) : Nat)) (fun _ iv => m - (intOf iv).toNat)
  case atStart => exact ⟨0, by omega, rfl, rfl⟩
  case round =>
    obtain ⟨k, hk, rfl, rfl⟩ := hrel
    by_cases hlt : k < m
    · have lx : k < rows.length := by rw [Hm.out]; exact hlt
      obtain ⟨bd, A, ca, rfl, hc, hr⟩ := hx.at_ lx
      have hsum := Lib.hid (rowSum_take_succ lx)
      have hsl := rowSum_take_le rows (k + 1)
      have hsl2 : rowSum (rows.take k) + rows[k].length ≤ 1048576 := by rw [← hsum.out]; omega
      clear hsl
      go_wp2_with fail
      go_round
      case rel => exact ⟨k + 1, by omega, by go_num, by rw [hsum.out]; go_num⟩
      case measure => simp [intOf]; omega
    · obtain rfl : k = m := by omega
      have htk := Lib.hid (show rows.take k = rows from List.take_of_length_le (by rw [Hm.out]; omega))
      rw [htk.out]
      go_wp2_with fail
      have CC := Lib.hid (grow0_any (rowSum rows) w hs)
      with_reducible refine Calls.mono CC.out ?_
      rintro e w1 ⟨v0, rfl, ho, hk1⟩
      clear CC
      go_wp2_with fail
      go_loopw [6, 27] (fun v iv wr => ∃ j : Nat, j ≤ k ∧ iv = .int .i64 j ∧ Own wr w.heap.size v ((rows.take j).flatten) ∧ Kp w wr) (fun _ iv _ => k - (intOf iv).toNat)
      case atStart => exact ⟨0, by omega, rfl, ho, hk1⟩
      case round =>
        clear ho hk1
        obtain ⟨j, hj, rfl, hown, hkb⟩ := hrel
        by_cases hlj : j < k
        · have lx : j < rows.length := by rw [Hm.out]; exact hlj
          obtain ⟨bd, A, ca, rfl, hc, hr⟩ := (hx.kp hkb).at_ lx
          have hfl := Lib.hid (flat_take_succ lx)
          have hlen : ((rows.take j).flatten).length + rows[j].length ≤ 4194304 := by
            rw [flat_len, ← rowSum_take_succ lx]
            have := rowSum_take_le rows (j + 1)
            omega
          go_wp2_with (at_builtin; go_loud (refine wpl_app_all rfl (.tmp 31) (.tmp 32) rfl w.heap.size _ ((rows.take j).flatten) rows[j] A rows[j].length ca rfl rfl hown hr rfl hkb.le hlen ?_); intro v' w' ho' ht' _; have hkb' := hown.kp_turn hkb (Nat.le_refl _) ht')
          go_roundw
          case rel => exact ⟨j + 1, by omega, by go_num, by rw [hfl.out]; exact ho', hkb'⟩
          case measure => simp [intOf]; omega
        · obtain rfl : j = k := by omega
          go_wp2_with fail
          go_ret
          exact ⟨_, rfl, by rw [htk.out] at hown; exact hown, hkb⟩

end Go.Proofs.YtpiijhfjliolfaaGreat

namespace Go.Proofs.YtpiijhfjliolfaaGreat
open Go.RowKit Go.Sort Go.Shelf

def delL_ren : Go.Shelf.Ren := ⟨fun | 10 => 94 | 6 => 93 | n => n, fun | 22 => 25 | 23 => 24 | 25 => 71 | 3 => 3 | 4 => 4 | 0 => 0 | n => n, fun | n => n⟩
theorem delL : Go.Proofs.SlLaysH.n10 Tryz.prog delL_ren := {
  mixed := by kernel_rfl
  f6 := ⟨Tryz.f93.name, by decide, Tryz.func93.trans (congrArg some (by kernel_rfl))⟩
  f10 := ⟨Tryz.f94.name, by decide, Tryz.func94.trans (congrArg some (by kernel_rfl))⟩
  t0 := Tryz.underlying0
  a0 := Tryz.isAgg0
  z0 := Tryz.sizeOf0
  v0 := Tryz.zeroValue0
  t3 := Tryz.underlying3
  a3 := Tryz.isAgg3
  z3 := Tryz.sizeOf3
  v3 := Tryz.zeroValue3
  t4 := Tryz.underlying4
  a4 := Tryz.isAgg4
  z4 := Tryz.sizeOf4
  v4 := Tryz.zeroValue4
  t22 := Tryz.underlying25
  a22 := Tryz.isAgg25
  z22 := Tryz.sizeOf25
  v22 := Tryz.zeroValue25
  a23 := Tryz.isAgg24
  z23 := Tryz.sizeOf24
  t25 := Tryz.underlying71
  a25 := Tryz.isAgg71
  z25 := Tryz.sizeOf71
  v25 := Tryz.zeroValue71 }
end Go.Proofs.YtpiijhfjliolfaaGreat

namespace Go.Proofs.YtpiijhfjliolfaaGreat
open Go.RowKit Go.Sort Go.Shelf

theorem rows_map (rows : List (List Int)) : (List.range rows.length).map (rowD rows) = rows := by
  apply List.ext_getElem
  · simp
  · intro i hi hi2
    simp [rowD, List.getD, hi2]
theorem rowD_lt {rows : List (List Int)} {i : Nat} (h : i < rows.length) : rowD rows i = rows[i] := by simp [rowD, List.getD, h]
theorem fil_map (rows : List (List Int)) (q : List Int → Bool) : ((List.range rows.length).filter fun i => q (rowD rows i)).map (rowD rows) = rows.filter q := by
  conv => rhs; rw [← rows_map rows]
  rw [List.filter_map]; rfl
theorem fil_get {rows : List (List Int)} {q : List Int → Bool} {k : Nat} (hk : k < (rows.filter q).length) : ∃ h : k < ((List.range rows.length).filter fun i => q (rowD rows i)).length, (rows.filter q)[k] = rowD rows ((List.range rows.length).filter fun i => q (rowD rows i))[k] ∧ ((List.range rows.length).filter fun i => q (rowD rows i))[k] < rows.length := by
  have e := fil_map rows q
  have hl : ((List.range rows.length).filter fun i => q (rowD rows i)).length = (rows.filter q).length := by rw [← e, List.length_map]
  have h : k < ((List.range rows.length).filter fun i => q (rowD rows i)).length := by omega
  refine ⟨h, ?_, ?_⟩
  · have : ((((List.range rows.length).filter fun i => q (rowD rows i)).map (rowD rows)))[k]'(by rw [List.length_map]; exact h) = (rows.filter q)[k] := by simp only [e]
    rw [← this, List.getElem_map]
  · have := List.getElem_mem h
    rw [List.mem_filter] at this
    simpa using this.1
set_option maxHeartbeats 1000000 in
theorem del_any {base : Nat} {lo : Option Nat} {v : Value} {rows : List (List Int)} {w : World} (h : GOwn w lo base v rows) (hv : v ≠ .slice none 0 0) (h0 : rows ≠ []) (hl : rows.length ≤ 1000000)
    (FN : Nat) (lb : Array Value) (p : List Int → Bool) (Q : List Int → Prop) (eg : ∀ args w, (callFunc FN args).run Tryz.prog w = .ok (.enter FN args) w) (hq : ∀ S ∈ rows, Q S) (hq0 : Q [])
    (hC : ∀ (W : World) (A : Option Addr) (xs : List Int) (n c : Nat), Turn (fun i => v.ownBlock = some i) w W → Q xs → IntsAt W A xs → xs.length = n → Calls Tryz.prog FN (#[.slice A n c] ++ lb) W fun e w' => e = .returned (.bool (p xs)) ∧ ∃ q, w' = W.drewN q) :
    Calls Tryz.prog 94 #[v, .func (.func FN) #[] lb] w fun e w' => ∃ ad c, e = .returned (.slice (some ad) (rows.filter fun s => !p s).length c) ∧ RowsAt w' lo (some ad) (rows.filter fun s => !p s) ∧ Turn (fun i => v.ownBlock = some i) w w' := by
  obtain ⟨hs, h1, h2⟩ := h
  have hlen : hs.length = rows.length := by rw [h1.1]; omega
  rcases id h1.2 with ⟨rfl, _⟩ | ⟨g, cap, cur, rfl, hb, hg, hn, hm, hsz, ht⟩
  · exact absurd rfl hv
  have hblk : g < w.heap.size := (World.ownsRow.lt h1 g rfl).2
  have hs0 : hs = (List.range rows.length).map (hdD hs) := by
    apply List.ext_getElem
    · simp [hlen]
    · intro i hi hi2
      simp [hdD, List.getD, hi]
  have h1' : w.ownsRow base 24 1 (.slice (some ⟨g, 0, none⟩) rows.length cap) rows.length ((List.range rows.length).map (hdD hs)) := by rw [← hs0]; exact h1
  obtain ⟨g2, cap2, e2, _, hcap, _, _, _, hH⟩ := Lib.holds_of_ownsRow h1' (by simp)
  simp only [Value.slice.injEq, Option.some.injEq, Addr.mk.injEq] at e2
  obtain ⟨⟨rfl, _, _⟩, _, rfl⟩ := e2
  have one : OneCell (hdD hs) := fun i => by
    by_cases hi : i < rows.length
    · obtain ⟨u, e1, e2, _⟩ := h2 i hi
      have := e2.one
      simp [hdD, List.getD, e1, this]
    · simp [hdD, List.getD, List.getElem?_eq_none (show hs.length ≤ i by omega), Value.oneCell']
  have key : ∀ (W : World), Turn (fun i => i = g) w W → ∀ i, FnGives Tryz.prog FN lb #[hdD hs i] (.bool (p (rowD rows i))) W := fun W hT i => by
    have hT2 : Turn (fun i => (Value.slice (some ⟨g, 0, none⟩) rows.length cap).ownBlock = some i) w W := hT.mono (fun i hi => by rw [hi]; rfl)
    unfold FnGives
    by_cases hi : i < rows.length
    · obtain ⟨u, e1, e2, e3⟩ := h2 i hi
      have er : rowD rows i = rows[i] := by simp [rowD, List.getD, hi]
      obtain ⟨A, c, rfl, _, e5⟩ := (e2.turn hT (fun hn g' hg' hh => e3 hn g' hg' (by rw [hh]; rfl))).read
      have eh : hdD hs i = .slice A rows[i].length c := by simp [hdD, List.getD, e1]
      rw [eh, er]
      exact hC W A rows[i] _ c hT2 (hq _ (List.getElem_mem hi)) e5 rfl
    · have eh : hdD hs i = .slice none 0 0 := by simp [hdD, List.getD, List.getElem?_eq_none (show hs.length ≤ i by omega)]
      have er : rowD rows i = [] := by simp [rowD, List.getD, List.getElem?_eq_none (show rows.length ≤ i by omega)]
      rw [eh, er]
      exact hC W none [] 0 0 hT2 hq0 (IntsAt.nil _ _) rfl
  have hH' : Holds (hdD hs) w g 0 (Array.range rows.length) := by
    have e : (List.range rows.length).toArray = Array.range rows.length := by simp
    rw [← e]; exact hH
  have hcon := AnyE.slices_DeleteFunc delL (hdD hs) one (fun i => p (rowD rows i)) FN lb eg rows.length (fun w => by
      have e : hdD hs rows.length = .slice none 0 0 := by simp [hdD, List.getD, List.getElem?_eq_none (show hs.length ≤ rows.length by omega)]
      rw [e]; exact Tryz.zeroValue24 w) g 0 cap (Array.range rows.length) w
    (fun W x hb => key W ⟨hb.os, hb.tape, hb.output, hb.size, fun k hk _ => hb.block k hk⟩ x)
    (fun n os dk x _ => key (sortWorld (hdD hs) w g 0 n dk os) ⟨rfl, rfl, rfl, by simp [sortWorld], fun i hi hn => by
      unfold sortWorld
      rw [heap_grow_old _ _ (by simpa using hi)]
      simp [putRow, mapBlock, Sort.ahead, Array.getElem?_modify, Ne.symm hn]⟩ x) hH' (by rw [Array.size_range]; omega) (by rw [Array.size_range]; omega)
  have el : ((Array.range rows.length).toList.filter fun x => !p (rowD rows x)) = (List.range rows.length).filter fun x => !p (rowD rows x) := by simp
  have ell : ((List.range rows.length).filter fun x => !p (rowD rows x)).length = (rows.filter fun s => !p s).length := by
    rw [← fil_map rows (fun s => !p s), List.length_map]
  have hle : (rows.filter fun s => !p s).length ≤ rows.length := List.length_filter_le _ _
  rw [el, Array.size_range] at hcon
  refine Calls.mono hcon ?_
  rintro e w' ⟨rfl, q, rfl⟩
  have hT : Turn (fun i => i = g) w (putRow (hdD hs) (Sort.ahead w q) g 0 (((List.range rows.length).filter fun x => !p (rowD rows x)) ++ List.replicate (rows.length - ((List.range rows.length).filter fun x => !p (rowD rows x)).length) rows.length).toArray) := ⟨rfl, rfl, rfl, by simp [putRow, mapBlock, Sort.ahead], fun i hi hn => by
    simp [putRow, mapBlock, Sort.ahead, Array.getElem?_modify, Ne.symm hn]⟩
  have hHd := holds_putRow (hdD hs) (Sort.ahead w q) g 0 (Array.range rows.length) (((List.range rows.length).filter fun x => !p (rowD rows x)) ++ List.replicate (rows.length - ((List.range rows.length).filter fun x => !p (rowD rows x)).length) rows.length).toArray (holds_ahead _ w q g 0 _ hH') (by simp; omega)
  refine ⟨⟨g, 0, none⟩, cap, by rw [ell], ⟨by omega, fun k hk => ?_⟩, hT.mono (fun i hi => by rw [hi]; rfl)⟩
  obtain ⟨hk2, ek, hlt⟩ := fil_get hk
  obtain ⟨u, e1, e2, e3⟩ := h2 _ hlt
  have er : rowD rows ((List.range rows.length).filter fun i => !p (rowD rows i))[k] = rows[((List.range rows.length).filter fun i => !p (rowD rows i))[k]] := rowD_lt hlt
  refine ⟨⟨g, 0, none⟩, u, rfl, ?_, ?_⟩
  · have hc := (hHd k (by simp; omega)).1
    have ea : (Addr.mk g 0 none).add k = ⟨g, 0 + k, none⟩ := by simp [Addr.add]; exact fun h => h.symm
    rw [ea, hc]
    congr 1
    rw [getElem!_pos _ k (by simp; omega)]
    simp only [List.getElem_toArray]
    rw [List.getElem_append_left hk2]
    simp [hdD, List.getD, e1]
  · rw [ek, er]
    exact e2.turn hT (fun hn g' hg' hh => e3 hn g' hg' (by rw [hh]; rfl))
end Go.Proofs.YtpiijhfjliolfaaGreat

namespace Go.Proofs.YtpiijhfjliolfaaGreat
open Go.RowKit Go.Sort

def mcB (F : Fld) (k : Int) : Bool := goodF F && inB k 1 F.op.length
set_option maxRecDepth 100000 in
set_option maxHeartbeats 1000000 in
theorem isMedianCase_any (f : Value) (F : Fld) (k : Int) (w : World) (hf : FldAt w f F) :
    Calls Tryz.prog 46 #[f, .int .i64 k] w fun e w' => e = .returned (.bool (mcB F k)) ∧ Kp w w' := by
  obtain ⟨A, c, B, d, rfl, hA, hB⟩ := hf
  have hk0 : Kp w (w.alloc (.cells #[.slice A F.op.length c, .slice B F.di.length d] 27)) := (Kp.refl w).alloc _
  obtain ⟨d0, d1⟩ := box2 w (.slice A F.op.length c) (.slice B F.di.length d) 27
  have hFA := FldAt.kp (show FldAt w (.agg #[.slice A F.op.length c, .slice B F.di.length d]) F from ⟨A, c, B, d, rfl, hA, hB⟩) hk0
  clear hA hB
  have CC := Lib.hid (isField_any _ F _ hFA)
  go_enter Tryz.func46, Tryz.ntmps46
  go_wp2_with fail
  have hsz : Hid ((w.alloc (.cells #[.slice A F.op.length c, .slice B F.di.length d] 27)).heap.size = w.heap.size + 1) := by show _ = _; simp
  generalize w.alloc (.cells #[.slice A F.op.length c, .slice B F.di.length d] 27) = wb at *
  have hkb : Kp wb wb := Kp.refl _
  have hkw := hk0
  with_reducible refine Calls.mono CC.out ?_
  rintro e w1 ⟨rfl, hk1⟩
  clear CC
  replace hkb := hkb.trans hk1
  cases hg_ : goodF F
  · have Hno : Hid (mcB F k = false) := by show _ = _; rw [mcB, hg_]; rfl
    clear hg_
    have q_d0 := hkb.get d0
    have q_d1 := hkb.get d1
    go_wp2_with fail
    go_ret
    exact ⟨by rw [Hno.out]; rfl, hkw.trans hkb⟩
  have Hg := Lib.hid hg_; clear hg_
  have q_d0 := hkb.get d0
  have q_d1 := hkb.get d1
  go_wp2_with fail
  have CC := Lib.hid (between_any k 1 (F.op.length : Int) w1)
  with_reducible refine Calls.mono CC.out ?_
  rintro e w2 ⟨rfl, rfl⟩
  clear CC
  have He : Hid (mcB F k = inB k 1 (F.op.length : Int)) := by show _ = _; rw [mcB, Hg.out, Bool.true_and]
  clear q_d0 q_d1
  have q_d0 := hkb.get d0
  have q_d1 := hkb.get d1
  go_wp2_with fail
  go_ret
  exact ⟨by rw [He.out]; rfl, hkw.trans hkb⟩
theorem rowSum_flat {F : Fld} (hg : goodF F = true) : rowSum F.di ≤ 49 := by rw [← flat_len]; exact flat_len49 hg
set_option maxRecDepth 100000 in
set_option maxHeartbeats 1000000 in
theorem allLengths_any (f : Value) (F : Fld) (w : World) (hf : FldAt w f F) (hg : goodF F = true) :
    Calls Tryz.prog 48 #[f] w fun e w' => ∃ A c, e = .returned (.slice A (lensF F).length c) ∧ (lensF F).length ≤ c ∧ IntsAt w' A (lensF F) ∧ Kp w w' := by
  have HS := Lib.hid (rowSum_flat hg)
  have HL := Lib.hid (flat_len49 hg)
  obtain ⟨A, c, B, d, rfl, hA, hB⟩ := hf
  have hk0 : Kp w (w.alloc (.cells #[.slice A F.op.length c, .slice B F.di.length d] 27)) := (Kp.refl w).alloc _
  obtain ⟨d0, d1⟩ := box2 w (.slice A F.op.length c) (.slice B F.di.length d) 27
  have hFA := FldAt.kp (show FldAt w (.agg #[.slice A F.op.length c, .slice B F.di.length d]) F from ⟨A, c, B, d, rfl, hA, hB⟩) hk0
  replace hB := hB.kp hk0
  clear hA hg
  go_enter Tryz.func48, Tryz.ntmps48
  go_wp2_with fail
  have hsz : Hid ((w.alloc (.cells #[.slice A F.op.length c, .slice B F.di.length d] 27)).heap.size = w.heap.size + 1) := by show _ = _; simp
  generalize w.alloc (.cells #[.slice A F.op.length c, .slice B F.di.length d] 27) = wb at *
  have hkb : Kp wb wb := Kp.refl _
  have hkw := hk0
  have CC := Lib.hid (concat_any B F.di F.di.length d wb hB rfl (by have := HS.out; omega))
  with_reducible refine Calls.mono CC.out ?_
  rintro e w1 ⟨v, rfl, ho, hk1⟩
  clear CC
  replace hkb := hkb.trans hk1
  have q_d0 := hkb.get d0
  have q_d1 := hkb.get d1
  go_wp2_with fail
  have CC := Lib.hid (sortI_any _ v _ w1 ho (by have := HL.out; omega))
  with_reducible refine Calls.mono CC.out ?_
  rintro e w2 ⟨rfl, ho2, ht2⟩
  clear CC
  have hkb2 : Kp wb w2 := hkb.turn ht2 (fun i hi => (ho.lt i hi).1)
  go_wp2_with fail
  have CC := Lib.hid (compactI_any _ v _ w2 ho2 (by rw [List.length_mergeSort]; have := HL.out; omega))
  with_reducible refine Calls.mono CC.out ?_
  rintro e w3 ⟨A', c', rfl, hc', hi', ht3⟩
  clear CC
  have hkb3 : Kp wb w3 := hkb2.turn ht3 (fun i hi => (ho2.lt i hi).1)
  go_wp2_with fail
  go_ret
  exact ⟨A', c', rfl, hc', hi', hkw.trans hkb3⟩
set_option maxRecDepth 100000 in
theorem upToClo_any (k : Int) (q : Nat) (w : World) (y0 : w.cell? ⟨q, 0, none⟩ = some (.int .i64 k)) (Av : Option Addr) (S : List Int) (n cv : Nat) (hn : S.length = n) :
    Calls Tryz.prog 95 #[.slice Av n cv, .pointer (some ⟨q, 0, none⟩)] w fun e w' => e = .returned (.bool (decide (k < (S.length : Int)))) ∧ ∃ q, w' = w.drewN q := by
  have Hn := Lib.hid hn; clear hn
  go_enter Tryz.func95, Tryz.ntmps95
  go_wp2_with fail
  go_ret
  exact ⟨by rw [Hn.out]; rfl, 0, rfl⟩
/-- The sets of at most k sites. -/
def atMost (F : Fld) (k : Int) : List (List Int) := (setsL F.op.length).filter fun S => decide ((S.length : Int) ≤ k)
theorem atMost_eq (F : Fld) (k : Int) : ((setsL F.op.length).filter fun S => !decide (k < (S.length : Int))) = atMost F k := by
  unfold atMost
  congr 1
  funext S
  by_cases h : k < (S.length : Int)
  · rw [decide_eq_true h, decide_eq_false (by omega)]; rfl
  · rw [decide_eq_false h, decide_eq_true (by omega)]; rfl
theorem atMost_len (F : Fld) (k : Int) (hg : goodF F = true) : (atMost F k).length ≤ 127 := by
  have h1 := List.length_filter_le (fun S : List Int => decide ((S.length : Int) ≤ k)) (setsL F.op.length)
  have h2 := setsL_len F.op.length
  have h3 : 2 ^ F.op.length ≤ 2 ^ 7 := Nat.pow_le_pow_right (by omega) (goodF_iff.1 hg).1.2
  unfold atMost
  omega
set_option maxRecDepth 100000 in
set_option maxHeartbeats 1000000 in
theorem upTo_any (f : Value) (F : Fld) (k : Int) (w : World) (hf : FldAt w f F) (hg : goodF F = true) :
    Calls Tryz.prog 50 #[f, .int .i64 k] w fun e w' => ∃ ad c, e = .returned (.slice (some ad) (atMost F k).length c) ∧ RowsAt w' (some w.heap.size) (some ad) (atMost F k) ∧ Kp w w' := by
  have hg7 := (goodF_iff.1 hg).1.2
  have hg1 := (goodF_iff.1 hg).1.1
  have HE := Lib.hid (atMost_eq F k)
  obtain ⟨A, c, B, d, rfl, hA, hB⟩ := hf
  have hmf : ∀ (fn : Fn) (first cap : Array Value) (w : World), (Instr.makeFunc fn first cap).run Tryz.prog w = .ok (.func fn first cap) w := fun _ _ _ _ => rfl
  have hk0 : Kp w ((w.alloc (.cells #[.slice A F.op.length c, .slice B F.di.length d] 27)).alloc (.cells #[.int .i64 k] 3)) := ((Kp.refl w).alloc _).alloc _
  obtain ⟨d0, d1⟩ := box2 w (.slice A F.op.length c) (.slice B F.di.length d) 27
  have g0 := ((Kp.refl _).alloc (.cells #[.int .i64 k] 3)).get d0
  have g1 := ((Kp.refl _).alloc (.cells #[.int .i64 k] 3)).get d1
  have g2 : ((w.alloc (.cells #[.slice A F.op.length c, .slice B F.di.length d] 27)).alloc (.cells #[.int .i64 k] 3)).cell? ⟨w.heap.size + 1, 0, none⟩ = some (.int .i64 k) := by
    rw [World.cell?_alloc_at _ _ _ _ (by simp)]; rfl
  have hsz : Hid (((w.alloc (.cells #[.slice A F.op.length c, .slice B F.di.length d] 27)).alloc (.cells #[.int .i64 k] 3)).heap.size = w.heap.size + 1 + 1) := by show _ = _; simp
  clear hA hB hg d0 d1
  go_enter Tryz.func50, Tryz.ntmps50
  go_wp2_with fail
  generalize (w.alloc (.cells #[.slice A F.op.length c, .slice B F.di.length d] 27)).alloc (.cells #[.int .i64 k] 3) = wb at *
  have CC := Lib.hid (sets_any F.op.length wb hg7)
  with_reducible refine Calls.mono CC.out ?_
  rintro e w1 ⟨v, rfl, hvn, hgo, hk1⟩
  clear CC
  have hgl := hgo.lt
  have e2 := hk1.get g2
  have hne0 : setsL F.op.length ≠ [] := fun e => by
    have h := setsL_len F.op.length
    rw [e] at h
    have h2 : 2 ^ 1 ≤ 2 ^ F.op.length := Nat.pow_le_pow_right (by omega) hg1
    simp only [List.length_nil] at h
    omega
  have hsl : (setsL F.op.length).length ≤ 127 := by rw [setsL_len]; have h128 : 2 ^ F.op.length ≤ 2 ^ 7 := Nat.pow_le_pow_right (by omega) hg7; omega
  have hap : ∀ i, i < wb.heap.size → ¬ v.ownBlock = some i := fun i hi e => by have := (hgl i e).1; omega
  have hsz2 := hsz.out
  have CD := Lib.hid (del_any hgo hvn hne0 (by omega) 95 #[.pointer (some ⟨w.heap.size + 1, 0, none⟩)] (fun S => decide (k < (S.length : Int))) (fun _ => True)
    (callFunc_of Tryz.func95 (by kernel_rfl) (by kernel_rfl)) (fun _ _ => trivial) trivial
    (fun W Av S n cv hT _ _ hn => upToClo_any k _ W (cell_turn e2 hT (hap _ (by show w.heap.size + 1 < _; omega))) Av S n cv hn))
  rw [HE.out] at CD
  clear hne0 hgo hap
  go_wp2_with fail
  with_reducible refine Calls.mono CD.out ?_
  rintro e w2 ⟨ad, cc, rfl, hrows, hT⟩
  clear CD
  have hk2 : Kp wb w2 := hk1.turn hT (fun i hi => (hgl i hi).1)
  go_wp2_with fail
  go_ret
  exact ⟨ad, cc, rfl, hrows.mono (by rw [hsz.out]; omega), hk0.trans hk2⟩
end Go.Proofs.YtpiijhfjliolfaaGreat

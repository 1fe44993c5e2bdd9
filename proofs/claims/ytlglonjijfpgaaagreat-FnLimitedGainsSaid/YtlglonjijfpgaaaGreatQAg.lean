/- What a slice of rows of the call's own holds when it has been sorted; The library's sort of a slice of rows, at this program; The comparisons of two sets, the reference's and the program's; All sets of some sites in their order, as the program tells them; All sets of some sites in their order, as the reference tells them. No condition. -/
import Derived.Test.YtlglonjijfpgaaaGreatQAb
import Derived.Test.YtlglonjijfpgaaaGreatQAf
import Derived.Shelf.SlSortCmp.Whole1
import Derived.Lib.OwnBridge
import Derived.Lib.AppendIntMem
import Derived.Test.YtlglonjijfpgaaaGreatQAa
import Derived.Test.YtlglonjijfpgaaaGreatQAd
import Derived.Deep.RegionHeld3
namespace Go.Proofs.YtlglonjijfpgaaaGreat
open Go.RowKit Go.Sort Go.Shelf

/-- Draws, and new blocks behind. -/
def Gw (w w' : World) : Prop := ∃ q os, w' = grow (w.drewN q) os
theorem Gw.refl (w : World) : Gw w w := ⟨0, #[], by rw [grow_empty]; rfl⟩
theorem Gw.drewN {a w : World} (h : Gw a w) (n : Nat) : Gw a (w.drewN n) := by
  obtain ⟨q, os, rfl⟩ := h
  refine ⟨q + n, os, ?_⟩
  rw [← World.drewN_drewN]; rfl
theorem Gw.drew {a w : World} (h : Gw a w) : Gw a w.drew := h.drewN 1
theorem Gw.alloc {a w : World} (h : Gw a w) (o : Obj) : Gw a (w.alloc o) := by
  obtain ⟨q, os, rfl⟩ := h
  refine ⟨q, os ++ #[o], ?_⟩
  rw [alloc_eq_grow, grow_grow]
theorem Gw.trans {a b c : World} (h : Gw a b) (k : Gw b c) : Gw a c := by
  obtain ⟨q, os, rfl⟩ := h
  obtain ⟨q2, os2, rfl⟩ := k
  refine ⟨q + q2, os ++ os2, ?_⟩
  rw [← grow_grow, ← World.drewN_drewN]; rfl
theorem Gw.kp {w w' : World} (h : Gw w w') : Kp w w' := by
  obtain ⟨q, os, rfl⟩ := h
  exact ⟨rfl, rfl, rfl, by simp, fun i hi => heap_grow_old (w.drewN q) os hi⟩
theorem Gw.of_dr {w w' : World} (h : Dr w w') : Gw w w' := by
  obtain ⟨q, rfl⟩ := h; exact (Gw.refl w).drewN q

def rowD (rows : List (List Int)) (i : Nat) : List Int := rows.getD i []
def hdD (hs : List Value) (i : Nat) : Value := hs.getD i (.slice none 0 0)
def cmpD (rows : List (List Int)) (i j : Nat) : Int := cmpS (rowD rows i) (rowD rows j)
theorem swo_cmpD (rows : List (List Int)) : SWO (ltOf (cmpD rows)) where
  irrefl x := befB_irrefl _
  trans x y z h1 h2 := befB_trans (a := rowD rows x) (b := rowD rows y) (c := rowD rows z) h1 h2
  ntrans x y z h1 h2 := by
    have e1 : befB (rowD rows x) (rowD rows y) = false := h1
    have e2 : befB (rowD rows y) (rowD rows z) = false := h2
    have h3 := notB_trans (rowD rows z) (rowD rows y) (rowD rows x) (by simp [notB, e2]) (by simp [notB, e1])
    have h4 : befB (rowD rows x) (rowD rows z) = false := by simpa [notB] using h3
    exact h4
/-- The comparison as the sort calls it. -/
theorem cmp_lays {g blk base : Nat} {lo : Option Nat} {hs : List Value} {rows : List (List Int)} {v : Value} {w : World} (size : Nat)
    (hC : ∀ (A1 A2 : Option Addr) (xs ys : List Int) (n m c d : Nat) (W : World), IntsAt W A1 xs → xs.length = n → IntsAt W A2 ys → ys.length = m → Calls Tryz.prog g #[.slice A1 n c, .slice A2 m d] W fun e w' => e = .returned (.int .i64 (cmpS xs ys)) ∧ Gw W w')
    (h1 : w.ownsRow base 24 1 v rows.length hs)
    (h2 : ∀ j (hj : j < rows.length), ∃ u, hs[j]? = some u ∧ RowP w lo u rows[j] ∧ ((rows[j] ≠ [] ∨ lo ≠ none) → ∀ i, u.ownBlock = some i → blk ≠ i)) :
    CmpLays1 Tryz.prog g #[] (hdD hs) (cmpD rows) blk 0 size w := by
  intro m os dk _ x y
  have hW : ∀ i, i ≠ blk → i < w.heap.size → (sortWorld (hdD hs) w blk 0 m dk os).heap[i]? = w.heap[i]? := fun i hi hlt => by
    unfold sortWorld
    rw [heap_grow_old _ _ (by simpa using hlt)]
    simp [putRow, mapBlock, Sort.ahead, Array.getElem?_modify, Ne.symm hi]
  have hT : Turn (fun i => i = blk) w (sortWorld (hdD hs) w blk 0 m dk os) := ⟨rfl, rfl, rfl, by simp [sortWorld], fun i hi hn => hW i hn hi⟩
  have hlen : hs.length = rows.length := by rw [h1.1]; omega
  have key : ∀ i, ∃ A n c, hdD hs i = .slice A n c ∧ (rowD rows i).length = n ∧ IntsAt (sortWorld (hdD hs) w blk 0 m dk os) A (rowD rows i) := fun i => by
    by_cases hi : i < rows.length
    · obtain ⟨u, e1, e2, e3⟩ := h2 i hi
      have er : rowD rows i = rows[i] := by simp [rowD, List.getD, hi]
      obtain ⟨A, c, rfl, _, e5⟩ := (e2.turn hT (fun hn g hg hh => e3 hn g hg hh.symm)).read
      refine ⟨A, rows[i].length, c, by simp [hdD, List.getD, e1], by rw [er], ?_⟩
      rw [er]
      exact e5
    · refine ⟨none, 0, 0, ?_, ?_, ?_⟩
      · simp [hdD, List.getD, List.getElem?_eq_none (show hs.length ≤ i by omega)]
      · simp [rowD, List.getD, List.getElem?_eq_none (show rows.length ≤ i by omega)]
      · have : rowD rows i = [] := by simp [rowD, List.getD, List.getElem?_eq_none (show rows.length ≤ i by omega)]
        rw [this]; exact IntsAt.nil _ _
  obtain ⟨A1, n1, c1, e1, l1, i1⟩ := key x
  obtain ⟨A2, n2, c2, e2, l2, i2⟩ := key y
  rw [e1, e2]
  exact hC A1 A2 _ _ n1 n2 c1 c2 _ i1 l1 i2 l2
/-- Behind the sort the same slice holds all the rows in order. -/
theorem gown_sorted {g cap base : Nat} {lo : Option Nat} {rows : List (List Int)} {hs : List Value} {w : World} {n : Nat} {os : Array Obj} {d' : Array Nat}
    (h1 : w.ownsRow base 24 1 (.slice (some ⟨g, 0, none⟩) rows.length cap) rows.length hs)
    (h2 : ∀ j (hj : j < rows.length), ∃ u, hs[j]? = some u ∧ RowP w lo u rows[j] ∧ ((rows[j] ≠ [] ∨ lo ≠ none) → ∀ i, u.ownBlock = some i → (Value.slice (some ⟨g, 0, none⟩) rows.length cap).ownBlock ≠ some i))
    (hp : PermIn 0 rows.length (Array.range rows.length) d') :
    GOwn (sortWorld (hdD hs) w g 0 n d' os) lo base (.slice (some ⟨g, 0, none⟩) rows.length cap) (d'.toList.map (rowD rows)) := by
  obtain ⟨hsz, _, hperm⟩ := hp
  have hlen : hs.length = rows.length := by rw [h1.1]; omega
  have hd : d'.size = rows.length := by simpa using hsz
  have hmem : ∀ i (hi : i < d'.size), d'[i] < rows.length := fun i hi => by
    have e : (d'.extract 0 rows.length) = d' := by rw [← hd]; simp
    rw [e] at hperm
    have h3 : d'[i] ∈ (Array.range rows.length).extract 0 rows.length := by
      have := hperm.subset (Array.getElem_mem_toList hi)
      simpa using this
    have e2 : (Array.range rows.length).extract 0 rows.length = Array.range rows.length := by
      have : rows.length = (Array.range rows.length).size := by simp
      conv => lhs; rw [this]
      simp
    rw [e2] at h3
    simpa using h3
  have hs0 : hs = (List.range rows.length).map (hdD hs) := by
    apply List.ext_getElem
    · simp [hlen]
    · intro i hi hi2
      simp [hdD, List.getD, hi]
  have h1' : w.ownsRow base 24 1 (.slice (some ⟨g, 0, none⟩) rows.length cap) rows.length ((List.range rows.length).map (hdD hs)) := by rw [← hs0]; exact h1
  have h3 := Lib.ownsRow_putRow (q := n) (k := rows.length) (ys := d'.toList) h1' (by simpa using hd) (Nat.le_refl _)
  rw [List.take_of_length_le (by simp; omega)] at h3
  have h4 := Lib.ownsRow_grow h3 0 os
  have hT : Turn (fun i => i = g) w (sortWorld (hdD hs) w g 0 n d' os) := ⟨rfl, rfl, rfl, by simp [sortWorld], fun i hi hn => by
    unfold sortWorld
    rw [heap_grow_old _ _ (by simpa using hi)]
    simp [putRow, mapBlock, Sort.ahead, Array.getElem?_modify, Ne.symm hn]⟩
  refine ⟨d'.toList.map (hdD hs), ?_, fun j hj => ?_⟩
  · have e : (d'.toList.map (rowD rows)).length = rows.length := by simp [hd]
    rw [e]
    exact h4
  · have hj' : j < d'.size := by simpa using hj
    have hm := hmem j hj'
    obtain ⟨u, e1, e2, e3⟩ := h2 _ hm
    have er : (d'.toList.map (rowD rows))[j] = rows[d'[j]] := by simp [rowD, List.getD, hm]
    rw [er]
    refine ⟨u, ?_, e2.turn hT (fun hn i hi hh => e3 hn i hi (by rw [hh]; rfl)), e3⟩
    simp [hj', hdD, List.getD, e1]
theorem perm_full {m : Nat} {d' : Array Nat} (hp : PermIn 0 m (Array.range m) d') : d'.toList.Perm (List.range m) := by
  obtain ⟨hsz, _, hperm⟩ := hp
  have hd : d'.size = m := by simpa using hsz
  have e : (d'.extract 0 m) = d' := by rw [← hd]; simp
  have e2 : (Array.range m).extract 0 m = Array.range m := by
    have : m = (Array.range m).size := by simp
    conv => lhs; rw [this]
    simp
  rw [e, e2] at hperm
  simpa using hperm
theorem rows_range (rows : List (List Int)) : (List.range rows.length).map (rowD rows) = rows := by
  apply List.ext_getElem
  · simp
  · intro i hi hi2
    simp [rowD, List.getD, hi2]
/-- Sorted, they are all sets in their order. -/
theorem sorted_sets {n : Nat} {rows : List (List Int)} {d' : Array Nat} (hr : rows.Perm (codesL n)) (hp : PermIn 0 rows.length (Array.range rows.length) d') (hs : SortedIn (ltOf (cmpD rows)) 0 rows.length d') : d'.toList.map (rowD rows) = setsL n := by
  have hsz : d'.size = rows.length := by have := hp.1; simpa using this
  have hperm : (d'.toList.map (rowD rows)).Perm rows := by
    have := (perm_full hp).map (rowD rows)
    rwa [rows_range] at this
  have hall := hperm.trans hr
  refine setsL_uniq hall ?_
  have hnd : (d'.toList.map (rowD rows)).Nodup := hall.nodup_iff.2 (codesL_nodup n)
  unfold List.Nodup at hnd
  rw [List.pairwise_iff_getElem] at hnd ⊢
  intro i j hi hj hij
  have h3 := hnd i j hi hj hij
  have hi' : i < d'.size := by simpa using hi
  have hj' : j < d'.size := by simpa using hj
  have h4 := hs i j (Nat.zero_le _) hij (by omega)
  rw [getElem!_pos d' i hi', getElem!_pos d' j hj'] at h4
  have h5 : befB (d'.toList.map (rowD rows))[j] (d'.toList.map (rowD rows))[i] = false := by
    rw [List.getElem_map, List.getElem_map]
    exact h4
  cases hh : befB (d'.toList.map (rowD rows))[i] (d'.toList.map (rowD rows))[j] with
  | true => rfl
  | false => exact absurd (befB_total hh h5) h3
end Go.Proofs.YtlglonjijfpgaaaGreat

namespace Go.Proofs.YtlglonjijfpgaaaGreat
open Go.RowKit Go.Sort Go.Shelf

def sortL_ren : Go.Shelf.Ren := ⟨fun | 6 => 86 | 15 => 100 | 14 => 99 | 28 => 116 | 29 => 117 | 20 => 108 | 21 => 109 | 22 => 110 | 23 => 111 | 24 => 112 | 25 => 113 | 26 => 114 | 27 => 115 | 46 => 119 | 47 => 120 | 48 => 121 | 49 => 122 | 50 => 123 | 57 => 124 | n => n, fun | 22 => 25 | 24 => 24 | 25 => 92 | 3 => 3 | 39 => 70 | 0 => 0 | 53 => 107 | 55 => 60 | 4 => 4 | 46 => 101 | 45 => 100 | 50 => 36 | 5 => 5 | 9 => 9 | 66 => 109 | 70 => 113 | 76 => 115 | 77 => 116 | n => n, fun | n => n⟩
theorem sortL : Go.Proofs.SlLaysF.n6 Tryz.prog sortL_ren := {
  mixed := by kernel_rfl
  f6 := ⟨Tryz.f86.name, by decide, Tryz.func86.trans (congrArg some (by kernel_rfl))⟩
  f14 := ⟨Tryz.f99.name, by decide, Tryz.func99.trans (congrArg some (by kernel_rfl))⟩
  f15 := Tryz.func100.trans (congrArg some (by kernel_rfl))
  f20 := ⟨Tryz.f108.name, by decide, Tryz.func108.trans (congrArg some (by kernel_rfl))⟩
  f21 := ⟨Tryz.f109.name, by decide, Tryz.func109.trans (congrArg some (by kernel_rfl))⟩
  f22 := ⟨Tryz.f110.name, by decide, Tryz.func110.trans (congrArg some (by kernel_rfl))⟩
  f23 := ⟨Tryz.f111.name, by decide, Tryz.func111.trans (congrArg some (by kernel_rfl))⟩
  f24 := ⟨Tryz.f112.name, by decide, Tryz.func112.trans (congrArg some (by kernel_rfl))⟩
  f25 := ⟨Tryz.f113.name, by decide, Tryz.func113.trans (congrArg some (by kernel_rfl))⟩
  f26 := ⟨Tryz.f114.name, by decide, Tryz.func114.trans (congrArg some (by kernel_rfl))⟩
  f27 := ⟨Tryz.f115.name, by decide, Tryz.func115.trans (congrArg some (by kernel_rfl))⟩
  f28 := Tryz.func116.trans (congrArg some (by kernel_rfl))
  f29 := Tryz.func117.trans (congrArg some (by kernel_rfl))
  f46 := ⟨Tryz.f119.name, by decide, Tryz.func119.trans (congrArg some (by kernel_rfl))⟩
  f47 := Tryz.func120.trans (congrArg some (by kernel_rfl))
  f48 := Tryz.func121.trans (congrArg some (by kernel_rfl))
  f49 := ⟨Tryz.f122.name, by decide, Tryz.func122.trans (congrArg some (by kernel_rfl))⟩
  f50 := ⟨Tryz.f123.name, by decide, Tryz.func123.trans (congrArg some (by kernel_rfl))⟩
  f57 := ⟨Tryz.f124.name, by decide, Tryz.func124.trans (congrArg some (by kernel_rfl))⟩
  t0 := Tryz.underlying0
  a0 := Tryz.isAgg0
  z0 := Tryz.sizeOf0
  v0 := Tryz.zeroValue0
  t3 := Tryz.underlying3
  a3 := Tryz.isAgg3
  z3 := Tryz.sizeOf3
  v3 := Tryz.zeroValue3
  t4 := Tryz.underlying4
  a4 := Tryz.isAgg4
  z4 := Tryz.sizeOf4
  v4 := Tryz.zeroValue4
  t5 := Tryz.underlying5
  a5 := Tryz.isAgg5
  z5 := Tryz.sizeOf5
  v5 := Tryz.zeroValue5
  t9 := Tryz.underlying9
  a9 := Tryz.isAgg9
  z9 := Tryz.sizeOf9
  v9 := Tryz.zeroValue9
  t22 := Tryz.underlying25
  a22 := Tryz.isAgg25
  z22 := Tryz.sizeOf25
  v22 := Tryz.zeroValue25
  a24 := Tryz.isAgg24
  z24 := Tryz.sizeOf24
  t25 := Tryz.underlying92
  a25 := Tryz.isAgg92
  z25 := Tryz.sizeOf92
  v25 := Tryz.zeroValue92
  t39 := Tryz.underlying70
  a39 := Tryz.isAgg70
  z39 := Tryz.sizeOf70
  v39 := Tryz.zeroValue70
  t45 := Tryz.underlying100
  a45 := Tryz.isAgg100
  z45 := Tryz.sizeOf100
  v45 := Tryz.zeroValue100
  t46 := Tryz.underlying101
  a46 := Tryz.isAgg101
  z46 := Tryz.sizeOf101
  v46 := Tryz.zeroValue101
  t50 := Tryz.underlying36
  a50 := Tryz.isAgg36
  z50 := Tryz.sizeOf36
  v50 := Tryz.zeroValue36
  t53 := Tryz.underlying107
  a53 := Tryz.isAgg107
  z53 := Tryz.sizeOf107
  v53 := Tryz.zeroValue107
  t55 := Tryz.underlying60
  a55 := Tryz.isAgg60
  z55 := Tryz.sizeOf60
  v55 := Tryz.zeroValue60
  t66 := Tryz.underlying109
  a66 := Tryz.isAgg109
  z66 := Tryz.sizeOf109
  v66 := Tryz.zeroValue109
  t70 := Tryz.underlying113
  a70 := Tryz.isAgg113
  z70 := Tryz.sizeOf113
  v70 := Tryz.zeroValue113
  t76 := Tryz.underlying115
  a76 := Tryz.isAgg115
  z76 := Tryz.sizeOf115
  v76 := Tryz.zeroValue115
  t77 := Tryz.underlying116
  a77 := Tryz.isAgg116
  z77 := Tryz.sizeOf116
  v77 := Tryz.zeroValue116 }
end Go.Proofs.YtlglonjijfpgaaaGreat

namespace Go.Proofs.YtlglonjijfpgaaaGreat
open Go.RowKit Go.Sort

def cmpI (x y : Int) : Int := if x < y then -1 else if y < x then 1 else 0
def orL : List Int → Int
  | [] => 0
  | x :: xs => if x = 0 then orL xs else x
theorem orL_drop {xs : List Int} {k : Nat} (hk : k < xs.length) (h : xs[k] = 0) : orL (xs.drop k) = orL (xs.drop (k + 1)) := by
  rw [List.drop_eq_getElem_cons hk, orL, if_pos h]
theorem orL_at {xs : List Int} {k : Nat} (hk : k < xs.length) (h : xs[k] ≠ 0) : orL (xs.drop k) = xs[k] := by
  rw [List.drop_eq_getElem_cons hk, orL, if_neg h]
theorem isNaN_any (x : Int) (w : World) : Calls Tryz.prog 118 #[.int .i64 x] w fun e w' => e = .returned (.bool false) ∧ w = w' := by
  go_enter Tryz.func118, Tryz.ntmps118
  have h : (x != x) = false := by simp
  go_wp2_with fail
  go_ret
  exact ⟨rfl, rfl⟩
theorem compareI_any (x y : Int) (w : World) : Calls Tryz.prog 102 #[.int .i64 x, .int .i64 y] w fun e w' => e = .returned (.int .i64 (cmpI x y)) ∧ w = w' := by
  go_enter Tryz.func102, Tryz.ntmps102
  go_wp2_with fail
  have CC := Lib.hid (isNaN_any x w)
  with_reducible refine Calls.mono CC.out ?_
  rintro e w1 ⟨rfl, hw⟩
  obtain rfl := hw
  clear CC
  go_wp2_with fail
  have CC := Lib.hid (isNaN_any y w)
  with_reducible refine Calls.mono CC.out ?_
  rintro e w2 ⟨rfl, hw⟩
  obtain rfl := hw
  clear CC
  by_cases h1 : x < y
  · have e : Hid (cmpI x y = -1) := by show cmpI x y = _; simp [cmpI, h1]
    go_wp2_with fail
    go_ret
    exact ⟨ret_int e.out.symm, rfl⟩
  · by_cases h2 : y < x
    · have e : Hid (cmpI x y = 1) := by show cmpI x y = _; simp [cmpI, h1, h2]
      go_wp2_with fail
      go_ret
      exact ⟨ret_int e.out.symm, rfl⟩
    · have e : Hid (cmpI x y = 0) := by show cmpI x y = _; simp [cmpI, h1, h2]
      go_wp2_with fail
      go_ret
      exact ⟨ret_int e.out.symm, rfl⟩
theorem or_any (A0 : Option Addr) (xs : List Int) (n c0 : Nat) (w : World) (hS : IntsAt w A0 xs) (hn : xs.length = n) :
    Calls Tryz.prog 101 #[.slice A0 n c0] w fun e w' => e = .returned (.int .i64 (orL xs)) ∧ w = w' := by
  have hm : n ≤ 9223372036854775807 := hn ▸ hS.1
  have Hn := Lib.hid hn; clear hn
  go_enter Tryz.func101, Tryz.ntmps101
  go_wp2_with fail
  go_loop [8] (fun iv => ∃ k : Nat, k ≤ n ∧ iv = .int .i64 k ∧ Hid (orL (xs.drop k) = orL xs)) (fun iv => n - (intOf iv).toNat)
  case atStart => exact ⟨0, by omega, rfl, rfl⟩
  case round =>
    obtain ⟨k, hk, rfl, Hp⟩ := hrel
    by_cases hlt : k < n
    · have lx : k < xs.length := by rw [Hn.out]; exact hlt
      obtain ⟨ad, rfl, hc⟩ := hS.at_ lx
      cases ht : (xs[k] != 0)
      · have e0 : xs[k] = 0 := by simpa using ht
        have Hy := Lib.hid ((orL_drop lx e0).symm.trans Hp.out)
        clear e0
        go_wp2_with fail
        go_round
        case rel => exact ⟨k + 1, by omega, by go_num, Hy⟩
        case measure => simp [intOf]; omega
      · have e0 : xs[k] ≠ 0 := by simpa using ht
        have Hy := Lib.hid ((orL_at lx e0).symm.trans Hp.out)
        clear e0
        go_wp2_with fail
        go_ret
        exact ⟨ret_int Hy.out, rfl⟩
    · have e0 : xs.drop k = [] := List.drop_eq_nil_of_le (by rw [Hn.out]; omega)
      have Hy : Hid (orL xs = 0) := by show orL xs = 0; rw [← Hp.out, e0]; rfl
      clear e0
      go_wp2_with fail
      go_ret
      exact ⟨ret_int Hy.out.symm, rfl⟩
theorem lexC_cons (x y : Int) (xs ys : List Int) : lexC (x :: xs) (y :: ys) = if x < y then -1 else if y < x then 1 else lexC xs ys := rfl
theorem lexC_step {xs ys : List Int} {k : Nat} (hx : k < xs.length) (hy : k < ys.length) : lexC (xs.drop k) (ys.drop k) = if cmpI xs[k] ys[k] = 0 then lexC (xs.drop (k + 1)) (ys.drop (k + 1)) else cmpI xs[k] ys[k] := by
  rw [List.drop_eq_getElem_cons hx, List.drop_eq_getElem_cons hy, lexC_cons]
  unfold cmpI
  by_cases h1 : xs[k] < ys[k]
  · simp [h1]
  · by_cases h2 : ys[k] < xs[k]
    · simp [h1, h2]
    · simp [h1, h2]
theorem slicesCompare_any (A1 A2 : Option Addr) (xs ys : List Int) (n m c d : Nat) (w : World) (h1 : IntsAt w A1 xs) (hn : xs.length = n) (h2 : IntsAt w A2 ys) (hm : ys.length = m) :
    Calls Tryz.prog 103 #[.slice A1 n c, .slice A2 m d] w fun e w' => e = .returned (.int .i64 (lexC xs ys)) ∧ w = w' := by
  have hn9 : n ≤ 9223372036854775807 := hn ▸ h1.1
  have hm9 : m ≤ 9223372036854775807 := hm ▸ h2.1
  have Hn := Lib.hid hn; clear hn
  have Hm := Lib.hid hm; clear hm
  go_enter Tryz.func103, Tryz.ntmps103
  go_wp2_with fail
  go_loop [11] (fun iv => ∃ k : Nat, k ≤ n ∧ k ≤ m ∧ iv = .int .i64 k ∧ Hid (lexC (xs.drop k) (ys.drop k) = lexC xs ys)) (fun iv => n - (intOf iv).toNat)
  case atStart => exact ⟨0, by omega, by omega, rfl, rfl⟩
  case round =>
    obtain ⟨k, hk, hkm, rfl, Hp⟩ := hrel
    by_cases hlt : k < n
    · have lx : k < xs.length := by rw [Hn.out]; exact hlt
      obtain ⟨ad, rfl, hc⟩ := h1.at_ lx
      by_cases hlt2 : k < m
      · have ly : k < ys.length := by rw [Hm.out]; exact hlt2
        obtain ⟨bd, rfl, hd⟩ := h2.at_ ly
        have hst := Lib.hid (lexC_step lx ly)
        go_wp2_with fail
        have CC := Lib.hid (compareI_any xs[k] ys[k] w)
        with_reducible refine Calls.mono CC.out ?_
        rintro e w1 ⟨rfl, hw⟩
        obtain rfl := hw
        clear CC
        cases ht : (cmpI xs[k] ys[k] != 0)
        · have e0 : cmpI xs[k] ys[k] = 0 := by simpa using ht
          have Hy : Hid (lexC (xs.drop (k + 1)) (ys.drop (k + 1)) = lexC xs ys) := by show _ = _; rw [← Hp.out, hst.out, if_pos e0]
          clear e0
          go_wp2_with fail
          go_round
          case rel => exact ⟨k + 1, by omega, by omega, by go_num, Hy⟩
          case measure => simp [intOf]; omega
        · have e0 : ¬ cmpI xs[k] ys[k] = 0 := by simpa using ht
          have Hy : Hid (cmpI xs[k] ys[k] = lexC xs ys) := by show _ = _; rw [← Hp.out, hst.out, if_neg e0]
          clear e0
          go_wp2_with fail
          go_ret
          exact ⟨ret_int Hy.out, rfl⟩
      · have e0 : ys.drop k = [] := List.drop_eq_nil_of_le (by rw [Hm.out]; omega)
        have Hy : Hid (lexC xs ys = 1) := by show _ = _; rw [← Hp.out, e0, List.drop_eq_getElem_cons lx]; rfl
        clear e0
        go_wp2_with fail
        go_ret
        exact ⟨ret_int Hy.out.symm, rfl⟩
    · have e0 : xs.drop k = [] := List.drop_eq_nil_of_le (by rw [Hn.out]; omega)
      by_cases hlt2 : k < m
      · have ly : k < ys.length := by rw [Hm.out]; exact hlt2
        have Hy : Hid (lexC xs ys = -1) := by show _ = _; rw [← Hp.out, e0, List.drop_eq_getElem_cons ly]; rfl
        have hnm : n < m := by omega
        clear e0
        go_wp2_with fail
        go_ret
        exact ⟨ret_int Hy.out.symm, rfl⟩
      · have e1 : ys.drop k = [] := List.drop_eq_nil_of_le (by rw [Hm.out]; omega)
        have Hy : Hid (lexC xs ys = 0) := by show _ = _; rw [← Hp.out, e0, e1]; rfl
        have hnm : ¬ n < m := by omega
        clear e0 e1
        go_wp2_with fail
        go_ret
        exact ⟨ret_int Hy.out.symm, rfl⟩
theorem cmpS_or (a b : List Int) : orL [cmpI a.length b.length, lexC a b] = cmpS a b := by
  unfold cmpS cmpI
  by_cases h1 : a.length < b.length
  · simp [orL, h1]
  · by_cases h2 : b.length < a.length
    · simp [orL, h1, h2]
    · simp only [orL, h1, h2, Int.ofNat_lt, if_false, if_true]
      by_cases h3 : lexC a b = 0 <;> simp [h3]
theorem two_ints (w : World) (x y : Int) : IntsAt (w.alloc (.cells #[.int .i64 x, .int .i64 y] 3)) (some ⟨w.heap.size, 0, none⟩) [x, y] :=
  ⟨by simp, fun k hk => by
    have hk2 : k < 2 := by simpa using hk
    refine ⟨_, rfl, ?_⟩
    rw [add0, World.cell?_alloc_at _ _ _ _ rfl]
    match k, hk2 with
    | 0, _ => rfl
    | 1, _ => rfl⟩
theorem compareSets_any (A1 A2 : Option Addr) (xs ys : List Int) (n m c d : Nat) (w : World) (h1 : IntsAt w A1 xs) (hn : xs.length = n) (h2 : IntsAt w A2 ys) (hm : ys.length = m) :
    Calls Tryz.prog 87 #[.slice A1 n c, .slice A2 m d] w fun e w' => e = .returned (.int .i64 (cmpS xs ys)) ∧ Gw w w' := by
  have hn9 : n ≤ 9223372036854775807 := hn ▸ h1.1
  have hm9 : m ≤ 9223372036854775807 := hm ▸ h2.1
  have Hor : Hid (orL [cmpI n m, lexC xs ys] = cmpS xs ys) := by show _ = _; rw [← hn, ← hm]; exact cmpS_or xs ys
  have Hn := Lib.hid hn; clear hn
  have Hm := Lib.hid hm; clear hm
  go_enter Tryz.func87, Tryz.ntmps87
  go_wp2_with fail
  have CC := Lib.hid (compareI_any (n : Int) (m : Int) w)
  with_reducible refine Calls.mono CC.out ?_
  rintro e w1 ⟨rfl, hw⟩
  obtain rfl := hw
  clear CC
  go_wp2_with fail
  have CC := Lib.hid (slicesCompare_any A1 A2 xs ys n m c d w h1 Hn.out h2 Hm.out)
  with_reducible refine Calls.mono CC.out ?_
  rintro e w2 ⟨rfl, hw⟩
  obtain rfl := hw
  clear CC
  have T2 := Lib.hid (two_ints w (cmpI n m) (lexC xs ys))
  generalize cmpI n m = p at *
  generalize lexC xs ys = q at *
  go_wp2_with fail
  have CC := Lib.hid (or_any _ [p, q] 2 2 _ T2.out rfl)
  with_reducible refine Calls.mono CC.out ?_
  rintro e w3 ⟨rfl, hw⟩
  obtain rfl := hw
  clear CC
  go_wp2_with fail
  go_ret
  exact ⟨ret_int Hor.out, (Gw.refl w).alloc _⟩
theorem bef_len {a b : List Int} (h : a.length ≠ b.length) : befB a b = decide (a.length < b.length) := by
  unfold befB cmpS
  by_cases h1 : a.length < b.length
  · simp [h1]
  · simp [h1, show b.length < a.length by omega]
theorem bef_same {a b : List Int} (h : a.length = b.length) : befB a b = decide (lexC a b < 0) := by
  unfold befB cmpS
  simp [h]
theorem lexC_lt {xs ys : List Int} {k : Nat} (hx : k < xs.length) (hy : k < ys.length) (h : xs[k] ≠ ys[k]) : decide (lexC (xs.drop k) (ys.drop k) < 0) = decide (xs[k] < ys[k]) := by
  rw [lexC_step hx hy]
  unfold cmpI
  by_cases h1 : xs[k] < ys[k]
  · simp [h1]
  · simp [h1, show ys[k] < xs[k] by omega]
theorem lexC_same {xs ys : List Int} {k : Nat} (hx : k < xs.length) (hy : k < ys.length) (h : xs[k] = ys[k]) : lexC (xs.drop k) (ys.drop k) = lexC (xs.drop (k + 1)) (ys.drop (k + 1)) := by
  rw [lexC_step hx hy]
  simp [cmpI, h]
set_option maxHeartbeats 400000 in
theorem l2Before_any (A1 A2 : Option Addr) (xs ys : List Int) (n m c d : Nat) (w : World) (h1 : IntsAt w A1 xs) (hn : xs.length = n) (h2 : IntsAt w A2 ys) (hm : ys.length = m) :
    Calls Tryz.prog 88 #[.slice A1 n c, .slice A2 m d] w fun e w' => e = .returned (.bool (befB xs ys)) ∧ Dr w w' := by
  have hn9 : n ≤ 9223372036854775807 := hn ▸ h1.1
  have hm9 : m ≤ 9223372036854775807 := hm ▸ h2.1
  by_cases hnm : n = m
  · subst hnm
    have hne : ((n : Int) != (n : Int)) = false := by simp
    have Hb := Lib.hid (bef_same (a := xs) (b := ys) (hn.trans hm.symm))
    have Hn := Lib.hid hn; clear hn
    have Hm := Lib.hid hm; clear hm
    go_enter Tryz.func88, Tryz.ntmps88
    go_wp2_with fail
    go_loopw [5] (fun iv wr => ∃ k : Nat, k ≤ n ∧ iv = .int .i64 k ∧ Hid (lexC (xs.drop k) (ys.drop k) = lexC xs ys) ∧ Dr w wr) (fun iv _ => n - (intOf iv).toNat)
    case atStart => exact ⟨0, by omega, rfl, rfl, Dr.refl w⟩
    case round =>
      obtain ⟨k, hk, rfl, Hp, hdr⟩ := hrel
      by_cases hlt : k < n
      · have lx : k < xs.length := by rw [Hn.out]; exact hlt
        have ly : k < ys.length := by rw [Hm.out]; exact hlt
        obtain ⟨ad, rfl, hc⟩ := (h1.kp hdr.kp).at_ lx
        obtain ⟨bd, rfl, hd⟩ := (h2.kp hdr.kp).at_ ly
        cases ht : (xs[k] != ys[k])
        · have e0 : xs[k] = ys[k] := by simpa using ht
          have Hy := Lib.hid ((lexC_same lx ly e0).symm.trans Hp.out)
          clear e0
          go_wp2_with fail
          go_quiet (fail)
          go_wp2_with fail
          go_roundw
          case rel => exact ⟨k + 1, by omega, by go_num, Hy, hdr.drewN nq⟩
          case measure => simp [intOf]; omega
        · have e0 : xs[k] ≠ ys[k] := by simpa using ht
          have Hy : Hid (decide (xs[k] < ys[k]) = befB xs ys) := by show _ = _; rw [Hb.out, ← Hp.out]; exact (lexC_lt lx ly e0).symm
          clear e0
          go_wp2_with fail
          go_quiet (fail)
          go_wp2_with fail
          go_quiet (fail)
          go_wp2_with fail
          go_ret
          exact ⟨ret_bool Hy.out, (hdr.drewN _).drewN _⟩
      · have e0 : xs.drop k = [] := List.drop_eq_nil_of_le (by rw [Hn.out]; omega)
        have e1 : ys.drop k = [] := List.drop_eq_nil_of_le (by rw [Hm.out]; omega)
        have Hy : Hid (befB xs ys = false) := by show _ = _; rw [Hb.out, ← Hp.out, e0, e1]; rfl
        clear e0 e1
        go_wp2_with fail
        go_ret
        exact ⟨ret_bool Hy.out.symm, hdr⟩
  · have hne : ((n : Int) != (m : Int)) = true := by simp; omega
    have Hb : Hid (befB xs ys = decide (n < m)) := by show _ = _; rw [← hn, ← hm]; exact bef_len (by omega)
    have hd : decide (n < m) = decide ((n : Int) < (m : Int)) := by simp
    go_enter Tryz.func88, Tryz.ntmps88
    go_wp2_with fail
    go_ret
    exact ⟨ret_bool (by rw [Hb.out, hd]), Dr.refl w⟩
end Go.Proofs.YtlglonjijfpgaaaGreat

namespace Go.Proofs.YtlglonjijfpgaaaGreat
open Go.RowKit Go.Sort Go.Shelf

def rowsTo (n k : Nat) : List (List Int) := (List.range k).map fun c => bitsL n (c + 1)
theorem rowsTo_len (n k : Nat) : (rowsTo n k).length = k := by simp [rowsTo]
theorem rowsTo_succ (n k : Nat) : rowsTo n (k + 1) = rowsTo n k ++ [bitsL n (k + 1)] := by simp [rowsTo, List.range_succ]
theorem codesL_to (n : Nat) : codesL n = rowsTo n (2 ^ n - 1) := rfl
set_option maxHeartbeats 1000000 in
/-- The library's sort by compareSets. -/
theorem sort_any {n base : Nat} {lo : Option Nat} {v : Value} {rows : List (List Int)} {w : World} (h : GOwn w lo base v rows) (hv : v ≠ .slice none 0 0) (hr : rows.Perm (codesL n)) (hl : rows.length ≤ 1000000) :
    Calls Tryz.prog 86 #[v, .func (.func 87) #[] #[]] w fun e w' => e = .returned (.tuple #[]) ∧ GOwn w' lo base v (setsL n) ∧ Turn (fun i => v.ownBlock = some i) w w' := by
  obtain ⟨hs, h1, h2⟩ := h
  have hlen : hs.length = rows.length := by rw [h1.1]; omega
  rcases id h1.2 with ⟨rfl, _⟩ | ⟨g, cap, cur, rfl, hb, hg, hn, hm, hsz, ht⟩
  · exact absurd rfl hv
  have hblk : g < w.heap.size := (World.ownsRow.lt h1 g rfl).2
  have hs0 : hs = (List.range rows.length).map (hdD hs) := by
    apply List.ext_getElem
    · simp [hlen]
    · intro i hi hi2
      simp [hdD, List.getD, hi]
  have h1' : w.ownsRow base 24 1 (.slice (some ⟨g, 0, none⟩) rows.length cap) rows.length ((List.range rows.length).map (hdD hs)) := by rw [← hs0]; exact h1
  obtain ⟨g2, cap2, e2, _, _, _, _, _, hH⟩ := Lib.holds_of_ownsRow h1' (by simp)
  simp only [Value.slice.injEq, Option.some.injEq, Addr.mk.injEq] at e2
  obtain ⟨⟨rfl, _, _⟩, _, rfl⟩ := e2
  have one : OneCell (hdD hs) := fun i => by
    by_cases hi : i < rows.length
    · obtain ⟨u, e1, e2, _⟩ := h2 i hi
      have := e2.one
      simp [hdD, List.getD, e1, this]
    · simp [hdD, List.getD, List.getElem?_eq_none (show hs.length ≤ i by omega), Value.oneCell']
  have eg : ∀ args w, (callFunc 87 args).run Tryz.prog w = .ok (.enter 87 args) w := enters_of Tryz.func87 (by kernel_rfl) rfl
  have hcmp := cmp_lays (g := 87) (blk := g) rows.length (fun A1 A2 xs ys n m c d W q1 q2 q3 q4 => compareSets_any A1 A2 xs ys n m c d W q1 q2 q3 q4) h1 (fun j hj => by
    obtain ⟨u, e1, e2, e3⟩ := h2 j hj
    exact ⟨u, e1, e2, fun hn i hi hh => e3 hn i hi (by rw [← hh]; rfl)⟩)
  have hH' : Holds (hdD hs) w g 0 (Array.range rows.length) := by
    have e : (List.range rows.length).toArray = Array.range rows.length := by simp
    rw [← e]; exact hH
  have hcon := Any.slices_SortFunc sortL (hdD hs) one (cmpD rows) (swo_cmpD rows) 87 #[] g 0 cap (Array.range rows.length) w eg (by rw [Array.size_range]; exact hcmp) hH' hblk (by rw [Array.size_range]; omega)
  rw [Array.size_range] at hcon
  refine Calls.mono hcon ?_
  rintro e w' ⟨rfl, d', q, os, hp, hso, rfl⟩
  have hgo := gown_sorted (n := q) (os := os) h1 h2 hp
  rw [sorted_sets hr hp hso] at hgo
  refine ⟨rfl, hgo, rfl, rfl, rfl, by simp [sortWorld], fun i hi hn => ?_⟩
  have hne : g ≠ i := fun e => hn (by rw [e]; rfl)
  unfold sortWorld
  rw [heap_grow_old _ _ (by simpa using hi)]
  simp [putRow, mapBlock, Sort.ahead, Array.getElem?_modify, hne]
set_option maxRecDepth 100000 in
set_option maxHeartbeats 1000000 in
theorem sets_any (n : Nat) (w : World) (hn : n ≤ 7) :
    Calls Tryz.prog 67 #[.int .i64 n] w fun e w' => ∃ v, e = .returned v ∧ v ≠ .slice none 0 0 ∧ GOwn w' (some w.heap.size) w.heap.size v (setsL n) ∧ Kp w w' := by
  obtain ⟨P, HP, hpw, hP⟩ := pow_wrap (n : Int) (by omega) (by omega)
  rw [Int.toNat_natCast] at hpw
  have HP' : Hid (P = 2 ^ n) := by show P = _; simpa using HP.out
  have hpu := u64_one_shl (n : Int) (by omega) (by omega)
  rw [Int.toNat_natCast, ← HP'.out] at hpu
  have hP128 : P ≤ 128 := by rw [HP'.out]; exact Nat.pow_le_pow_right (by omega) hn
  have hP1 : 1 ≤ P := by rw [HP'.out]; exact Nat.one_le_two_pow
  go_enter Tryz.func67, Tryz.ntmps67
  go_wp2_with fail
  go_loopw [3, 4] (fun ov bv wr => ∃ b : Nat, 1 ≤ b ∧ b ≤ P ∧ bv = .int .u64 (b : Nat) ∧ Hid (ov ≠ .slice none 0 0) ∧ GOwn wr (some w.heap.size) w.heap.size ov (rowsTo n (b - 1)) ∧ Kp w wr) (fun _ bv _ => P - (intOf bv).toNat)
  case atStart => exact ⟨1, by omega, by omega, rfl, by show _ ≠ _; simp, gown_new w _ w.heap.size (Nat.le_refl _), (Kp.refl _).alloc _⟩
  case round =>
    obtain ⟨b, hb1, hk, rfl, Hv, hown, hkb⟩ := hrel
    by_cases hlt : b < P
    · have hb : b < 2 ^ n := by rw [← HP'.out]; exact hlt
      have Hb := Lib.hid hb
      clear hb
      have hlen := Lib.hid (rowsTo_len n (b - 1))
      have hlen2 : Hid ((rowsTo n (b - 1)).length < 1048576) := by show _ < _; rw [hlen.out]; omega
      have hg := Lib.hid (GOwn.lt hown)
      have hst : Hid (rowsTo n (b + 1 - 1) = rowsTo n (b - 1) ++ [bitsL n b]) := by
        show _ = _
        have := rowsTo_succ n (b - 1)
        rw [show b - 1 + 1 = b by omega] at this
        exact this
      have hkw := hkb
      go_wp2_with fail
      have CC := Lib.hid (list_any b n wr Hb.out (by omega))
      with_reducible refine Calls.mono CC.out ?_
      rintro e w1 ⟨v, rfl, ho, hk1⟩
      clear CC
      replace hkb := hkb.trans hk1
      replace hown := hown.kp hk1
      have hrp := Lib.hid ((RowP.of_own ho (by have := bitsL_len n b; omega)).mono (b' := w.heap.size) hkw.le)
      have hap := Lib.hid (fun (g : Nat) (e : v.ownBlock = some g) => (ho.lt g e).1)
      obtain ⟨Av, cv, hve, _⟩ := ho.ints (by have := bitsL_len n b; omega)
      subst hve
      clear ho
      go_wp2_with (at_builtin; refine wpl_appg rfl (.tmp 12) (.tmp 15) rfl w.heap.size _ (rowsTo n (b - 1)) (bitsL n b) (.slice Av (bitsL n b).length cv) rfl rfl hown hrp.out (fun _ g e hh => by have h1 := hap.out g e; have h2 := (hg.out _ hh).2; omega) hkb.le hlen2.out ?_; intro v' w' ho' ht' h4'; have hkb' := hkb.turn ht' (fun i hi => (hown.lt i hi).1))
      go_roundw
      case rel => exact ⟨b + 1, by omega, by omega, by go_num, ho'.not_nil (by simp), by rw [hst.out]; exact ho', hkb'⟩
      case measure => simp [intOf]; omega
    · have hkp : Hid (rowsTo n (b - 1) = codesL n) := by show _ = _; rw [codesL_to, ← HP'.out, show b = P by omega]
      have hl : Hid ((rowsTo n (b - 1)).length ≤ 1000000) := by show _ ≤ _; rw [rowsTo_len]; omega
      go_wp2_with fail
      have CC := Lib.hid (sort_any (n := n) hown Hv.out (by rw [hkp.out]) hl.out)
      with_reducible refine Calls.mono CC.out ?_
      rintro e w1 ⟨rfl, ho2, ht2⟩
      clear CC
      have hkb2 := hkb.turn ht2 (fun i hi => (hown.lt i hi).1)
      go_wp2_with fail
      go_ret
      exact ⟨_, rfl, Hv.out, ho2, hkb2⟩
end Go.Proofs.YtlglonjijfpgaaaGreat

namespace Go.Proofs.YtlglonjijfpgaaaGreat
open Go.RowKit Go.Sort Go.Shelf

theorem rowsTo_mem {n k : Nat} {S : List Int} (h : S ∈ rowsTo n k) : ∃ c, c < k ∧ S = bitsL n (c + 1) := by
  simp only [rowsTo, List.mem_map, List.mem_range] at h
  obtain ⟨c, hc, rfl⟩ := h
  exact ⟨c, hc, rfl⟩
/-- One more set, put where it belongs. -/
theorem ins_sorted {rows : List (List Int)} {S : List Int} {k : Nat} (hs : rows.Pairwise (fun a b => befB a b = true)) (hk : k ≤ rows.length) (h1 : ∀ j (hj : j < rows.length), k ≤ j → befB S rows[j] = true) (h2 : 0 < k → befB S (rows.getD (k - 1) []) = false) (hn : S ∉ rows) :
    (rows.take k ++ [S] ++ rows.drop k).Pairwise (fun a b => befB a b = true) := by
  have hb : ∀ x ∈ rows.take k, befB x S = true := by
    intro x hx
    obtain ⟨j, hj, rfl⟩ := List.getElem_of_mem hx
    have hj2 : j < k := by simp at hj; omega
    have hj3 : j < rows.length := by omega
    rw [List.getElem_take]
    have h3 := h2 (by omega)
    have e4 : rows.getD (k - 1) [] = rows[k - 1]'(by omega) := by simp [List.getD, show k - 1 < rows.length by omega]
    rw [e4] at h3
    have hlast : befB (rows[k - 1]'(by omega)) S = true := by
      cases hh : befB (rows[k - 1]'(by omega)) S with
      | true => rfl
      | false => exact absurd (befB_total h3 hh) (fun e => hn (e ▸ List.getElem_mem _))
    rcases Nat.lt_or_ge j (k - 1) with h | h
    · exact befB_trans (List.pairwise_iff_getElem.1 hs j (k - 1) hj3 (by omega) h) hlast
    · have e : j = k - 1 := by omega
      subst e; exact hlast
  have ha : ∀ x ∈ rows.drop k, befB S x = true := by
    intro x hx
    obtain ⟨j, hj, rfl⟩ := List.getElem_of_mem hx
    have hj2 : k + j < rows.length := by simp at hj; omega
    rw [List.getElem_drop]
    exact h1 _ hj2 (by omega)
  rw [List.append_assoc, List.pairwise_append]
  refine ⟨hs.sublist (List.take_sublist _ _), ?_, ?_⟩
  · rw [List.singleton_append, List.pairwise_cons]
    exact ⟨ha, hs.sublist (List.drop_sublist _ _)⟩
  · intro x hx y hy
    rcases List.mem_append.1 hy with hy | hy
    · have : y = S := by simpa using hy
      subst this; exact hb x hx
    · obtain ⟨i, hi, rfl⟩ := List.getElem_of_mem hx
      obtain ⟨j, hj, rfl⟩ := List.getElem_of_mem hy
      have hi2 : i < k := by simp at hi; omega
      have hj2 : k + j < rows.length := by simp at hj; omega
      rw [List.getElem_take, List.getElem_drop]
      exact List.pairwise_iff_getElem.1 hs i (k + j) (by omega) hj2 (by omega)
theorem ins_perm {rows l : List (List Int)} {S : List Int} (k : Nat) (h : rows.Perm l) : (rows.take k ++ [S] ++ rows.drop k).Perm (l ++ [S]) := by
  have h1 : (rows.take k ++ [S] ++ rows.drop k).Perm (S :: rows) := by
    rw [List.append_assoc, List.singleton_append]
    refine List.perm_middle.trans ?_
    rw [List.take_append_drop]
  exact h1.trans ((List.Perm.cons S h).trans (List.perm_append_singleton S l).symm)
theorem fresh_code {n c : Nat} {rows : List (List Int)} (hc : c + 1 < 2 ^ n) (hp : rows.Perm (rowsTo n c)) : bitsL n (c + 1) ∉ rows := by
  intro h
  obtain ⟨d, hd, e⟩ := rowsTo_mem (hp.mem_iff.1 h)
  have := bitsL_inj (by omega) (by omega) e
  omega
theorem gown_ab (w : World) (lo : Option Nat) (o : Obj) : GOwn ((w.alloc (.cells #[] 24)).alloc o) lo w.heap.size (.slice (some ⟨w.heap.size, 0, none⟩) 0 0) [] :=
  (gown_new w lo _ (Nat.le_refl _)).kp ((Kp.refl _).alloc _)
theorem gown_ba (w : World) (lo : Option Nat) (o : Obj) : GOwn ((w.alloc o).alloc (.cells #[] 24)) lo w.heap.size (.slice (some ⟨w.heap.size + 1, 0, none⟩) 0 0) [] := by
  have := gown_new (w.alloc o) lo w.heap.size (by simp)
  simpa using this
theorem hd_ab (w : World) (u : Value) : ((w.alloc (.cells #[] 24)).alloc (.cells #[u] 24)).cell? ⟨w.heap.size + 1, 0, none⟩ = some u := by
  rw [World.cell?_alloc_at _ _ _ _ (by simp)]; rfl
theorem hd_ba (w : World) (u : Value) : ((w.alloc (.cells #[u] 24)).alloc (.cells #[] 24)).cell? ⟨w.heap.size, 0, none⟩ = some u :=
  ((Kp.refl _).alloc _).get (by rw [World.cell?_alloc_at _ _ _ _ rfl]; rfl)
theorem cell_turn {T : Nat → Prop} {W w' : World} {p : Addr} {u : Value} (h : W.cell? p = some u) (ht : Turn T W w') (hg : ¬ T p.block) : w'.cell? p = some u := by
  have hb : p.block < W.heap.size := World.block_lt_of_cell? _ _ h
  rw [World.cell?_of_block (ht.block p.block hb hg)]; exact h
theorem Kp.turn_new {w0 W w' : World} {lo : Option Nat} {v : Value} {rows : List (List Int)} (_ : Kp w0 w0) (h : Kp w0 W) (ht : Turn (fun i => v.ownBlock = some i) W w') (ho : GOwn W lo w0.heap.size v rows) : Kp w0 w' :=
  ho.kp_turn h (Nat.le_refl _) ht
set_option maxRecDepth 100000 in
set_option maxHeartbeats 4000000 in
theorem l2Sets_any (n : Nat) (w : World) (hn : n ≤ 7) :
    Calls Tryz.prog 68 #[.int .i64 n] w fun e w' => ∃ v, e = .returned v ∧ v ≠ .slice none 0 0 ∧ GOwn w' (some w.heap.size) w.heap.size v (setsL n) ∧ Kp w w' := by
  obtain ⟨P, HP, hpw, hP⟩ := pow_wrap (n : Int) (by omega) (by omega)
  rw [Int.toNat_natCast] at hpw
  have HP' : Hid (P = 2 ^ n) := by show P = _; simpa using HP.out
  have hP1 : 1 ≤ P := by rw [HP'.out]; exact Nat.one_le_two_pow
  go_enter Tryz.func68, Tryz.ntmps68
  go_wp2_with fail
  go_loopw [3, 4] (fun ov bv wr => ∃ (b : Nat) (rows : List (List Int)), 1 ≤ b ∧ b ≤ P ∧ bv = .int .i64 (b : Nat) ∧ Hid (ov ≠ .slice none 0 0) ∧ GOwn wr (some w.heap.size) w.heap.size ov rows ∧ Hid (rows.length = b - 1) ∧ Hid (rows.Perm (rowsTo n (b - 1)) ∧ rows.Pairwise (fun x y => befB x y = true)) ∧ Kp w wr) (fun _ bv _ => P - (intOf bv).toNat)
  case atStart => exact ⟨1, [], by omega, by omega, rfl, by show _ ≠ _; simp, gown_new w _ w.heap.size (Nat.le_refl _), rfl, ⟨List.Perm.refl _, List.Pairwise.nil⟩, (Kp.refl _).alloc _⟩
  case round =>
    obtain ⟨b, rows, hb1, hk, rfl, Hv, hown, HL, HR, hkb⟩ := hrel
    obtain ⟨ad, cap, rfl, hcap, hrw⟩ := hown.rows_some (by rw [HL.out]; omega) Hv.out
    by_cases hlt : b < P
    · have hb : b < 2 ^ n := by rw [← HP'.out]; exact hlt
      have HF := Lib.hid (fresh_code (n := n) (c := b - 1) (by omega) HR.out.1)
      rw [Nat.sub_add_cancel hb1] at HF
      clear hb
      have hl7 : rows.length < 128 := by rw [HL.out]; omega
      have hkw0 := hkb
      go_wp2_with fail
      have CC := Lib.hid (l2Bits_any n b wr (by omega) (by omega))
      with_reducible refine Calls.mono CC.out ?_
      rintro e w1 ⟨v, rfl, ho, hk1⟩
      clear CC
      replace hkb := hkb.trans hk1
      replace hown := hown.kp hk1
      replace hrw := hrw.kp hk1
      obtain ⟨Av, cv, hve, hiv⟩ := ho.ints (by have := bitsL_len n b; omega)
      have hcv := ho.capL hve
      have hrp := (RowP.of_own ho (by have := bitsL_len n b; omega)).mono (b' := w.heap.size) hkw0.le
      subst hve
      generalize hrl : rows.length = m at *
      go_wp2_with fail
      obtain ⟨wo, rfl⟩ : ∃ wo : World, wo = wr := ⟨_, rfl⟩
      obtain ⟨w5, rfl⟩ : ∃ w5 : World, w5 = w1 := ⟨_, rfl⟩
      go_loopw [6] (fun kv wr => ∃ k : Nat, k ≤ m ∧ kv = .int .i64 k ∧ Hid (∀ j (hj : j < rows.length), k ≤ j → befB (bitsL n b) rows[j] = true) ∧ Dr w5 wr) (fun kv _ => (intOf kv).toNat)
      case atStart => exact ⟨m, Nat.le_refl _, rfl, by show ∀ j (hj : j < rows.length), _ → _; intro j hj h; omega, Dr.refl _⟩
      case round =>
        obtain ⟨k, hkm, rfl, Hbf, hdr⟩ := hrel
        have hrw' := hrw.kp hdr.kp
        have hiv' := hiv.kp hdr.kp
        by_cases h0 : 0 < k
        · obtain ⟨j, rfl⟩ : ∃ j, k = j + 1 := ⟨k - 1, by omega⟩
          have lx : j < rows.length := by omega
          obtain ⟨A2, c2, hcl, hc2, hri, _⟩ := hrw'.some_ lx
          go_wp2_with fail
          have CC := Lib.hid (l2Before_any Av A2 (bitsL n b) rows[j] _ _ cv c2 wr hiv' rfl hri rfl)
          with_reducible refine Calls.mono CC.out ?_
          rintro e w2 ⟨rfl, hd2⟩
          have hk2 := hd2.kp
          clear CC
          cases hbb : befB (bitsL n b) rows[j]
          · have Hb0 := Lib.hid hbb
            clear hbb
            have hrz := hrw'.kp hk2
            have hiz := (hrp.kp hdr.kp).kp hk2
            have hdz := hdr.trans hd2
            have hkc : j + 1 ≤ cap := by omega

            have Hj : Hid (0 < j + 1 → befB (bitsL n b) (rows.getD (j + 1 - 1) []) = false) := by
              show 0 < j + 1 → _
              intro _
              have e4 : rows.getD (j + 1 - 1) [] = rows[j] := by simp [List.getD, lx]
              rw [e4]
              exact Hb0.out
            clear hcl hc2 hri hrw' hiv'
            clear h0 Hb0
            generalize hjk : j + 1 = k at *
            clear hjk
            have hkw := hkb
            have hA := Lib.hid ((gown_new w2 (some w.heap.size) w2.heap.size (Nat.le_refl _)).drew)
            have hAB := Lib.hid ((gown_ab w2 (some w.heap.size) (.cells #[(.slice Av (bitsL n b).length cv)] 24)).drew)
            have hBA := Lib.hid ((gown_ba w2 (some w.heap.size) (.cells #[(.slice Av (bitsL n b).length cv)] 24)).drew)
            have cAB := Lib.hid (hd_ab w2 (.slice Av (bitsL n b).length cv))
            have cBA := Lib.hid (hd_ba w2 (.slice Av (bitsL n b).length cv))
            have hT1 := Lib.hid (hrz.take (k))
            have hT2 := Lib.hid (hrz.tail (c := cap) (by rw [hrl]; exact hcap) (k))
            have hkz : Kp w2 w2 := Kp.refl _
            have hlk : (rows.take (k)).length = k := by rw [List.length_take, hrl]; omega
            have hld : (rows.drop (k)).length = m - (k) := by rw [List.length_drop, hrl]
            have hl1 : ([] : List (List Int)).length + (rows.take (k)).length ≤ 4194304 := by rw [hlk]; simp <;> omega
            have hl2 : (([] : List (List Int)) ++ rows.take (k)).length < 1048576 := by rw [List.length_append, hlk]; simp <;> omega
            have hl4 : (([] : List (List Int)) ++ rows.take (k) ++ [bitsL n b]).length + (rows.drop (k)).length ≤ 4194304 := by rw [List.length_append, List.length_append, hlk, hld]; simp <;> omega
            go_wp2_with fail
            go_region_held3 (fun w' => Kp w2 w')
              (first | exact (by repeat (first | with_reducible assumption | with_reducible exact Kp.refl _ | with_reducible refine Kp.drew ?_ | with_reducible refine Kp.alloc ?_ _ | with_reducible refine Kp.drewN ?_ _ | refine Kp.setCell ?_ (by dsimp only; omega) _)) | exact hkA | exact hkA.alloc _ | exact hkB | exact hkC)
              (first
                | (refine step_appg_all (W0 := w2) (by rfl) (.tmp 32) (.tmp 35) (by rfl) w2.heap.size _ [] (rows.take (k)) (some ad) (k) cap (by rfl) (by rfl) hA.out hT1.out (by repeat (first | with_reducible assumption | with_reducible exact Kp.refl _ | with_reducible refine Kp.drew ?_ | with_reducible refine Kp.alloc ?_ _ | with_reducible refine Kp.drewN ?_ _ | refine Kp.setCell ?_ (by dsimp only; omega) _)) (Nat.le_refl _) hlk (by simp) hl1 ?_; intro v1 wx1 ho1 ht1 h41; have hkA : Kp w2 wx1 := hkz.turn_new (by repeat (first | with_reducible assumption | with_reducible exact Kp.refl _ | with_reducible refine Kp.drew ?_ | with_reducible refine Kp.alloc ?_ _ | with_reducible refine Kp.drewN ?_ _ | refine Kp.setCell ?_ (by dsimp only; omega) _)) ht1 hA.out)
                | (refine step_appg_all (W0 := w2) (by rfl) (.tmp 32) (.tmp 35) (by rfl) w2.heap.size _ [] (rows.take (k)) (some ad) (k) cap (by rfl) (by rfl) hAB.out hT1.out (by repeat (first | with_reducible assumption | with_reducible exact Kp.refl _ | with_reducible refine Kp.drew ?_ | with_reducible refine Kp.alloc ?_ _ | with_reducible refine Kp.drewN ?_ _ | refine Kp.setCell ?_ (by dsimp only; omega) _)) (Nat.le_refl _) hlk (by simp; omega) hl1 ?_; intro v1 wx1 ho1 ht1 h41; have hkA : Kp w2 wx1 := hkz.turn_new (by repeat (first | with_reducible assumption | with_reducible exact Kp.refl _ | with_reducible refine Kp.drew ?_ | with_reducible refine Kp.alloc ?_ _ | with_reducible refine Kp.drewN ?_ _ | refine Kp.setCell ?_ (by dsimp only; omega) _)) ht1 hAB.out; have h1n := cell_turn (p := ⟨w2.heap.size + 1, 0, none⟩) ((Kp.refl _).drew.get cAB.out) ht1 (by simp [Value.ownBlock]))
                | (refine step_appg_all (W0 := w2) (by rfl) (.tmp 32) (.tmp 35) (by rfl) w2.heap.size _ [] (rows.take (k)) (some ad) (k) cap (by rfl) (by rfl) hBA.out hT1.out (by repeat (first | with_reducible assumption | with_reducible exact Kp.refl _ | with_reducible refine Kp.drew ?_ | with_reducible refine Kp.alloc ?_ _ | with_reducible refine Kp.drewN ?_ _ | refine Kp.setCell ?_ (by dsimp only; omega) _)) (Nat.le_refl _) hlk (by simp; omega) hl1 ?_; intro v1 wx1 ho1 ht1 h41; have hkA : Kp w2 wx1 := hkz.turn_new (by repeat (first | with_reducible assumption | with_reducible exact Kp.refl _ | with_reducible refine Kp.drew ?_ | with_reducible refine Kp.alloc ?_ _ | with_reducible refine Kp.drewN ?_ _ | refine Kp.setCell ?_ (by dsimp only; omega) _)) ht1 hBA.out; have h1n := cell_turn (p := ⟨w2.heap.size, 0, none⟩) ((Kp.refl _).drew.get cBA.out) ht1 (by simp [Value.ownBlock]))
                | (refine step_appg_all (W0 := w2) (by rfl) (.tmp 39) (.tmp 42) (by rfl) w2.heap.size v2 ([] ++ rows.take (k) ++ [bitsL n b]) (rows.drop (k)) (if cap = k then some ad else some (ad.add (k))) (m - (k)) (cap - (k)) (by rfl) (by rfl) ho2 hT2.out hkB (Nat.le_refl _) hld hkB.le hl4 ?_; intro v3 wx3 ho3 ht3 h43; have hkC : Kp w2 wx3 := ho2.kp_turn hkB (Nat.le_refl _) ht3)
                | (refine step_appg (by rfl) (.tmp 36) (.tmp 38) (by rfl) w2.heap.size v1 ([] ++ rows.take (k)) (bitsL n b) (.slice Av (bitsL n b).length cv) ⟨w2.heap.size + 1, 0, none⟩ (by rfl) (by rfl) ho1 (hiz.kp hkA) h1n (apart_old hiz ho1 (Nat.le_refl _)) hkA.le hl2 ?_; intro v2 wx2 ho2 ht2 h42; have hkB : Kp w2 wx2 := ho1.kp_turn hkA (Nat.le_refl _) ht2)
                | (refine step_appg (by rfl) (.tmp 36) (.tmp 38) (by rfl) w2.heap.size v1 ([] ++ rows.take (k)) (bitsL n b) (.slice Av (bitsL n b).length cv) ⟨w2.heap.size, 0, none⟩ (by rfl) (by rfl) ho1 (hiz.kp hkA) h1n (apart_old hiz ho1 (Nat.le_refl _)) hkA.le hl2 ?_; intro v2 wx2 ho2 ht2 h42; have hkB : Kp w2 wx2 := ho1.kp_turn hkA (Nat.le_refl _) ht2)
                | (refine step_appg (by rfl) (.tmp 36) (.tmp 38) (by rfl) w2.heap.size v1 ([] ++ rows.take (k)) (bitsL n b) (.slice Av (bitsL n b).length cv) ⟨wx1.heap.size, 0, none⟩ (by rfl) (by rfl) ho1.one_kp (hiz.kp (hkA.alloc _)) (by rw [World.cell?_alloc_at _ _ _ _ rfl]; rfl) (apart_old hiz ho1 (Nat.le_refl _)) (hkA.alloc _).le hl2 ?_; intro v2 wx2 ho2 ht2 h42; have hkB : Kp w2 wx2 := ho1.one_kp.kp_turn (hkA.alloc _) (Nat.le_refl _) ht2))
            all_goals
              go_wp2_with fail
              go_roundw
              case rel =>
                have hst : rowsTo n (b + 1 - 1) = rowsTo n (b - 1) ++ [bitsL n b] := by
                  have := rowsTo_succ n (b - 1)
                  rw [show b - 1 + 1 = b by omega] at this
                  exact this
                have e0 : [] ++ rows.take (k) ++ [bitsL n b] ++ rows.drop (k) = rows.take (k) ++ [bitsL n b] ++ rows.drop (k) := by simp
                rw [e0] at ho3
                exact ⟨b + 1, _, by omega, by omega, by go_num, ho3.not_nil (by simp), ho3.mono (hkw.trans hdz.kp).le, by show _ = b + 1 - 1; rw [List.length_append, List.length_append, hlk, hld]; have := HL.out; simp; omega, ⟨by rw [hst]; exact ins_perm _ HR.out.1, ins_sorted HR.out.2 (by omega) (fun i hi h => Hbf.out i hi h) Hj.out HF.out⟩, (hkw.trans hdz.kp).trans hkC⟩
              case measure => simp [intOf]; omega
          · have Hb0 := Lib.hid hbb
            clear hbb
            go_wp2_with fail
            go_roundw
            case rel => exact ⟨j, by omega, by go_num, by show ∀ i (hi : i < rows.length), _ → _; intro i hi h; rcases Nat.eq_or_lt_of_le h with e | e; (subst e; exact Hb0.out); exact Hbf.out i hi e, hdr.trans hd2⟩
            case measure => simp [intOf] <;> omega
        · have hkw := hkb
          have hkc : k ≤ cap := by omega
          have hA := Lib.hid ((gown_new wr (some w.heap.size) wr.heap.size (Nat.le_refl _)).drew)
          have hAB := Lib.hid ((gown_ab wr (some w.heap.size) (.cells #[(.slice Av (bitsL n b).length cv)] 24)).drew)
          have hBA := Lib.hid ((gown_ba wr (some w.heap.size) (.cells #[(.slice Av (bitsL n b).length cv)] 24)).drew)
          have cAB := Lib.hid (hd_ab wr (.slice Av (bitsL n b).length cv))
          have cBA := Lib.hid (hd_ba wr (.slice Av (bitsL n b).length cv))
          have hT1 := Lib.hid (hrw'.take (k))
          have hT2 := Lib.hid (hrw'.tail (c := cap) (by rw [hrl]; exact hcap) (k))
          have hkz : Kp wr wr := Kp.refl _
          have hlk : (rows.take (k)).length = k := by rw [List.length_take, hrl]; omega
          have hld : (rows.drop (k)).length = m - (k) := by rw [List.length_drop, hrl]
          have hl1 : ([] : List (List Int)).length + (rows.take (k)).length ≤ 4194304 := by rw [hlk]; simp <;> omega
          have hl2 : (([] : List (List Int)) ++ rows.take (k)).length < 1048576 := by rw [List.length_append, hlk]; simp <;> omega
          have hl4 : (([] : List (List Int)) ++ rows.take (k) ++ [bitsL n b]).length + (rows.drop (k)).length ≤ 4194304 := by rw [List.length_append, List.length_append, hlk, hld]; simp <;> omega
          go_wp2_with fail
          go_region_held3 (fun w' => Kp wr w')
            (first | exact (by repeat (first | with_reducible assumption | with_reducible exact Kp.refl _ | with_reducible refine Kp.drew ?_ | with_reducible refine Kp.alloc ?_ _ | with_reducible refine Kp.drewN ?_ _ | refine Kp.setCell ?_ (by dsimp only; omega) _)) | exact hkA | exact hkA.alloc _ | exact hkB | exact hkC)
            (first
              | (refine step_appg_all (W0 := wr) (by rfl) (.tmp 32) (.tmp 35) (by rfl) wr.heap.size _ [] (rows.take (k)) (some ad) (k) cap (by rfl) (by rfl) hA.out hT1.out (by repeat (first | with_reducible assumption | with_reducible exact Kp.refl _ | with_reducible refine Kp.drew ?_ | with_reducible refine Kp.alloc ?_ _ | with_reducible refine Kp.drewN ?_ _ | refine Kp.setCell ?_ (by dsimp only; omega) _)) (Nat.le_refl _) hlk (by simp) hl1 ?_; intro v1 wx1 ho1 ht1 h41; have hkA : Kp wr wx1 := hkz.turn_new (by repeat (first | with_reducible assumption | with_reducible exact Kp.refl _ | with_reducible refine Kp.drew ?_ | with_reducible refine Kp.alloc ?_ _ | with_reducible refine Kp.drewN ?_ _ | refine Kp.setCell ?_ (by dsimp only; omega) _)) ht1 hA.out)
              | (refine step_appg_all (W0 := wr) (by rfl) (.tmp 32) (.tmp 35) (by rfl) wr.heap.size _ [] (rows.take (k)) (some ad) (k) cap (by rfl) (by rfl) hAB.out hT1.out (by repeat (first | with_reducible assumption | with_reducible exact Kp.refl _ | with_reducible refine Kp.drew ?_ | with_reducible refine Kp.alloc ?_ _ | with_reducible refine Kp.drewN ?_ _ | refine Kp.setCell ?_ (by dsimp only; omega) _)) (Nat.le_refl _) hlk (by simp; omega) hl1 ?_; intro v1 wx1 ho1 ht1 h41; have hkA : Kp wr wx1 := hkz.turn_new (by repeat (first | with_reducible assumption | with_reducible exact Kp.refl _ | with_reducible refine Kp.drew ?_ | with_reducible refine Kp.alloc ?_ _ | with_reducible refine Kp.drewN ?_ _ | refine Kp.setCell ?_ (by dsimp only; omega) _)) ht1 hAB.out; have h1n := cell_turn (p := ⟨wr.heap.size + 1, 0, none⟩) ((Kp.refl _).drew.get cAB.out) ht1 (by simp [Value.ownBlock]))
              | (refine step_appg_all (W0 := wr) (by rfl) (.tmp 32) (.tmp 35) (by rfl) wr.heap.size _ [] (rows.take (k)) (some ad) (k) cap (by rfl) (by rfl) hBA.out hT1.out (by repeat (first | with_reducible assumption | with_reducible exact Kp.refl _ | with_reducible refine Kp.drew ?_ | with_reducible refine Kp.alloc ?_ _ | with_reducible refine Kp.drewN ?_ _ | refine Kp.setCell ?_ (by dsimp only; omega) _)) (Nat.le_refl _) hlk (by simp; omega) hl1 ?_; intro v1 wx1 ho1 ht1 h41; have hkA : Kp wr wx1 := hkz.turn_new (by repeat (first | with_reducible assumption | with_reducible exact Kp.refl _ | with_reducible refine Kp.drew ?_ | with_reducible refine Kp.alloc ?_ _ | with_reducible refine Kp.drewN ?_ _ | refine Kp.setCell ?_ (by dsimp only; omega) _)) ht1 hBA.out; have h1n := cell_turn (p := ⟨wr.heap.size, 0, none⟩) ((Kp.refl _).drew.get cBA.out) ht1 (by simp [Value.ownBlock]))
              | (refine step_appg_all (W0 := wr) (by rfl) (.tmp 39) (.tmp 42) (by rfl) wr.heap.size v2 ([] ++ rows.take (k) ++ [bitsL n b]) (rows.drop (k)) (if cap = k then some ad else some (ad.add (k))) (m - (k)) (cap - (k)) (by rfl) (by rfl) ho2 hT2.out hkB (Nat.le_refl _) hld hkB.le hl4 ?_; intro v3 wx3 ho3 ht3 h43; have hkC : Kp wr wx3 := ho2.kp_turn hkB (Nat.le_refl _) ht3)
              | (refine step_appg (by rfl) (.tmp 36) (.tmp 38) (by rfl) wr.heap.size v1 ([] ++ rows.take (k)) (bitsL n b) (.slice Av (bitsL n b).length cv) ⟨wr.heap.size + 1, 0, none⟩ (by rfl) (by rfl) ho1 ((hrp.kp hdr.kp).kp hkA) h1n (apart_old (hrp.kp hdr.kp) ho1 (Nat.le_refl _)) hkA.le hl2 ?_; intro v2 wx2 ho2 ht2 h42; have hkB : Kp wr wx2 := ho1.kp_turn hkA (Nat.le_refl _) ht2)
              | (refine step_appg (by rfl) (.tmp 36) (.tmp 38) (by rfl) wr.heap.size v1 ([] ++ rows.take (k)) (bitsL n b) (.slice Av (bitsL n b).length cv) ⟨wr.heap.size, 0, none⟩ (by rfl) (by rfl) ho1 ((hrp.kp hdr.kp).kp hkA) h1n (apart_old (hrp.kp hdr.kp) ho1 (Nat.le_refl _)) hkA.le hl2 ?_; intro v2 wx2 ho2 ht2 h42; have hkB : Kp wr wx2 := ho1.kp_turn hkA (Nat.le_refl _) ht2)
              | (refine step_appg (by rfl) (.tmp 36) (.tmp 38) (by rfl) wr.heap.size v1 ([] ++ rows.take (k)) (bitsL n b) (.slice Av (bitsL n b).length cv) ⟨wx1.heap.size, 0, none⟩ (by rfl) (by rfl) ho1.one_kp ((hrp.kp hdr.kp).kp (hkA.alloc _)) (by rw [World.cell?_alloc_at _ _ _ _ rfl]; rfl) (apart_old (hrp.kp hdr.kp) ho1 (Nat.le_refl _)) (hkA.alloc _).le hl2 ?_; intro v2 wx2 ho2 ht2 h42; have hkB : Kp wr wx2 := ho1.one_kp.kp_turn (hkA.alloc _) (Nat.le_refl _) ht2))
          all_goals
            go_wp2_with fail
            go_roundw
            case rel =>
              have hst : rowsTo n (b + 1 - 1) = rowsTo n (b - 1) ++ [bitsL n b] := by
                have := rowsTo_succ n (b - 1)
                rw [show b - 1 + 1 = b by omega] at this
                exact this
              have e0 : [] ++ rows.take (k) ++ [bitsL n b] ++ rows.drop (k) = rows.take (k) ++ [bitsL n b] ++ rows.drop (k) := by simp
              rw [e0] at ho3
              exact ⟨b + 1, _, by omega, by omega, by go_num, ho3.not_nil (by simp), ho3.mono (hkw.trans hdr.kp).le, by show _ = b + 1 - 1; rw [List.length_append, List.length_append, hlk, hld]; have := HL.out; simp; omega, ⟨by rw [hst]; exact ins_perm _ HR.out.1, ins_sorted HR.out.2 (by omega) (fun i hi h => Hbf.out i hi h) (fun h => absurd h (by omega)) HF.out⟩, (hkw.trans hdr.kp).trans hkC⟩
            case measure => simp [intOf]; omega
    · have hkp : Hid (rows = setsL n) := by
        have h1 := HR.out.1
        rw [show b = P by omega, HP'.out] at h1
        exact setsL_uniq h1 HR.out.2
      go_wp2_with fail
      go_ret
      exact ⟨_, rfl, Hv.out, by rw [← hkp.out]; exact hown, hkb⟩
end Go.Proofs.YtlglonjijfpgaaaGreat

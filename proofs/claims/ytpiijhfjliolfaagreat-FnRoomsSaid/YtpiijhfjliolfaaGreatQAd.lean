/- What a slice of rows of the call's own holds when it has been sorted; The library's sort of a slice of rows, at this program; The comparisons of two sets, the reference's and the program's; Contracts of the functions on sets as binary numbers, and of searches in lists; All sets of some sites in their order, as the program tells them. No condition. -/
import Derived.Test.YtpiijhfjliolfaaGreatQAb
import Derived.Test.YtpiijhfjliolfaaGreatQAc
import Derived.Shelf.SlSortCmp.Whole1
import Derived.Lib.OwnBridge
import Derived.Lib.AppendIntMem
import Derived.Test.YtpiijhfjliolfaaGreatQAa
namespace Go.Proofs.YtpiijhfjliolfaaGreat
open Go.RowKit Go.Sort Go.Shelf

/-- Draws, and new blocks behind. -/
def Gw (w w' : World) : Prop := ∃ q os, w' = grow (w.drewN q) os
theorem Gw.refl (w : World) : Gw w w := ⟨0, #[], by rw [grow_empty]; rfl⟩
theorem Gw.drewN {a w : World} (h : Gw a w) (n : Nat) : Gw a (w.drewN n) := by
  obtain ⟨q, os, rfl⟩ := h
  refine ⟨q + n, os, ?_⟩
  rw [← World.drewN_drewN]; rfl
theorem Gw.drew {a w : World} (h : Gw a w) : Gw a w.drew := h.drewN 1
theorem Gw.alloc {a w : World} (h : Gw a w) (o : Obj) : Gw a (w.alloc o) := by
  obtain ⟨q, os, rfl⟩ := h
  refine ⟨q, os ++ #[o], ?_⟩
  rw [alloc_eq_grow, grow_grow]
theorem Gw.trans {a b c : World} (h : Gw a b) (k : Gw b c) : Gw a c := by
  obtain ⟨q, os, rfl⟩ := h
  obtain ⟨q2, os2, rfl⟩ := k
  refine ⟨q + q2, os ++ os2, ?_⟩
  rw [← grow_grow, ← World.drewN_drewN]; rfl
theorem Gw.kp {w w' : World} (h : Gw w w') : Kp w w' := by
  obtain ⟨q, os, rfl⟩ := h
  exact ⟨rfl, rfl, rfl, by simp, fun i hi => heap_grow_old (w.drewN q) os hi⟩
theorem Gw.of_dr {w w' : World} (h : Dr w w') : Gw w w' := by
  obtain ⟨q, rfl⟩ := h; exact (Gw.refl w).drewN q

def rowD (rows : List (List Int)) (i : Nat) : List Int := rows.getD i []
def hdD (hs : List Value) (i : Nat) : Value := hs.getD i (.slice none 0 0)
def cmpD (rows : List (List Int)) (i j : Nat) : Int := cmpS (rowD rows i) (rowD rows j)
theorem swo_cmpD (rows : List (List Int)) : SWO (ltOf (cmpD rows)) where
  irrefl x := befB_irrefl _
  trans x y z h1 h2 := befB_trans (a := rowD rows x) (b := rowD rows y) (c := rowD rows z) h1 h2
  ntrans x y z h1 h2 := by
    have e1 : befB (rowD rows x) (rowD rows y) = false := h1
    have e2 : befB (rowD rows y) (rowD rows z) = false := h2
    have h3 := notB_trans (rowD rows z) (rowD rows y) (rowD rows x) (by simp [notB, e2]) (by simp [notB, e1])
    have h4 : befB (rowD rows x) (rowD rows z) = false := by simpa [notB] using h3
    exact h4
/-- The comparison as the sort calls it. -/
theorem cmp_lays {g blk base : Nat} {lo : Option Nat} {hs : List Value} {rows : List (List Int)} {v : Value} {w : World} (size : Nat)
    (hC : ∀ (A1 A2 : Option Addr) (xs ys : List Int) (n m c d : Nat) (W : World), IntsAt W A1 xs → xs.length = n → IntsAt W A2 ys → ys.length = m → Calls Tryz.prog g #[.slice A1 n c, .slice A2 m d] W fun e w' => e = .returned (.int .i64 (cmpS xs ys)) ∧ Gw W w')
    (h1 : w.ownsRow base 24 1 v rows.length hs)
    (h2 : ∀ j (hj : j < rows.length), ∃ u, hs[j]? = some u ∧ RowP w lo u rows[j] ∧ ((rows[j] ≠ [] ∨ lo ≠ none) → ∀ i, u.ownBlock = some i → blk ≠ i)) :
    CmpLays1 Tryz.prog g #[] (hdD hs) (cmpD rows) blk 0 size w := by
  intro m os dk _ x y
  have hW : ∀ i, i ≠ blk → i < w.heap.size → (sortWorld (hdD hs) w blk 0 m dk os).heap[i]? = w.heap[i]? := fun i hi hlt => by
    unfold sortWorld
    rw [heap_grow_old _ _ (by simpa using hlt)]
    simp [putRow, mapBlock, Sort.ahead, Array.getElem?_modify, Ne.symm hi]
  have hT : Turn (fun i => i = blk) w (sortWorld (hdD hs) w blk 0 m dk os) := ⟨rfl, rfl, rfl, by simp [sortWorld], fun i hi hn => hW i hn hi⟩
  have hlen : hs.length = rows.length := by rw [h1.1]; omega
  have key : ∀ i, ∃ A n c, hdD hs i = .slice A n c ∧ (rowD rows i).length = n ∧ IntsAt (sortWorld (hdD hs) w blk 0 m dk os) A (rowD rows i) := fun i => by
    by_cases hi : i < rows.length
    · obtain ⟨u, e1, e2, e3⟩ := h2 i hi
      have er : rowD rows i = rows[i] := by simp [rowD, List.getD, hi]
      obtain ⟨A, c, rfl, _, e5⟩ := (e2.turn hT (fun hn g hg hh => e3 hn g hg hh.symm)).read
      refine ⟨A, rows[i].length, c, by simp [hdD, List.getD, e1], by rw [er], ?_⟩
      rw [er]
      exact e5
    · refine ⟨none, 0, 0, ?_, ?_, ?_⟩
      · simp [hdD, List.getD, List.getElem?_eq_none (show hs.length ≤ i by omega)]
      · simp [rowD, List.getD, List.getElem?_eq_none (show rows.length ≤ i by omega)]
      · have : rowD rows i = [] := by simp [rowD, List.getD, List.getElem?_eq_none (show rows.length ≤ i by omega)]
        rw [this]; exact IntsAt.nil _ _
  obtain ⟨A1, n1, c1, e1, l1, i1⟩ := key x
  obtain ⟨A2, n2, c2, e2, l2, i2⟩ := key y
  rw [e1, e2]
  exact hC A1 A2 _ _ n1 n2 c1 c2 _ i1 l1 i2 l2
/-- Behind the sort the same slice holds all the rows in order. -/
theorem gown_sorted {g cap base : Nat} {lo : Option Nat} {rows : List (List Int)} {hs : List Value} {w : World} {n : Nat} {os : Array Obj} {d' : Array Nat}
    (h1 : w.ownsRow base 24 1 (.slice (some ⟨g, 0, none⟩) rows.length cap) rows.length hs)
    (h2 : ∀ j (hj : j < rows.length), ∃ u, hs[j]? = some u ∧ RowP w lo u rows[j] ∧ ((rows[j] ≠ [] ∨ lo ≠ none) → ∀ i, u.ownBlock = some i → (Value.slice (some ⟨g, 0, none⟩) rows.length cap).ownBlock ≠ some i))
    (hp : PermIn 0 rows.length (Array.range rows.length) d') :
    GOwn (sortWorld (hdD hs) w g 0 n d' os) lo base (.slice (some ⟨g, 0, none⟩) rows.length cap) (d'.toList.map (rowD rows)) := by
  obtain ⟨hsz, _, hperm⟩ := hp
  have hlen : hs.length = rows.length := by rw [h1.1]; omega
  have hd : d'.size = rows.length := by simpa using hsz
  have hmem : ∀ i (hi : i < d'.size), d'[i] < rows.length := fun i hi => by
    have e : (d'.extract 0 rows.length) = d' := by rw [← hd]; simp
    rw [e] at hperm
    have h3 : d'[i] ∈ (Array.range rows.length).extract 0 rows.length := by
      have := hperm.subset (Array.getElem_mem_toList hi)
      simpa using this
    have e2 : (Array.range rows.length).extract 0 rows.length = Array.range rows.length := by
      have : rows.length = (Array.range rows.length).size := by simp
      conv => lhs; rw [this]
      simp
    rw [e2] at h3
    simpa using h3
  have hs0 : hs = (List.range rows.length).map (hdD hs) := by
    apply List.ext_getElem
    · simp [hlen]
    · intro i hi hi2
      simp [hdD, List.getD, hi]
  have h1' : w.ownsRow base 24 1 (.slice (some ⟨g, 0, none⟩) rows.length cap) rows.length ((List.range rows.length).map (hdD hs)) := by rw [← hs0]; exact h1
  have h3 := Lib.ownsRow_putRow (q := n) (k := rows.length) (ys := d'.toList) h1' (by simpa using hd) (Nat.le_refl _)
  rw [List.take_of_length_le (by simp; omega)] at h3
  have h4 := Lib.ownsRow_grow h3 0 os
  have hT : Turn (fun i => i = g) w (sortWorld (hdD hs) w g 0 n d' os) := ⟨rfl, rfl, rfl, by simp [sortWorld], fun i hi hn => by
    unfold sortWorld
    rw [heap_grow_old _ _ (by simpa using hi)]
    simp [putRow, mapBlock, Sort.ahead, Array.getElem?_modify, Ne.symm hn]⟩
  refine ⟨d'.toList.map (hdD hs), ?_, fun j hj => ?_⟩
  · have e : (d'.toList.map (rowD rows)).length = rows.length := by simp [hd]
    rw [e]
    exact h4
  · have hj' : j < d'.size := by simpa using hj
    have hm := hmem j hj'
    obtain ⟨u, e1, e2, e3⟩ := h2 _ hm
    have er : (d'.toList.map (rowD rows))[j] = rows[d'[j]] := by simp [rowD, List.getD, hm]
    rw [er]
    refine ⟨u, ?_, e2.turn hT (fun hn i hi hh => e3 hn i hi (by rw [hh]; rfl)), e3⟩
    simp [hj', hdD, List.getD, e1]
theorem perm_full {m : Nat} {d' : Array Nat} (hp : PermIn 0 m (Array.range m) d') : d'.toList.Perm (List.range m) := by
  obtain ⟨hsz, _, hperm⟩ := hp
  have hd : d'.size = m := by simpa using hsz
  have e : (d'.extract 0 m) = d' := by rw [← hd]; simp
  have e2 : (Array.range m).extract 0 m = Array.range m := by
    have : m = (Array.range m).size := by simp
    conv => lhs; rw [this]
    simp
  rw [e, e2] at hperm
  simpa using hperm
theorem rows_range (rows : List (List Int)) : (List.range rows.length).map (rowD rows) = rows := by
  apply List.ext_getElem
  · simp
  · intro i hi hi2
    simp [rowD, List.getD, hi2]
/-- Sorted, they are all sets in their order. -/
theorem sorted_sets {n : Nat} {rows : List (List Int)} {d' : Array Nat} (hr : rows.Perm (codesL n)) (hp : PermIn 0 rows.length (Array.range rows.length) d') (hs : SortedIn (ltOf (cmpD rows)) 0 rows.length d') : d'.toList.map (rowD rows) = setsL n := by
  have hsz : d'.size = rows.length := by have := hp.1; simpa using this
  have hperm : (d'.toList.map (rowD rows)).Perm rows := by
    have := (perm_full hp).map (rowD rows)
    rwa [rows_range] at this
  have hall := hperm.trans hr
  refine setsL_uniq hall ?_
  have hnd : (d'.toList.map (rowD rows)).Nodup := hall.nodup_iff.2 (codesL_nodup n)
  unfold List.Nodup at hnd
  rw [List.pairwise_iff_getElem] at hnd ⊢
  intro i j hi hj hij
  have h3 := hnd i j hi hj hij
  have hi' : i < d'.size := by simpa using hi
  have hj' : j < d'.size := by simpa using hj
  have h4 := hs i j (Nat.zero_le _) hij (by omega)
  rw [getElem!_pos d' i hi', getElem!_pos d' j hj'] at h4
  have h5 : befB (d'.toList.map (rowD rows))[j] (d'.toList.map (rowD rows))[i] = false := by
    rw [List.getElem_map, List.getElem_map]
    exact h4
  cases hh : befB (d'.toList.map (rowD rows))[i] (d'.toList.map (rowD rows))[j] with
  | true => rfl
  | false => exact absurd (befB_total hh h5) h3
end Go.Proofs.YtpiijhfjliolfaaGreat

namespace Go.Proofs.YtpiijhfjliolfaaGreat
open Go.RowKit Go.Sort Go.Shelf

def sortL_ren : Go.Shelf.Ren := ⟨fun | 6 => 77 | 15 => 112 | 14 => 111 | 28 => 132 | 29 => 133 | 20 => 124 | 21 => 125 | 22 => 126 | 23 => 127 | 24 => 128 | 25 => 129 | 26 => 130 | 27 => 131 | 46 => 146 | 47 => 147 | 48 => 148 | 49 => 149 | 50 => 150 | 57 => 156 | n => n, fun | 22 => 25 | 24 => 24 | 25 => 61 | 3 => 3 | 39 => 85 | 0 => 0 | 53 => 125 | 55 => 49 | 4 => 4 | 46 => 119 | 45 => 118 | 50 => 41 | 5 => 5 | 9 => 9 | 66 => 134 | 70 => 138 | 76 => 146 | 77 => 147 | n => n, fun | n => n⟩
theorem sortL : Go.Proofs.SlLaysF.n6 Tryz.prog sortL_ren := {
  mixed := by kernel_rfl
  f6 := ⟨Tryz.f77.name, by decide, Tryz.func77.trans (congrArg some (by kernel_rfl))⟩
  f14 := ⟨Tryz.f111.name, by decide, Tryz.func111.trans (congrArg some (by kernel_rfl))⟩
  f15 := Tryz.func112.trans (congrArg some (by kernel_rfl))
  f20 := ⟨Tryz.f124.name, by decide, Tryz.func124.trans (congrArg some (by kernel_rfl))⟩
  f21 := ⟨Tryz.f125.name, by decide, Tryz.func125.trans (congrArg some (by kernel_rfl))⟩
  f22 := ⟨Tryz.f126.name, by decide, Tryz.func126.trans (congrArg some (by kernel_rfl))⟩
  f23 := ⟨Tryz.f127.name, by decide, Tryz.func127.trans (congrArg some (by kernel_rfl))⟩
  f24 := ⟨Tryz.f128.name, by decide, Tryz.func128.trans (congrArg some (by kernel_rfl))⟩
  f25 := ⟨Tryz.f129.name, by decide, Tryz.func129.trans (congrArg some (by kernel_rfl))⟩
  f26 := ⟨Tryz.f130.name, by decide, Tryz.func130.trans (congrArg some (by kernel_rfl))⟩
  f27 := ⟨Tryz.f131.name, by decide, Tryz.func131.trans (congrArg some (by kernel_rfl))⟩
  f28 := Tryz.func132.trans (congrArg some (by kernel_rfl))
  f29 := Tryz.func133.trans (congrArg some (by kernel_rfl))
  f46 := ⟨Tryz.f146.name, by decide, Tryz.func146.trans (congrArg some (by kernel_rfl))⟩
  f47 := Tryz.func147.trans (congrArg some (by kernel_rfl))
  f48 := Tryz.func148.trans (congrArg some (by kernel_rfl))
  f49 := ⟨Tryz.f149.name, by decide, Tryz.func149.trans (congrArg some (by kernel_rfl))⟩
  f50 := ⟨Tryz.f150.name, by decide, Tryz.func150.trans (congrArg some (by kernel_rfl))⟩
  f57 := ⟨Tryz.f156.name, by decide, Tryz.func156.trans (congrArg some (by kernel_rfl))⟩
  t0 := Tryz.underlying0
  a0 := Tryz.isAgg0
  z0 := Tryz.sizeOf0
  v0 := Tryz.zeroValue0
  t3 := Tryz.underlying3
  a3 := Tryz.isAgg3
  z3 := Tryz.sizeOf3
  v3 := Tryz.zeroValue3
  t4 := Tryz.underlying4
  a4 := Tryz.isAgg4
  z4 := Tryz.sizeOf4
  v4 := Tryz.zeroValue4
  t5 := Tryz.underlying5
  a5 := Tryz.isAgg5
  z5 := Tryz.sizeOf5
  v5 := Tryz.zeroValue5
  t9 := Tryz.underlying9
  a9 := Tryz.isAgg9
  z9 := Tryz.sizeOf9
  v9 := Tryz.zeroValue9
  t22 := Tryz.underlying25
  a22 := Tryz.isAgg25
  z22 := Tryz.sizeOf25
  v22 := Tryz.zeroValue25
  a24 := Tryz.isAgg24
  z24 := Tryz.sizeOf24
  t25 := Tryz.underlying61
  a25 := Tryz.isAgg61
  z25 := Tryz.sizeOf61
  v25 := Tryz.zeroValue61
  t39 := Tryz.underlying85
  a39 := Tryz.isAgg85
  z39 := Tryz.sizeOf85
  v39 := Tryz.zeroValue85
  t45 := Tryz.underlying118
  a45 := Tryz.isAgg118
  z45 := Tryz.sizeOf118
  v45 := Tryz.zeroValue118
  t46 := Tryz.underlying119
  a46 := Tryz.isAgg119
  z46 := Tryz.sizeOf119
  v46 := Tryz.zeroValue119
  t50 := Tryz.underlying41
  a50 := Tryz.isAgg41
  z50 := Tryz.sizeOf41
  v50 := Tryz.zeroValue41
  t53 := Tryz.underlying125
  a53 := Tryz.isAgg125
  z53 := Tryz.sizeOf125
  v53 := Tryz.zeroValue125
  t55 := Tryz.underlying49
  a55 := Tryz.isAgg49
  z55 := Tryz.sizeOf49
  v55 := Tryz.zeroValue49
  t66 := Tryz.underlying134
  a66 := Tryz.isAgg134
  z66 := Tryz.sizeOf134
  v66 := Tryz.zeroValue134
  t70 := Tryz.underlying138
  a70 := Tryz.isAgg138
  z70 := Tryz.sizeOf138
  v70 := Tryz.zeroValue138
  t76 := Tryz.underlying146
  a76 := Tryz.isAgg146
  z76 := Tryz.sizeOf146
  v76 := Tryz.zeroValue146
  t77 := Tryz.underlying147
  a77 := Tryz.isAgg147
  z77 := Tryz.sizeOf147
  v77 := Tryz.zeroValue147 }
end Go.Proofs.YtpiijhfjliolfaaGreat

namespace Go.Proofs.YtpiijhfjliolfaaGreat
open Go.RowKit Go.Sort

def cmpI (x y : Int) : Int := if x < y then -1 else if y < x then 1 else 0
def orL : List Int → Int
  | [] => 0
  | x :: xs => if x = 0 then orL xs else x
theorem orL_drop {xs : List Int} {k : Nat} (hk : k < xs.length) (h : xs[k] = 0) : orL (xs.drop k) = orL (xs.drop (k + 1)) := by
  rw [List.drop_eq_getElem_cons hk, orL, if_pos h]
theorem orL_at {xs : List Int} {k : Nat} (hk : k < xs.length) (h : xs[k] ≠ 0) : orL (xs.drop k) = xs[k] := by
  rw [List.drop_eq_getElem_cons hk, orL, if_neg h]
theorem isNaN_any (x : Int) (w : World) : Calls Tryz.prog 134 #[.int .i64 x] w fun e w' => e = .returned (.bool false) ∧ w = w' := by
  go_enter Tryz.func134, Tryz.ntmps134
  have h : (x != x) = false := by simp
  go_wp2_with fail
  go_ret
  exact ⟨rfl, rfl⟩
theorem compareI_any (x y : Int) (w : World) : Calls Tryz.prog 114 #[.int .i64 x, .int .i64 y] w fun e w' => e = .returned (.int .i64 (cmpI x y)) ∧ w = w' := by
  go_enter Tryz.func114, Tryz.ntmps114
  go_wp2_with fail
  have CC := Lib.hid (isNaN_any x w)
  with_reducible refine Calls.mono CC.out ?_
  rintro e w1 ⟨rfl, hw⟩
  obtain rfl := hw
  clear CC
  go_wp2_with fail
  have CC := Lib.hid (isNaN_any y w)
  with_reducible refine Calls.mono CC.out ?_
  rintro e w2 ⟨rfl, hw⟩
  obtain rfl := hw
  clear CC
  by_cases h1 : x < y
  · have e : Hid (cmpI x y = -1) := by show cmpI x y = _; simp [cmpI, h1]
    go_wp2_with fail
    go_ret
    exact ⟨ret_int e.out.symm, rfl⟩
  · by_cases h2 : y < x
    · have e : Hid (cmpI x y = 1) := by show cmpI x y = _; simp [cmpI, h1, h2]
      go_wp2_with fail
      go_ret
      exact ⟨ret_int e.out.symm, rfl⟩
    · have e : Hid (cmpI x y = 0) := by show cmpI x y = _; simp [cmpI, h1, h2]
      go_wp2_with fail
      go_ret
      exact ⟨ret_int e.out.symm, rfl⟩
theorem or_any (A0 : Option Addr) (xs : List Int) (n c0 : Nat) (w : World) (hS : IntsAt w A0 xs) (hn : xs.length = n) :
    Calls Tryz.prog 113 #[.slice A0 n c0] w fun e w' => e = .returned (.int .i64 (orL xs)) ∧ w = w' := by
  have hm : n ≤ 9223372036854775807 := hn ▸ hS.1
  have Hn := Lib.hid hn; clear hn
  go_enter Tryz.func113, Tryz.ntmps113
  go_wp2_with fail
  go_loop [8] (fun iv => ∃ k : Nat, k ≤ n ∧ iv = .int .i64 k ∧ Hid (orL (xs.drop k) = orL xs)) (fun iv => n - (intOf iv).toNat)
  case atStart => exact ⟨0, by omega, rfl, rfl⟩
  case round =>
    obtain ⟨k, hk, rfl, Hp⟩ := hrel
    by_cases hlt : k < n
    · have lx : k < xs.length := by rw [Hn.out]; exact hlt
      obtain ⟨ad, rfl, hc⟩ := hS.at_ lx
      cases ht : (xs[k] != 0)
      · have e0 : xs[k] = 0 := by simpa using ht
        have Hy := Lib.hid ((orL_drop lx e0).symm.trans Hp.out)
        clear e0
        go_wp2_with fail
        go_round
        case rel => exact ⟨k + 1, by omega, by go_num, Hy⟩
        case measure => simp [intOf]; omega
      · have e0 : xs[k] ≠ 0 := by simpa using ht
        have Hy := Lib.hid ((orL_at lx e0).symm.trans Hp.out)
        clear e0
        go_wp2_with fail
        go_ret
        exact ⟨ret_int Hy.out, rfl⟩
    · have e0 : xs.drop k = [] := List.drop_eq_nil_of_le (by rw [Hn.out]; omega)
      have Hy : Hid (orL xs = 0) := by show orL xs = 0; rw [← Hp.out, e0]; rfl
      clear e0
      go_wp2_with fail
      go_ret
      exact ⟨ret_int Hy.out.symm, rfl⟩
theorem lexC_cons (x y : Int) (xs ys : List Int) : lexC (x :: xs) (y :: ys) = if x < y then -1 else if y < x then 1 else lexC xs ys := rfl
theorem lexC_step {xs ys : List Int} {k : Nat} (hx : k < xs.length) (hy : k < ys.length) : lexC (xs.drop k) (ys.drop k) = if cmpI xs[k] ys[k] = 0 then lexC (xs.drop (k + 1)) (ys.drop (k + 1)) else cmpI xs[k] ys[k] := by
  rw [List.drop_eq_getElem_cons hx, List.drop_eq_getElem_cons hy, lexC_cons]
  unfold cmpI
  by_cases h1 : xs[k] < ys[k]
  · simp [h1]
  · by_cases h2 : ys[k] < xs[k]
    · simp [h1, h2]
    · simp [h1, h2]
theorem slicesCompare_any (A1 A2 : Option Addr) (xs ys : List Int) (n m c d : Nat) (w : World) (h1 : IntsAt w A1 xs) (hn : xs.length = n) (h2 : IntsAt w A2 ys) (hm : ys.length = m) :
    Calls Tryz.prog 115 #[.slice A1 n c, .slice A2 m d] w fun e w' => e = .returned (.int .i64 (lexC xs ys)) ∧ w = w' := by
  have hn9 : n ≤ 9223372036854775807 := hn ▸ h1.1
  have hm9 : m ≤ 9223372036854775807 := hm ▸ h2.1
  have Hn := Lib.hid hn; clear hn
  have Hm := Lib.hid hm; clear hm
  go_enter Tryz.func115, Tryz.ntmps115
  go_wp2_with fail
  go_loop [11] (fun iv => ∃ k : Nat, k ≤ n ∧ k ≤ m ∧ iv = .int .i64 k ∧ Hid (lexC (xs.drop k) (ys.drop k) = lexC xs ys)) (fun iv => n - (intOf iv).toNat)
  case atStart => exact ⟨0, by omega, by omega, rfl, rfl⟩
  case round =>
    obtain ⟨k, hk, hkm, rfl, Hp⟩ := hrel
    by_cases hlt : k < n
    · have lx : k < xs.length := by rw [Hn.out]; exact hlt
      obtain ⟨ad, rfl, hc⟩ := h1.at_ lx
      by_cases hlt2 : k < m
      · have ly : k < ys.length := by rw [Hm.out]; exact hlt2
        obtain ⟨bd, rfl, hd⟩ := h2.at_ ly
        have hst := Lib.hid (lexC_step lx ly)
        go_wp2_with fail
        have CC := Lib.hid (compareI_any xs[k] ys[k] w)
        with_reducible refine Calls.mono CC.out ?_
        rintro e w1 ⟨rfl, hw⟩
        obtain rfl := hw
        clear CC
        cases ht : (cmpI xs[k] ys[k] != 0)
        · have e0 : cmpI xs[k] ys[k] = 0 := by simpa using ht
          have Hy : Hid (lexC (xs.drop (k + 1)) (ys.drop (k + 1)) = lexC xs ys) := by show _ = _; rw [← Hp.out, hst.out, if_pos e0]
          clear e0
          go_wp2_with fail
          go_round
          case rel => exact ⟨k + 1, by omega, by omega, by go_num, Hy⟩
          case measure => simp [intOf]; omega
        · have e0 : ¬ cmpI xs[k] ys[k] = 0 := by simpa using ht
          have Hy : Hid (cmpI xs[k] ys[k] = lexC xs ys) := by show _ = _; rw [← Hp.out, hst.out, if_neg e0]
          clear e0
          go_wp2_with fail
          go_ret
          exact ⟨ret_int Hy.out, rfl⟩
      · have e0 : ys.drop k = [] := List.drop_eq_nil_of_le (by rw [Hm.out]; omega)
        have Hy : Hid (lexC xs ys = 1) := by show _ = _; rw [← Hp.out, e0, List.drop_eq_getElem_cons lx]; rfl
        clear e0
        go_wp2_with fail
        go_ret
        exact ⟨ret_int Hy.out.symm, rfl⟩
    · have e0 : xs.drop k = [] := List.drop_eq_nil_of_le (by rw [Hn.out]; omega)
      by_cases hlt2 : k < m
      · have ly : k < ys.length := by rw [Hm.out]; exact hlt2
        have Hy : Hid (lexC xs ys = -1) := by show _ = _; rw [← Hp.out, e0, List.drop_eq_getElem_cons ly]; rfl
        have hnm : n < m := by omega
        clear e0
        go_wp2_with fail
        go_ret
        exact ⟨ret_int Hy.out.symm, rfl⟩
      · have e1 : ys.drop k = [] := List.drop_eq_nil_of_le (by rw [Hm.out]; omega)
        have Hy : Hid (lexC xs ys = 0) := by show _ = _; rw [← Hp.out, e0, e1]; rfl
        have hnm : ¬ n < m := by omega
        clear e0 e1
        go_wp2_with fail
        go_ret
        exact ⟨ret_int Hy.out.symm, rfl⟩
theorem cmpS_or (a b : List Int) : orL [cmpI a.length b.length, lexC a b] = cmpS a b := by
  unfold cmpS cmpI
  by_cases h1 : a.length < b.length
  · simp [orL, h1]
  · by_cases h2 : b.length < a.length
    · simp [orL, h1, h2]
    · simp only [orL, h1, h2, Int.ofNat_lt, if_false, if_true]
      by_cases h3 : lexC a b = 0 <;> simp [h3]
theorem two_ints (w : World) (x y : Int) : IntsAt (w.alloc (.cells #[.int .i64 x, .int .i64 y] 3)) (some ⟨w.heap.size, 0, none⟩) [x, y] :=
  ⟨by simp, fun k hk => by
    have hk2 : k < 2 := by simpa using hk
    refine ⟨_, rfl, ?_⟩
    rw [add0, World.cell?_alloc_at _ _ _ _ rfl]
    match k, hk2 with
    | 0, _ => rfl
    | 1, _ => rfl⟩
theorem compareSets_any (A1 A2 : Option Addr) (xs ys : List Int) (n m c d : Nat) (w : World) (h1 : IntsAt w A1 xs) (hn : xs.length = n) (h2 : IntsAt w A2 ys) (hm : ys.length = m) :
    Calls Tryz.prog 78 #[.slice A1 n c, .slice A2 m d] w fun e w' => e = .returned (.int .i64 (cmpS xs ys)) ∧ Gw w w' := by
  have hn9 : n ≤ 9223372036854775807 := hn ▸ h1.1
  have hm9 : m ≤ 9223372036854775807 := hm ▸ h2.1
  have Hor : Hid (orL [cmpI n m, lexC xs ys] = cmpS xs ys) := by show _ = _; rw [← hn, ← hm]; exact cmpS_or xs ys
  have Hn := Lib.hid hn; clear hn
  have Hm := Lib.hid hm; clear hm
  go_enter Tryz.func78, Tryz.ntmps78
  go_wp2_with fail
  have CC := Lib.hid (compareI_any (n : Int) (m : Int) w)
  with_reducible refine Calls.mono CC.out ?_
  rintro e w1 ⟨rfl, hw⟩
  obtain rfl := hw
  clear CC
  go_wp2_with fail
  have CC := Lib.hid (slicesCompare_any A1 A2 xs ys n m c d w h1 Hn.out h2 Hm.out)
  with_reducible refine Calls.mono CC.out ?_
  rintro e w2 ⟨rfl, hw⟩
  obtain rfl := hw
  clear CC
  have T2 := Lib.hid (two_ints w (cmpI n m) (lexC xs ys))
  generalize cmpI n m = p at *
  generalize lexC xs ys = q at *
  go_wp2_with fail
  have CC := Lib.hid (or_any _ [p, q] 2 2 _ T2.out rfl)
  with_reducible refine Calls.mono CC.out ?_
  rintro e w3 ⟨rfl, hw⟩
  obtain rfl := hw
  clear CC
  go_wp2_with fail
  go_ret
  exact ⟨ret_int Hor.out, (Gw.refl w).alloc _⟩
theorem bef_len {a b : List Int} (h : a.length ≠ b.length) : befB a b = decide (a.length < b.length) := by
  unfold befB cmpS
  by_cases h1 : a.length < b.length
  · simp [h1]
  · simp [h1, show b.length < a.length by omega]
theorem bef_same {a b : List Int} (h : a.length = b.length) : befB a b = decide (lexC a b < 0) := by
  unfold befB cmpS
  simp [h]
theorem lexC_lt {xs ys : List Int} {k : Nat} (hx : k < xs.length) (hy : k < ys.length) (h : xs[k] ≠ ys[k]) : decide (lexC (xs.drop k) (ys.drop k) < 0) = decide (xs[k] < ys[k]) := by
  rw [lexC_step hx hy]
  unfold cmpI
  by_cases h1 : xs[k] < ys[k]
  · simp [h1]
  · simp [h1, show ys[k] < xs[k] by omega]
theorem lexC_same {xs ys : List Int} {k : Nat} (hx : k < xs.length) (hy : k < ys.length) (h : xs[k] = ys[k]) : lexC (xs.drop k) (ys.drop k) = lexC (xs.drop (k + 1)) (ys.drop (k + 1)) := by
  rw [lexC_step hx hy]
  simp [cmpI, h]
set_option maxHeartbeats 400000 in
theorem l2Before_any (A1 A2 : Option Addr) (xs ys : List Int) (n m c d : Nat) (w : World) (h1 : IntsAt w A1 xs) (hn : xs.length = n) (h2 : IntsAt w A2 ys) (hm : ys.length = m) :
    Calls Tryz.prog 35 #[.slice A1 n c, .slice A2 m d] w fun e w' => e = .returned (.bool (befB xs ys)) ∧ Dr w w' := by
  have hn9 : n ≤ 9223372036854775807 := hn ▸ h1.1
  have hm9 : m ≤ 9223372036854775807 := hm ▸ h2.1
  by_cases hnm : n = m
  · subst hnm
    have hne : ((n : Int) != (n : Int)) = false := by simp
    have Hb := Lib.hid (bef_same (a := xs) (b := ys) (hn.trans hm.symm))
    have Hn := Lib.hid hn; clear hn
    have Hm := Lib.hid hm; clear hm
    go_enter Tryz.func35, Tryz.ntmps35
    go_wp2_with fail
    go_loopw [5] (fun iv wr => ∃ k : Nat, k ≤ n ∧ iv = .int .i64 k ∧ Hid (lexC (xs.drop k) (ys.drop k) = lexC xs ys) ∧ Dr w wr) (fun iv _ => n - (intOf iv).toNat)
    case atStart => exact ⟨0, by omega, rfl, rfl, Dr.refl w⟩
    case round =>
      obtain ⟨k, hk, rfl, Hp, hdr⟩ := hrel
      by_cases hlt : k < n
      · have lx : k < xs.length := by rw [Hn.out]; exact hlt
        have ly : k < ys.length := by rw [Hm.out]; exact hlt
        obtain ⟨ad, rfl, hc⟩ := (h1.kp hdr.kp).at_ lx
        obtain ⟨bd, rfl, hd⟩ := (h2.kp hdr.kp).at_ ly
        cases ht : (xs[k] != ys[k])
        · have e0 : xs[k] = ys[k] := by simpa using ht
          have Hy := Lib.hid ((lexC_same lx ly e0).symm.trans Hp.out)
          clear e0
          go_wp2_with fail
          go_quiet (fail)
          go_wp2_with fail
          go_roundw
          case rel => exact ⟨k + 1, by omega, by go_num, Hy, hdr.drewN nq⟩
          case measure => simp [intOf]; omega
        · have e0 : xs[k] ≠ ys[k] := by simpa using ht
          have Hy : Hid (decide (xs[k] < ys[k]) = befB xs ys) := by show _ = _; rw [Hb.out, ← Hp.out]; exact (lexC_lt lx ly e0).symm
          clear e0
          go_wp2_with fail
          go_quiet (fail)
          go_wp2_with fail
          go_quiet (fail)
          go_wp2_with fail
          go_ret
          exact ⟨ret_bool Hy.out, (hdr.drewN _).drewN _⟩
      · have e0 : xs.drop k = [] := List.drop_eq_nil_of_le (by rw [Hn.out]; omega)
        have e1 : ys.drop k = [] := List.drop_eq_nil_of_le (by rw [Hm.out]; omega)
        have Hy : Hid (befB xs ys = false) := by show _ = _; rw [Hb.out, ← Hp.out, e0, e1]; rfl
        clear e0 e1
        go_wp2_with fail
        go_ret
        exact ⟨ret_bool Hy.out.symm, hdr⟩
  · have hne : ((n : Int) != (m : Int)) = true := by simp; omega
    have Hb : Hid (befB xs ys = decide (n < m)) := by show _ = _; rw [← hn, ← hm]; exact bef_len (by omega)
    have hd : decide (n < m) = decide ((n : Int) < (m : Int)) := by simp
    go_enter Tryz.func35, Tryz.ntmps35
    go_wp2_with fail
    go_ret
    exact ⟨ret_bool (by rw [Hb.out, hd]), Dr.refl w⟩
end Go.Proofs.YtpiijhfjliolfaaGreat

namespace Go.Proofs.YtpiijhfjliolfaaGreat
open Go.RowKit Go.Sort

theorem ofInt_u64 (a : Nat) (ha : a < 18446744073709551616) : (BitVec.ofInt 64 (a : Int)).toNat = a := by
  rw [BitVec.ofInt_natCast, BitVec.toNat_ofNat]; exact Nat.mod_eq_of_lt ha
theorem u64_and_nat (a b : Nat) (ha : a < 18446744073709551616) (hb : b < 18446744073709551616) : bits .and .u64 (a : Int) (b : Int) = ((a &&& b : Nat) : Int) := by
  have hx : a &&& b < 2 ^ 64 := Nat.and_lt_two_pow _ (by omega)
  show IntKind.u64.wrap ((BitVec.ofInt 64 (a : Int) &&& BitVec.ofInt 64 (b : Int)).toNat : Int) = _
  rw [BitVec.toNat_and, ofInt_u64 a ha, ofInt_u64 b hb, IntKind.wrap_u64]
  omega
theorem u64_or_nat (a b : Nat) (ha : a < 18446744073709551616) (hb : b < 18446744073709551616) : bits .or .u64 (a : Int) (b : Int) = ((a ||| b : Nat) : Int) := by
  have hx : a ||| b < 2 ^ 64 := Nat.or_lt_two_pow (by omega) (by omega)
  show IntKind.u64.wrap ((BitVec.ofInt 64 (a : Int) ||| BitVec.ofInt 64 (b : Int)).toNat : Int) = _
  rw [BitVec.toNat_or, ofInt_u64 a ha, ofInt_u64 b hb, IntKind.wrap_u64]
  omega
theorem div_pow_nat (b x : Nat) : ((b : Int) / 2 ^ x) = ((b / 2 ^ x : Nat) : Int) := by
  rw [Int.natCast_ediv]; simp
theorem bit_one (b x : Nat) : (((b / 2 ^ x &&& 1 : Nat) : Int) == 1) = b.testBit x := by
  rw [Nat.testBit_eq_decide_div_mod_eq, Nat.and_one_is_mod]
  generalize b / 2 ^ x % 2 = r
  rw [Bool.eq_iff_iff, beq_iff_eq, decide_eq_true_eq]
  constructor <;> intro h <;> omega
theorem u64_has (b x : Nat) (hb : b < 18446744073709551616) : (bits BinOp.and IntKind.u64 ((b : Int) / 2 ^ x) 1 == 1) = b.testBit x := by
  have h : b / 2 ^ x < 18446744073709551616 := Nat.lt_of_le_of_lt (Nat.div_le_self _ _) hb
  have := u64_and_nat (b / 2 ^ x) 1 h (by omega)
  rw [div_pow_nat, show (1 : Int) = ((1 : Nat) : Int) from rfl, this]
  exact bit_one b x
theorem i64_has (b x : Nat) (hb : b < 9223372036854775808) : (bits BinOp.and IntKind.i64 ((b : Int) / 2 ^ x) 1 == 1) = b.testBit x := by
  have h : b / 2 ^ x < 9223372036854775808 := Nat.lt_of_le_of_lt (Nat.div_le_self _ _) hb
  have := i64_and_nat (b / 2 ^ x) 1 h (by omega)
  rw [div_pow_nat, show (1 : Int) = ((1 : Nat) : Int) from rfl, this]
  exact bit_one b x
theorem u64_one_shl (a : Int) (h0 : 0 ≤ a) (h1 : a < 32) : IntKind.u64.wrap (2 ^ a.toNat) = ((2 ^ a.toNat : Nat) : Int) := by
  have h : 2 ^ a.toNat ≤ 2 ^ 31 := Nat.pow_le_pow_right (by omega) (by omega)
  have h2 : ((2 ^ a.toNat : Nat) : Int) = 2 ^ a.toNat := by simp
  rw [← h2, IntKind.wrap_u64]
  generalize 2 ^ a.toNat = q at h
  omega
theorem bag_next {S : List Int} {k : Nat} (hk : k < S.length) : bagN (S.take (k + 1)) = bagN (S.take k) ||| 2 ^ (S[k]).toNat := by
  rw [List.take_succ_eq_append_getElem hk, bagN, bagTo, List.foldl_append]; rfl

theorem has_any (b x : Nat) (w : World) (hb : b < 18446744073709551616) (hx : x < 64) :
    Calls Tryz.prog 72 #[.int .u64 b, .int .i64 x] w fun e w' => e = .returned (.bool (b.testBit x)) ∧ w = w' := by
  go_enter Tryz.func72, Tryz.ntmps72
  have H := Lib.hid (u64_has b x hb)
  go_wp2_with fail
  go_ret
  exact ⟨ret_bool H.out, rfl⟩

theorem bagOf_any (A0 : Option Addr) (S : List Int) (n c0 : Nat) (w : World) (hS : IntsAt w A0 S) (hn : S.length = n) (hb : ∀ x ∈ S, 0 ≤ x ∧ x < 32) :
    Calls Tryz.prog 70 #[.slice A0 n c0] w fun e w' => e = .returned (.int .u64 (bagN S)) ∧ w = w' := by
  have hm : n ≤ 9223372036854775807 := hn ▸ hS.1
  have Hn := Lib.hid hn; clear hn
  have HB := Lib.hid hb; clear hb
  go_enter Tryz.func70, Tryz.ntmps70
  go_wp2_with fail
  go_loop [3, 8] (fun bv iv => ∃ k : Nat, k ≤ n ∧ iv = .int .i64 k ∧ bv = .int .u64 (bagN (S.take k))) (fun _ iv => n - (intOf iv).toNat)
  case atStart => exact ⟨0, by omega, rfl, rfl⟩
  case round =>
    obtain ⟨k, hk, rfl, rfl⟩ := hrel
    by_cases hlt : k < n
    · have lx : k < S.length := by rw [Hn.out]; exact hlt
      obtain ⟨ad, rfl, hc⟩ := hS.at_ lx
      obtain ⟨s0, s1⟩ := HB.out _ (List.getElem_mem lx)
      have hlt32 : bagN (S.take k) < 2 ^ 32 := bagN_lt (fun y hy => HB.out y (List.mem_of_mem_take hy))
      have hp : 2 ^ (S[k]).toNat < 2 ^ 32 := Nat.pow_lt_pow_right (by omega) (by omega)
      have HS := Lib.hid (show bits BinOp.or IntKind.u64 (bagN (S.take k) : Int) (IntKind.u64.wrap (2 ^ (S[k]).toNat)) = (bagN (S.take (k + 1)) : Int) from by
        rw [u64_one_shl _ s0 s1, u64_or_nat _ _ (by omega) (by omega), bag_next lx])
      go_wp2_with fail
      go_round
      case rel => exact ⟨k + 1, by omega, by go_num, by rw [HS.out]⟩
      case measure => simp [intOf]; omega
    · go_wp2_with fail
      go_ret
      exact ⟨ret_int (by rw [List.take_of_length_le (by rw [Hn.out]; omega)]), rfl⟩

set_option maxRecDepth 100000 in
set_option maxHeartbeats 1000000 in
theorem l2Bits_any (n b : Nat) (w : World) (hn : n ≤ 32) (hb : b < 4294967296) :
    Calls Tryz.prog 32 #[.int .i64 n, .int .i64 b] w fun e w' => ∃ v, e = .returned v ∧ Own w' w.heap.size v (bitsL n b) ∧ Kp w w' := by
  go_enter Tryz.func32, Tryz.ntmps32
  go_wp2_with fail
  go_loopw [5, 6] (fun ov iv wr => ∃ k : Nat, k ≤ n ∧ iv = .int .i64 k ∧ Own wr w.heap.size ov (bitsL k b) ∧ Kp w wr) (fun _ iv _ => n - (intOf iv).toNat)
  case atStart => exact ⟨0, by omega, rfl, own_new0 _ _ (Nat.le_refl _), (Kp.refl _).alloc _⟩
  case round =>
    obtain ⟨k, hk, rfl, ho, hkp⟩ := hrel
    by_cases hlt : k < n
    · have H := Lib.hid (i64_has b k (by omega))
      have hlen := bitsL_len k b
      have hlen2 : (bitsL k b).length < 1048576 := by omega
      cases ht : b.testBit k
      · have Ht := Lib.hid (H.out.trans ht)
        have Hno := Lib.hid (bitsL_no ht)
        have Hb2 := Ht.out
        clear ht H
        go_wp2_with fail
        go_roundw
        case rel => exact ⟨k + 1, by omega, by go_num, by rw [Hno.out]; exact ho, hkp⟩
        case measure => simp [intOf]; omega
      · have Ht := Lib.hid (H.out.trans ht)
        have Hyes := Lib.hid (bitsL_yes ht)
        have Hb2 := Ht.out
        clear ht H
        go_wp2_with (at_builtin; refine wpl_app rfl (.tmp 18) (.tmp 20) rfl w.heap.size _ (bitsL k b) k rfl rfl ho hkp.le hlen2 ?_; intro v' w' ho' ht' _; have hk4 := ho.kp_turn hkp (Nat.le_refl _) ht')
        go_roundw
        case rel => exact ⟨k + 1, by omega, by go_num, by rw [Hyes.out]; exact ho', hk4⟩
        case measure => simp [intOf]; omega
    · obtain rfl : k = n := by omega
      go_wp2_with fail
      go_ret
      exact ⟨_, rfl, ho, hkp⟩

/-- The members of a set, rising. -/
theorem div_pow_pos {b x n : Nat} (h : 0 < b / 2 ^ x) (hb : b < 2 ^ n) : x < n := by
  rcases Nat.lt_or_ge x n with h1 | h1
  · exact h1
  · have h2 : 2 ^ n ≤ 2 ^ x := Nat.pow_le_pow_right (by omega) h1
    rw [Nat.div_eq_of_lt (by omega)] at h; omega
theorem div_pow_zero {b x : Nat} (h : ¬ 0 < b / 2 ^ x) : b < 2 ^ x := by
  rcases Nat.lt_or_ge b (2 ^ x) with h1 | h1
  · exact h1
  · have := Nat.div_pos h1 (Nat.two_pow_pos x); omega

set_option maxRecDepth 100000 in
set_option maxHeartbeats 1000000 in
theorem list_any (b n : Nat) (w : World) (hb : b < 2 ^ n) (hn : n ≤ 32) :
    Calls Tryz.prog 76 #[.int .u64 b] w fun e w' => ∃ v, e = .returned v ∧ Own w' w.heap.size v (bitsL n b) ∧ Kp w w' := by
  have hb32 : b < 4294967296 := Nat.lt_of_lt_of_le hb (Nat.le_trans (Nat.pow_le_pow_right (by omega) hn) (by decide))
  have Hb := Lib.hid hb
  clear hb
  go_enter Tryz.func76, Tryz.ntmps76
  go_wp2_with fail
  go_loopw [3, 4] (fun ov iv wr => ∃ k : Nat, k ≤ n ∧ iv = .int .i64 k ∧ Own wr w.heap.size ov (bitsL k b) ∧ Kp w wr) (fun _ iv _ => n + 1 - (intOf iv).toNat)
  case atStart => exact ⟨0, by omega, rfl, own_new0 _ _ (Nat.le_refl _), (Kp.refl _).alloc _⟩
  case round =>
    obtain ⟨k, hk, rfl, ho, hkp⟩ := hrel
    have hq := Lib.hid (div_pow_nat b k)
    by_cases hlt : 0 < b / 2 ^ k
    · have hkn := div_pow_pos hlt Hb.out
      have t0 : (0 : Int) < (b : Int) / 2 ^ k := by rw [hq.out]; omega
      have t1 : decide ((0 : Int) < (b : Int) / 2 ^ k) = true := by simpa using t0
      have hlen := bitsL_len k b
      have hlen2 : (bitsL k b).length < 1048576 := by omega
      clear hlt
      go_wp2_with fail
      have CC := Lib.hid (has_any b k wr (by omega) (by omega))
      with_reducible refine Calls.mono CC.out ?_
      rintro e w1 ⟨rfl, hw⟩
      obtain rfl := hw
      clear CC t0 t1
      cases ht : b.testBit k
      · have Hno := Lib.hid (bitsL_no ht)
        clear ht
        go_wp2_with fail
        go_roundw
        case rel => exact ⟨k + 1, by omega, by go_num, by rw [Hno.out]; exact ho, hkp⟩
        case measure => simp [intOf]; omega
      · have Hyes := Lib.hid (bitsL_yes ht)
        clear ht
        go_wp2_with (at_builtin; refine wpl_app rfl (.tmp 15) (.tmp 17) rfl w.heap.size _ (bitsL k b) k rfl rfl ho hkp.le hlen2 ?_; intro v' w' ho' ht' _; have hk4 := ho.kp_turn hkp (Nat.le_refl _) ht')
        go_roundw
        case rel => exact ⟨k + 1, by omega, by go_num, by rw [Hyes.out]; exact ho', hk4⟩
        case measure => simp [intOf]; omega
    · have hz := Lib.hid (div_pow_zero hlt)
      have t0 : ¬ (0 : Int) < (b : Int) / 2 ^ k := by rw [hq.out]; omega
      have t1 : decide ((0 : Int) < (b : Int) / 2 ^ k) = false := by simpa using t0
      clear hlt
      go_wp2_with fail
      go_ret
      exact ⟨_, rfl, by rw [bitsL_more hz.out hk]; exact ho, hkp⟩

/-- A number sought in a list. -/
def idxTo (S : List Int) (a : Int) (k : Nat) : Bool := (S.take k).any (fun x => x == a)
set_option maxHeartbeats 400000 in
theorem l1Has_any (A0 : Option Addr) (S : List Int) (n c0 : Nat) (a : Int) (w : World) (hS : IntsAt w A0 S) (hn : S.length = n) :
    Calls Tryz.prog 68 #[.slice A0 n c0, .int .i64 a] w fun e w' => e = .returned (.bool (S.any (fun x => x == a))) ∧ w = w' := by
  have hm : n ≤ 9223372036854775807 := hn ▸ hS.1
  have Hn := Lib.hid hn; clear hn
  go_enter Tryz.func68, Tryz.ntmps68
  go_wp2_with fail
  go_loop [5] (fun iv => ∃ k : Nat, k ≤ n ∧ iv = .int .i64 k ∧ Hid ((S.take k).any (fun x => x == a) = false)) (fun iv => n - (intOf iv).toNat)
  case atStart => exact ⟨0, by omega, rfl, rfl⟩
  case round =>
    obtain ⟨k, hk, rfl, Hp⟩ := hrel
    by_cases hlt : k < n
    · have lx : k < S.length := by rw [Hn.out]; exact hlt
      obtain ⟨ad, rfl, hc⟩ := hS.at_ lx
      cases ht : (S[k] == a)
      · have Ht := Lib.hid ht
        go_wp2_with fail
        go_round
        case rel => exact ⟨k + 1, by omega, by go_num, any_take_succ Hp.out lx Ht.out⟩
        case measure => simp [intOf]; omega
      · have Ht := Lib.hid ht
        go_wp2_with fail
        go_ret
        exact ⟨ret_bool (any_of (p := fun x => x == a) lx Ht.out).symm, rfl⟩
    · go_wp2_with fail
      go_ret
      refine ⟨ret_bool ?_, rfl⟩
      have hp := Hp.out
      rw [List.take_of_length_le (by rw [Hn.out]; omega)] at hp
      exact hp.symm
end Go.Proofs.YtpiijhfjliolfaaGreat

namespace Go.Proofs.YtpiijhfjliolfaaGreat
open Go.RowKit Go.Sort Go.Shelf

def rowsTo (n k : Nat) : List (List Int) := (List.range k).map fun c => bitsL n (c + 1)
theorem rowsTo_len (n k : Nat) : (rowsTo n k).length = k := by simp [rowsTo]
theorem rowsTo_succ (n k : Nat) : rowsTo n (k + 1) = rowsTo n k ++ [bitsL n (k + 1)] := by simp [rowsTo, List.range_succ]
theorem codesL_to (n : Nat) : codesL n = rowsTo n (2 ^ n - 1) := rfl
set_option maxHeartbeats 1000000 in
/-- The library's sort by compareSets. -/
theorem sort_any {n base : Nat} {lo : Option Nat} {v : Value} {rows : List (List Int)} {w : World} (h : GOwn w lo base v rows) (hv : v ≠ .slice none 0 0) (hr : rows.Perm (codesL n)) (hl : rows.length ≤ 1000000) :
    Calls Tryz.prog 77 #[v, .func (.func 78) #[] #[]] w fun e w' => e = .returned (.tuple #[]) ∧ GOwn w' lo base v (setsL n) ∧ Turn (fun i => v.ownBlock = some i) w w' := by
  obtain ⟨hs, h1, h2⟩ := h
  have hlen : hs.length = rows.length := by rw [h1.1]; omega
  rcases id h1.2 with ⟨rfl, _⟩ | ⟨g, cap, cur, rfl, hb, hg, hn, hm, hsz, ht⟩
  · exact absurd rfl hv
  have hblk : g < w.heap.size := (World.ownsRow.lt h1 g rfl).2
  have hs0 : hs = (List.range rows.length).map (hdD hs) := by
    apply List.ext_getElem
    · simp [hlen]
    · intro i hi hi2
      simp [hdD, List.getD, hi]
  have h1' : w.ownsRow base 24 1 (.slice (some ⟨g, 0, none⟩) rows.length cap) rows.length ((List.range rows.length).map (hdD hs)) := by rw [← hs0]; exact h1
  obtain ⟨g2, cap2, e2, _, _, _, _, _, hH⟩ := Lib.holds_of_ownsRow h1' (by simp)
  simp only [Value.slice.injEq, Option.some.injEq, Addr.mk.injEq] at e2
  obtain ⟨⟨rfl, _, _⟩, _, rfl⟩ := e2
  have one : OneCell (hdD hs) := fun i => by
    by_cases hi : i < rows.length
    · obtain ⟨u, e1, e2, _⟩ := h2 i hi
      have := e2.one
      simp [hdD, List.getD, e1, this]
    · simp [hdD, List.getD, List.getElem?_eq_none (show hs.length ≤ i by omega), Value.oneCell']
  have eg : ∀ args w, (callFunc 78 args).run Tryz.prog w = .ok (.enter 78 args) w := enters_of Tryz.func78 (by kernel_rfl) rfl
  have hcmp := cmp_lays (g := 78) (blk := g) rows.length (fun A1 A2 xs ys n m c d W q1 q2 q3 q4 => compareSets_any A1 A2 xs ys n m c d W q1 q2 q3 q4) h1 (fun j hj => by
    obtain ⟨u, e1, e2, e3⟩ := h2 j hj
    exact ⟨u, e1, e2, fun hn i hi hh => e3 hn i hi (by rw [← hh]; rfl)⟩)
  have hH' : Holds (hdD hs) w g 0 (Array.range rows.length) := by
    have e : (List.range rows.length).toArray = Array.range rows.length := by simp
    rw [← e]; exact hH
  have hcon := Any.slices_SortFunc sortL (hdD hs) one (cmpD rows) (swo_cmpD rows) 78 #[] g 0 cap (Array.range rows.length) w eg (by rw [Array.size_range]; exact hcmp) hH' hblk (by rw [Array.size_range]; omega)
  rw [Array.size_range] at hcon
  refine Calls.mono hcon ?_
  rintro e w' ⟨rfl, d', q, os, hp, hso, rfl⟩
  have hgo := gown_sorted (n := q) (os := os) h1 h2 hp
  rw [sorted_sets hr hp hso] at hgo
  refine ⟨rfl, hgo, rfl, rfl, rfl, by simp [sortWorld], fun i hi hn => ?_⟩
  have hne : g ≠ i := fun e => hn (by rw [e]; rfl)
  unfold sortWorld
  rw [heap_grow_old _ _ (by simpa using hi)]
  simp [putRow, mapBlock, Sort.ahead, Array.getElem?_modify, hne]
set_option maxRecDepth 100000 in
set_option maxHeartbeats 1000000 in
theorem sets_any (n : Nat) (w : World) (hn : n ≤ 7) :
    Calls Tryz.prog 29 #[.int .i64 n] w fun e w' => ∃ v, e = .returned v ∧ v ≠ .slice none 0 0 ∧ GOwn w' (some w.heap.size) w.heap.size v (setsL n) ∧ Kp w w' := by
  obtain ⟨P, HP, hpw, hP⟩ := pow_wrap (n : Int) (by omega) (by omega)
  rw [Int.toNat_natCast] at hpw
  have HP' : Hid (P = 2 ^ n) := by show P = _; simpa using HP.out
  have hpu := u64_one_shl (n : Int) (by omega) (by omega)
  rw [Int.toNat_natCast, ← HP'.out] at hpu
  have hP128 : P ≤ 128 := by rw [HP'.out]; exact Nat.pow_le_pow_right (by omega) hn
  have hP1 : 1 ≤ P := by rw [HP'.out]; exact Nat.one_le_two_pow
  go_enter Tryz.func29, Tryz.ntmps29
  go_wp2_with fail
  go_loopw [3, 4] (fun ov bv wr => ∃ b : Nat, 1 ≤ b ∧ b ≤ P ∧ bv = .int .u64 (b : Nat) ∧ Hid (ov ≠ .slice none 0 0) ∧ GOwn wr (some w.heap.size) w.heap.size ov (rowsTo n (b - 1)) ∧ Kp w wr) (fun _ bv _ => P - (intOf bv).toNat)
  case atStart => exact ⟨1, by omega, by omega, rfl, by show _ ≠ _; simp, gown_new w _ w.heap.size (Nat.le_refl _), (Kp.refl _).alloc _⟩
  case round =>
    obtain ⟨b, hb1, hk, rfl, Hv, hown, hkb⟩ := hrel
    by_cases hlt : b < P
    · have hb : b < 2 ^ n := by rw [← HP'.out]; exact hlt
      have Hb := Lib.hid hb
      clear hb
      have hlen := Lib.hid (rowsTo_len n (b - 1))
      have hlen2 : Hid ((rowsTo n (b - 1)).length < 1048576) := by show _ < _; rw [hlen.out]; omega
      have hg := Lib.hid (GOwn.lt hown)
      have hst : Hid (rowsTo n (b + 1 - 1) = rowsTo n (b - 1) ++ [bitsL n b]) := by
        show _ = _
        have := rowsTo_succ n (b - 1)
        rw [show b - 1 + 1 = b by omega] at this
        exact this
      have hkw := hkb
      go_wp2_with fail
      have CC := Lib.hid (list_any b n wr Hb.out (by omega))
      with_reducible refine Calls.mono CC.out ?_
      rintro e w1 ⟨v, rfl, ho, hk1⟩
      clear CC
      replace hkb := hkb.trans hk1
      replace hown := hown.kp hk1
      have hrp := Lib.hid ((RowP.of_own ho (by have := bitsL_len n b; omega)).mono (b' := w.heap.size) hkw.le)
      have hap := Lib.hid (fun (g : Nat) (e : v.ownBlock = some g) => (ho.lt g e).1)
      obtain ⟨Av, cv, hve, _⟩ := ho.ints (by have := bitsL_len n b; omega)
      subst hve
      clear ho
      go_wp2_with (at_builtin; refine wpl_appg rfl (.tmp 12) (.tmp 15) rfl w.heap.size _ (rowsTo n (b - 1)) (bitsL n b) (.slice Av (bitsL n b).length cv) rfl rfl hown hrp.out (fun _ g e hh => by have h1 := hap.out g e; have h2 := (hg.out _ hh).2; omega) hkb.le hlen2.out ?_; intro v' w' ho' ht' h4'; have hkb' := hkb.turn ht' (fun i hi => (hown.lt i hi).1))
      go_roundw
      case rel => exact ⟨b + 1, by omega, by omega, by go_num, ho'.not_nil (by simp), by rw [hst.out]; exact ho', hkb'⟩
      case measure => simp [intOf]; omega
    · have hkp : Hid (rowsTo n (b - 1) = codesL n) := by show _ = _; rw [codesL_to, ← HP'.out, show b = P by omega]
      have hl : Hid ((rowsTo n (b - 1)).length ≤ 1000000) := by show _ ≤ _; rw [rowsTo_len]; omega
      go_wp2_with fail
      have CC := Lib.hid (sort_any (n := n) hown Hv.out (by rw [hkp.out]) hl.out)
      with_reducible refine Calls.mono CC.out ?_
      rintro e w1 ⟨rfl, ho2, ht2⟩
      clear CC
      have hkb2 := hkb.turn ht2 (fun i hi => (hown.lt i hi).1)
      go_wp2_with fail
      go_ret
      exact ⟨_, rfl, Hv.out, ho2, hkb2⟩
end Go.Proofs.YtpiijhfjliolfaaGreat

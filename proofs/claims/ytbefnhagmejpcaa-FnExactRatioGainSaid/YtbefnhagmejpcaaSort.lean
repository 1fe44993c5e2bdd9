/- What a slice of rows of the call's own holds when it has been sorted. No condition. -/
import Derived.Test.YtbefnhagmejpcaaGridApp
import Derived.Test.YtbefnhagmejpcaaSetP
import Derived.Shelf.SlSortCmp.Whole1
import Derived.Lib.OwnBridge
import Derived.Lib.AppendIntMem
namespace Go.Proofs.Ytbefnhagmejpcaa
open Go.RowKit Go.Sort Go.Shelf

/-- Draws, and new blocks behind. -/
def Gw (w w' : World) : Prop := ∃ q os, w' = grow (w.drewN q) os
theorem Gw.refl (w : World) : Gw w w := ⟨0, #[], by rw [grow_empty]; rfl⟩
theorem Gw.drewN {a w : World} (h : Gw a w) (n : Nat) : Gw a (w.drewN n) := by
  obtain ⟨q, os, rfl⟩ := h
  refine ⟨q + n, os, ?_⟩
  rw [← World.drewN_drewN]; rfl
theorem Gw.drew {a w : World} (h : Gw a w) : Gw a w.drew := h.drewN 1
theorem Gw.alloc {a w : World} (h : Gw a w) (o : Obj) : Gw a (w.alloc o) := by
  obtain ⟨q, os, rfl⟩ := h
  refine ⟨q, os ++ #[o], ?_⟩
  rw [alloc_eq_grow, grow_grow]
theorem Gw.trans {a b c : World} (h : Gw a b) (k : Gw b c) : Gw a c := by
  obtain ⟨q, os, rfl⟩ := h
  obtain ⟨q2, os2, rfl⟩ := k
  refine ⟨q + q2, os ++ os2, ?_⟩
  rw [← grow_grow, ← World.drewN_drewN]; rfl
theorem Gw.kp {w w' : World} (h : Gw w w') : Kp w w' := by
  obtain ⟨q, os, rfl⟩ := h
  exact ⟨rfl, rfl, rfl, by simp, fun i hi => heap_grow_old (w.drewN q) os hi⟩
theorem Gw.of_dr {w w' : World} (h : Dr w w') : Gw w w' := by
  obtain ⟨q, rfl⟩ := h; exact (Gw.refl w).drewN q

def rowD (rows : List (List Int)) (i : Nat) : List Int := rows.getD i []
def hdD (hs : List Value) (i : Nat) : Value := hs.getD i (.slice none 0 0)
def cmpD (rows : List (List Int)) (i j : Nat) : Int := cmpS (rowD rows i) (rowD rows j)
theorem swo_cmpD (rows : List (List Int)) : SWO (ltOf (cmpD rows)) where
  irrefl x := befB_irrefl _
  trans x y z h1 h2 := befB_trans (a := rowD rows x) (b := rowD rows y) (c := rowD rows z) h1 h2
  ntrans x y z h1 h2 := by
    have e1 : befB (rowD rows x) (rowD rows y) = false := h1
    have e2 : befB (rowD rows y) (rowD rows z) = false := h2
    have h3 := notB_trans (rowD rows z) (rowD rows y) (rowD rows x) (by simp [notB, e2]) (by simp [notB, e1])
    have h4 : befB (rowD rows x) (rowD rows z) = false := by simpa [notB] using h3
    exact h4
/-- The comparison as the sort calls it. -/
theorem cmp_lays {g blk base : Nat} {lo : Option Nat} {hs : List Value} {rows : List (List Int)} {v : Value} {w : World} (size : Nat)
    (hC : ∀ (A1 A2 : Option Addr) (xs ys : List Int) (n m c d : Nat) (W : World), IntsAt W A1 xs → xs.length = n → IntsAt W A2 ys → ys.length = m → Calls Try.prog g #[.slice A1 n c, .slice A2 m d] W fun e w' => e = .returned (.int .i64 (cmpS xs ys)) ∧ Gw W w')
    (h1 : w.ownsRow base 22 1 v rows.length hs)
    (h2 : ∀ j (hj : j < rows.length), ∃ u, hs[j]? = some u ∧ RowP w lo u rows[j] ∧ ((rows[j] ≠ [] ∨ lo ≠ none) → ∀ i, u.ownBlock = some i → blk ≠ i)) :
    CmpLays1 Try.prog g #[] (hdD hs) (cmpD rows) blk 0 size w := by
  intro m os dk _ x y
  have hW : ∀ i, i ≠ blk → i < w.heap.size → (sortWorld (hdD hs) w blk 0 m dk os).heap[i]? = w.heap[i]? := fun i hi hlt => by
    unfold sortWorld
    rw [heap_grow_old _ _ (by simpa using hlt)]
    simp [putRow, mapBlock, Sort.ahead, Array.getElem?_modify, Ne.symm hi]
  have hT : Turn (fun i => i = blk) w (sortWorld (hdD hs) w blk 0 m dk os) := ⟨rfl, rfl, rfl, by simp [sortWorld], fun i hi hn => hW i hn hi⟩
  have hlen : hs.length = rows.length := by rw [h1.1]; omega
  have key : ∀ i, ∃ A n c, hdD hs i = .slice A n c ∧ (rowD rows i).length = n ∧ IntsAt (sortWorld (hdD hs) w blk 0 m dk os) A (rowD rows i) := fun i => by
    by_cases hi : i < rows.length
    · obtain ⟨u, e1, e2, e3⟩ := h2 i hi
      have er : rowD rows i = rows[i] := by simp [rowD, List.getD, hi]
      obtain ⟨A, c, rfl, _, e5⟩ := (e2.turn hT (fun hn g hg hh => e3 hn g hg hh.symm)).read
      refine ⟨A, rows[i].length, c, by simp [hdD, List.getD, e1], by rw [er], ?_⟩
      rw [er]
      exact e5
    · refine ⟨none, 0, 0, ?_, ?_, ?_⟩
      · simp [hdD, List.getD, List.getElem?_eq_none (show hs.length ≤ i by omega)]
      · simp [rowD, List.getD, List.getElem?_eq_none (show rows.length ≤ i by omega)]
      · have : rowD rows i = [] := by simp [rowD, List.getD, List.getElem?_eq_none (show rows.length ≤ i by omega)]
        rw [this]; exact IntsAt.nil _ _
  obtain ⟨A1, n1, c1, e1, l1, i1⟩ := key x
  obtain ⟨A2, n2, c2, e2, l2, i2⟩ := key y
  rw [e1, e2]
  exact hC A1 A2 _ _ n1 n2 c1 c2 _ i1 l1 i2 l2
/-- Behind the sort the same slice holds all the rows in order. -/
theorem gown_sorted {g cap base : Nat} {lo : Option Nat} {rows : List (List Int)} {hs : List Value} {w : World} {n : Nat} {os : Array Obj} {d' : Array Nat}
    (h1 : w.ownsRow base 22 1 (.slice (some ⟨g, 0, none⟩) rows.length cap) rows.length hs)
    (h2 : ∀ j (hj : j < rows.length), ∃ u, hs[j]? = some u ∧ RowP w lo u rows[j] ∧ ((rows[j] ≠ [] ∨ lo ≠ none) → ∀ i, u.ownBlock = some i → (Value.slice (some ⟨g, 0, none⟩) rows.length cap).ownBlock ≠ some i))
    (hp : PermIn 0 rows.length (Array.range rows.length) d') :
    GOwn (sortWorld (hdD hs) w g 0 n d' os) lo base (.slice (some ⟨g, 0, none⟩) rows.length cap) (d'.toList.map (rowD rows)) := by
  obtain ⟨hsz, _, hperm⟩ := hp
  have hlen : hs.length = rows.length := by rw [h1.1]; omega
  have hd : d'.size = rows.length := by simpa using hsz
  have hmem : ∀ i (hi : i < d'.size), d'[i] < rows.length := fun i hi => by
    have e : (d'.extract 0 rows.length) = d' := by rw [← hd]; simp
    rw [e] at hperm
    have h3 : d'[i] ∈ (Array.range rows.length).extract 0 rows.length := by
      have := hperm.subset (Array.getElem_mem_toList hi)
      simpa using this
    have e2 : (Array.range rows.length).extract 0 rows.length = Array.range rows.length := by
      have : rows.length = (Array.range rows.length).size := by simp
      conv => lhs; rw [this]
      simp
    rw [e2] at h3
    simpa using h3
  have hs0 : hs = (List.range rows.length).map (hdD hs) := by
    apply List.ext_getElem
    · simp [hlen]
    · intro i hi hi2
      simp [hdD, List.getD, hi]
  have h1' : w.ownsRow base 22 1 (.slice (some ⟨g, 0, none⟩) rows.length cap) rows.length ((List.range rows.length).map (hdD hs)) := by rw [← hs0]; exact h1
  have h3 := Lib.ownsRow_putRow (q := n) (k := rows.length) (ys := d'.toList) h1' (by simpa using hd) (Nat.le_refl _)
  rw [List.take_of_length_le (by simp; omega)] at h3
  have h4 := Lib.ownsRow_grow h3 0 os
  have hT : Turn (fun i => i = g) w (sortWorld (hdD hs) w g 0 n d' os) := ⟨rfl, rfl, rfl, by simp [sortWorld], fun i hi hn => by
    unfold sortWorld
    rw [heap_grow_old _ _ (by simpa using hi)]
    simp [putRow, mapBlock, Sort.ahead, Array.getElem?_modify, Ne.symm hn]⟩
  refine ⟨d'.toList.map (hdD hs), ?_, fun j hj => ?_⟩
  · have e : (d'.toList.map (rowD rows)).length = rows.length := by simp [hd]
    rw [e]
    exact h4
  · have hj' : j < d'.size := by simpa using hj
    have hm := hmem j hj'
    obtain ⟨u, e1, e2, e3⟩ := h2 _ hm
    have er : (d'.toList.map (rowD rows))[j] = rows[d'[j]] := by simp [rowD, List.getD, hm]
    rw [er]
    refine ⟨u, ?_, e2.turn hT (fun hn i hi hh => e3 hn i hi (by rw [hh]; rfl)), e3⟩
    simp [hj', hdD, List.getD, e1]
theorem perm_full {m : Nat} {d' : Array Nat} (hp : PermIn 0 m (Array.range m) d') : d'.toList.Perm (List.range m) := by
  obtain ⟨hsz, _, hperm⟩ := hp
  have hd : d'.size = m := by simpa using hsz
  have e : (d'.extract 0 m) = d' := by rw [← hd]; simp
  have e2 : (Array.range m).extract 0 m = Array.range m := by
    have : m = (Array.range m).size := by simp
    conv => lhs; rw [this]
    simp
  rw [e, e2] at hperm
  simpa using hperm
theorem rows_range (rows : List (List Int)) : (List.range rows.length).map (rowD rows) = rows := by
  apply List.ext_getElem
  · simp
  · intro i hi hi2
    simp [rowD, List.getD, hi2]
/-- Sorted, they are all sets in their order. -/
theorem sorted_sets {n : Nat} {rows : List (List Int)} {d' : Array Nat} (hr : rows.Perm (codesL n)) (hp : PermIn 0 rows.length (Array.range rows.length) d') (hs : SortedIn (ltOf (cmpD rows)) 0 rows.length d') : d'.toList.map (rowD rows) = setsL n := by
  have hsz : d'.size = rows.length := by have := hp.1; simpa using this
  have hperm : (d'.toList.map (rowD rows)).Perm rows := by
    have := (perm_full hp).map (rowD rows)
    rwa [rows_range] at this
  have hall := hperm.trans hr
  refine setsL_uniq hall ?_
  have hnd : (d'.toList.map (rowD rows)).Nodup := hall.nodup_iff.2 (codesL_nodup n)
  unfold List.Nodup at hnd
  rw [List.pairwise_iff_getElem] at hnd ⊢
  intro i j hi hj hij
  have h3 := hnd i j hi hj hij
  have hi' : i < d'.size := by simpa using hi
  have hj' : j < d'.size := by simpa using hj
  have h4 := hs i j (Nat.zero_le _) hij (by omega)
  rw [getElem!_pos d' i hi', getElem!_pos d' j hj'] at h4
  have h5 : befB (d'.toList.map (rowD rows))[j] (d'.toList.map (rowD rows))[i] = false := by
    rw [List.getElem_map, List.getElem_map]
    exact h4
  cases hh : befB (d'.toList.map (rowD rows))[i] (d'.toList.map (rowD rows))[j] with
  | true => rfl
  | false => exact absurd (befB_total hh h5) h3
end Go.Proofs.Ytbefnhagmejpcaa

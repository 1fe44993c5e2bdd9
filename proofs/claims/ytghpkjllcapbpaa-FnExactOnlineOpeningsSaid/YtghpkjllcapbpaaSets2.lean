/- All sets of some sites in their order, as the reference tells them. No condition. -/
import Derived.Test.YtghpkjllcapbpaaSets
import Derived.Deep.RegionHeld3
namespace Go.Proofs.Ytghpkjllcapbpaa
open Go.RowKit Go.Sort Go.Shelf

theorem rowsTo_mem {n k : Nat} {S : List Int} (h : S ∈ rowsTo n k) : ∃ c, c < k ∧ S = bitsL n (c + 1) := by
  simp only [rowsTo, List.mem_map, List.mem_range] at h
  obtain ⟨c, hc, rfl⟩ := h
  exact ⟨c, hc, rfl⟩
/-- One more set, put where it belongs. -/
theorem ins_sorted {rows : List (List Int)} {S : List Int} {k : Nat} (hs : rows.Pairwise (fun a b => befB a b = true)) (hk : k ≤ rows.length) (h1 : ∀ j (hj : j < rows.length), k ≤ j → befB S rows[j] = true) (h2 : 0 < k → befB S (rows.getD (k - 1) []) = false) (hn : S ∉ rows) :
    (rows.take k ++ [S] ++ rows.drop k).Pairwise (fun a b => befB a b = true) := by
  have hb : ∀ x ∈ rows.take k, befB x S = true := by
    intro x hx
    obtain ⟨j, hj, rfl⟩ := List.getElem_of_mem hx
    have hj2 : j < k := by simp at hj; omega
    have hj3 : j < rows.length := by omega
    rw [List.getElem_take]
    have h3 := h2 (by omega)
    have e4 : rows.getD (k - 1) [] = rows[k - 1]'(by omega) := by simp [List.getD, show k - 1 < rows.length by omega]
    rw [e4] at h3
    have hlast : befB (rows[k - 1]'(by omega)) S = true := by
      cases hh : befB (rows[k - 1]'(by omega)) S with
      | true => rfl
      | false => exact absurd (befB_total h3 hh) (fun e => hn (e ▸ List.getElem_mem _))
    rcases Nat.lt_or_ge j (k - 1) with h | h
    · exact befB_trans (List.pairwise_iff_getElem.1 hs j (k - 1) hj3 (by omega) h) hlast
    · have e : j = k - 1 := by omega
      subst e; exact hlast
  have ha : ∀ x ∈ rows.drop k, befB S x = true := by
    intro x hx
    obtain ⟨j, hj, rfl⟩ := List.getElem_of_mem hx
    have hj2 : k + j < rows.length := by simp at hj; omega
    rw [List.getElem_drop]
    exact h1 _ hj2 (by omega)
  rw [List.append_assoc, List.pairwise_append]
  refine ⟨hs.sublist (List.take_sublist _ _), ?_, ?_⟩
  · rw [List.singleton_append, List.pairwise_cons]
    exact ⟨ha, hs.sublist (List.drop_sublist _ _)⟩
  · intro x hx y hy
    rcases List.mem_append.1 hy with hy | hy
    · have : y = S := by simpa using hy
      subst this; exact hb x hx
    · obtain ⟨i, hi, rfl⟩ := List.getElem_of_mem hx
      obtain ⟨j, hj, rfl⟩ := List.getElem_of_mem hy
      have hi2 : i < k := by simp at hi; omega
      have hj2 : k + j < rows.length := by simp at hj; omega
      rw [List.getElem_take, List.getElem_drop]
      exact List.pairwise_iff_getElem.1 hs i (k + j) (by omega) hj2 (by omega)
theorem ins_perm {rows l : List (List Int)} {S : List Int} (k : Nat) (h : rows.Perm l) : (rows.take k ++ [S] ++ rows.drop k).Perm (l ++ [S]) := by
  have h1 : (rows.take k ++ [S] ++ rows.drop k).Perm (S :: rows) := by
    rw [List.append_assoc, List.singleton_append]
    refine List.perm_middle.trans ?_
    rw [List.take_append_drop]
  exact h1.trans ((List.Perm.cons S h).trans (List.perm_append_singleton S l).symm)
theorem fresh_code {n c : Nat} {rows : List (List Int)} (hc : c + 1 < 2 ^ n) (hp : rows.Perm (rowsTo n c)) : bitsL n (c + 1) ∉ rows := by
  intro h
  obtain ⟨d, hd, e⟩ := rowsTo_mem (hp.mem_iff.1 h)
  have := bitsL_inj (by omega) (by omega) e
  omega
theorem gown_ab (w : World) (lo : Option Nat) (o : Obj) : GOwn ((w.alloc (.cells #[] 22)).alloc o) lo w.heap.size (.slice (some ⟨w.heap.size, 0, none⟩) 0 0) [] :=
  (gown_new w lo _ (Nat.le_refl _)).kp ((Kp.refl _).alloc _)
theorem gown_ba (w : World) (lo : Option Nat) (o : Obj) : GOwn ((w.alloc o).alloc (.cells #[] 22)) lo w.heap.size (.slice (some ⟨w.heap.size + 1, 0, none⟩) 0 0) [] := by
  have := gown_new (w.alloc o) lo w.heap.size (by simp)
  simpa using this
theorem hd_ab (w : World) (u : Value) : ((w.alloc (.cells #[] 22)).alloc (.cells #[u] 22)).cell? ⟨w.heap.size + 1, 0, none⟩ = some u := by
  rw [World.cell?_alloc_at _ _ _ _ (by simp)]; rfl
theorem hd_ba (w : World) (u : Value) : ((w.alloc (.cells #[u] 22)).alloc (.cells #[] 22)).cell? ⟨w.heap.size, 0, none⟩ = some u :=
  ((Kp.refl _).alloc _).get (by rw [World.cell?_alloc_at _ _ _ _ rfl]; rfl)
theorem cell_turn {T : Nat → Prop} {W w' : World} {p : Addr} {u : Value} (h : W.cell? p = some u) (ht : Turn T W w') (hg : ¬ T p.block) : w'.cell? p = some u := by
  have hb : p.block < W.heap.size := World.block_lt_of_cell? _ _ h
  rw [World.cell?_of_block (ht.block p.block hb hg)]; exact h
theorem Kp.turn_new {w0 W w' : World} {lo : Option Nat} {v : Value} {rows : List (List Int)} (_ : Kp w0 w0) (h : Kp w0 W) (ht : Turn (fun i => v.ownBlock = some i) W w') (ho : GOwn W lo w0.heap.size v rows) : Kp w0 w' :=
  ho.kp_turn h (Nat.le_refl _) ht
end Go.Proofs.Ytghpkjllcapbpaa

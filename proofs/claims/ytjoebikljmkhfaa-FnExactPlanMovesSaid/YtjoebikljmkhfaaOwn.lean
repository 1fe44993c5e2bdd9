/- Words for memory that a call made and that is written later: which blocks may turn; a slice and a slice of slices of the call's own. No condition. -/
import Derived.Test.YtjoebikljmkhfaaMem
namespace Go.Proofs.Ytjoebikljmkhfaa
open Go.RowKit

/-- Only blocks of S have turned, and new ones may have come. -/
structure Turn (S : Nat → Prop) (w w' : World) : Prop where
  os : w'.os = w.os
  tape : w'.tape = w.tape
  output : w'.output = w.output
  size : w.heap.size ≤ w'.heap.size
  block : ∀ k, k < w.heap.size → ¬ S k → w'.heap[k]? = w.heap[k]?
theorem Turn.refl (S : Nat → Prop) (w : World) : Turn S w w := ⟨rfl, rfl, rfl, Nat.le_refl _, fun _ _ _ => rfl⟩
theorem Turn.trans {S : Nat → Prop} {a b c : World} (h : Turn S a b) (k : Turn S b c) : Turn S a c :=
  ⟨k.os.trans h.os, k.tape.trans h.tape, k.output.trans h.output, Nat.le_trans h.size k.size, fun i hi hs => (k.block i (Nat.lt_of_lt_of_le hi h.size) hs).trans (h.block i hi hs)⟩
theorem Turn.mono {S S' : Nat → Prop} {a b : World} (h : Turn S a b) (hs : ∀ i, S i → S' i) : Turn S' a b :=
  ⟨h.os, h.tape, h.output, h.size, fun i hi hn => h.block i hi (fun hh => hn (hs i hh))⟩
theorem Turn.of_kp {S : Nat → Prop} {a b : World} (h : Kp a b) : Turn S a b := ⟨h.os, h.tape, h.output, h.size, fun i hi _ => h.block i hi⟩
theorem Turn.of_grown {w w' : World} {row : Option Nat} (h : w.grownBy w' row) : Turn (fun i => row = some i) w w' :=
  ⟨h.os, h.tape, h.output, h.size, fun i hi hn => h.block i hi (fun e => hn e.symm)⟩
theorem Turn.grown {w w' : World} {row : Option Nat} (h : Turn (fun i => row = some i) w w') : w.grownBy w' row :=
  ⟨h.os, h.tape, h.output, h.size, fun i hi hn => h.block i hi (fun e => hn e.symm)⟩
theorem Kp.turn {S : Nat → Prop} {a b c : World} (h : Kp a b) (ht : Turn S b c) (hs : ∀ i, S i → a.heap.size ≤ i) : Kp a c :=
  ⟨ht.os.trans h.os, ht.tape.trans h.tape, ht.output.trans h.output, Nat.le_trans h.size ht.size, fun i hi => (ht.block i (Nat.lt_of_lt_of_le hi h.size) (fun hh => by have := hs i hh; omega)).trans (h.block i hi)⟩
theorem own_turn {S : Nat → Prop} {w w' : World} {base : Nat} {e : TypeId} {size : Nat} {v : Value} {n : Nat} {xs : List Value} (h : w.ownsRow base e size v n xs) (ht : Turn S w w') (hn : ∀ g, v.ownBlock = some g → ¬ S g) : w'.ownsRow base e size v n xs := by
  refine ⟨h.1, ?_⟩
  rcases h.2 with hh | ⟨g, cap, cur, rfl, hb, hg, rest⟩
  · exact .inl hh
  · refine .inr ⟨g, cap, cur, rfl, hb, ?_, rest⟩
    rw [ht.block g (Array.getElem?_eq_some_iff.1 hg).1 (hn g rfl)]
    exact hg
theorem Own.turn {S : Nat → Prop} {w w' : World} {base : Nat} {v : Value} {xs : List Int} (h : Own w base v xs) (ht : Turn S w w') (hn : ∀ g, v.ownBlock = some g → ¬ S g) : Own w' base v xs := own_turn h ht hn
theorem Own.mono {w : World} {base base' : Nat} {v : Value} {xs : List Int} (h : Own w base v xs) (hb : base' ≤ base) : Own w base' v xs := by
  refine ⟨h.1, ?_⟩
  rcases h.2 with hh | ⟨g, cap, cur, e, hg, rest⟩
  · exact .inl hh
  · exact .inr ⟨g, cap, cur, e, Nat.le_trans hb hg, rest⟩
theorem Own.of_row {w : World} {base g : Nat} {xs : List Int} (h : IntRow w g xs) (hb : base ≤ g) (hl : xs.length ≤ 9223372036854775807) : Own w base (.slice (some ⟨g, 0, none⟩) xs.length xs.length) xs := by
  obtain ⟨c, hg, hs, hc⟩ := h
  refine ⟨by simp, .inr ⟨g, _, c, rfl, hb, hg, Nat.le_refl _, by unfold maxLen; omega, by rw [hs]; simp, ?_⟩⟩
  rw [List.take_of_length_le (by simp [hs])]
  apply List.ext_getElem?
  intro i
  by_cases hi : i < xs.length
  · have := hc i hi
    rw [Array.getElem?_toList, this]
    simp [List.getD, hi]
  · rw [List.getElem?_eq_none (by simp [hs]; omega), List.getElem?_eq_none (by simp; omega)]
theorem Own.nil (w : World) (base : Nat) : Own w base (.slice none 0 0) [] := World.ownsRow_nil _ _ _ _
theorem Own.shape {w : World} {base : Nat} {v : Value} {xs : List Int} (h : Own w base v xs) : ∃ A c, v = .slice A xs.length c := by
  rcases h.2 with ⟨rfl, h0⟩ | ⟨g, cap, cur, rfl, _⟩
  · exact ⟨none, 0, by rw [h0]⟩
  · exact ⟨_, _, rfl⟩

def seqF (k : Int) (n : Nat) : List Int := (List.range n).map fun (i : Nat) => k + (i : Int)
theorem seqF_len (k : Int) (n : Nat) : (seqF k n).length = n := by simp [seqF]

/-- A slice of n slices of the call's own, apart from each other; row j reads as R j. -/
def OwnGrid (w : World) (base : Nat) (v : Value) (n : Nat) (R : Nat → List Int) : Prop :=
  ∃ C : Nat → Value, w.ownsRow base 22 1 v n ((List.range n).map C) ∧ (∀ j, j < n → Own w base (C j) (R j)) ∧
    ∀ i j g, i < j → j < n → (C i).ownBlock = some g → (C j).ownBlock ≠ some g
theorem own_blocks_ne {w : World} {base base' : Nat} {v u : Value} {n m s s' : Nat} {xs ys : List Value} {e e' : TypeId} (h : w.ownsRow base e s v n xs) (h' : w.ownsRow base' e' s' u m ys) (hne : e ≠ e') {g : Nat} (hv : v.ownBlock = some g) : u.ownBlock ≠ some g := by
  rcases h.2 with ⟨rfl, _⟩ | ⟨g1, _, cur, rfl, _, hg, _⟩
  · simp [Value.ownBlock] at hv
  rcases h'.2 with ⟨rfl, _⟩ | ⟨g2, _, cur2, rfl, _, hg2, _⟩
  · simp [Value.ownBlock]
  intro e2
  simp only [Value.ownBlock, Option.some.injEq] at hv e2
  subst hv
  subst e2
  rw [hg] at hg2
  simp at hg2
  exact hne hg2.2
theorem OwnGrid.lt {w : World} {base : Nat} {v : Value} {n : Nat} {R : Nat → List Int} (h : OwnGrid w base v n R) : ∀ k, v.ownBlock = some k → base ≤ k ∧ k < w.heap.size := by
  obtain ⟨C, h1, _⟩ := h
  exact h1.lt
theorem OwnGrid.shape {w : World} {base : Nat} {v : Value} {n : Nat} {R : Nat → List Int} (h : OwnGrid w base v n R) : ∃ A c, v = .slice A n c := by
  obtain ⟨C, h1, _⟩ := h
  rcases h1.2 with ⟨rfl, h0⟩ | ⟨g, cap, cur, rfl, _⟩
  · exact ⟨none, 0, by rw [h0]⟩
  · exact ⟨_, _, rfl⟩
theorem OwnGrid.kp {w w' : World} {base : Nat} {v : Value} {n : Nat} {R : Nat → List Int} (h : OwnGrid w base v n R) (hk : Kp w w') : OwnGrid w' base v n R := by
  obtain ⟨C, h1, h2, h3⟩ := h
  exact ⟨C, hk.own h1, fun j hj => (h2 j hj).kp hk, h3⟩
theorem OwnGrid.turn {S : Nat → Prop} {w w' : World} {base : Nat} {v : Value} {n : Nat} {R : Nat → List Int} (h : OwnGrid w base v n R) (ht : Turn S w w') (hS : ∀ i, base ≤ i → i < w.heap.size → ¬ S i) : OwnGrid w' base v n R := by
  obtain ⟨C, h1, h2, h3⟩ := h
  exact ⟨C, own_turn h1 ht (fun g hg => hS g (h1.lt g hg).1 (h1.lt g hg).2), fun j hj => (h2 j hj).turn ht (fun g hg => hS g ((h2 j hj).lt g hg).1 ((h2 j hj).lt g hg).2), h3⟩
theorem OwnGrid.congr {w : World} {base : Nat} {v : Value} {n : Nat} {R R' : Nat → List Int} (h : OwnGrid w base v n R) (e : ∀ j, j < n → R j = R' j) : OwnGrid w base v n R' := by
  obtain ⟨C, h1, h2, h3⟩ := h
  exact ⟨C, h1, fun j hj => by rw [← e j hj]; exact h2 j hj, h3⟩
theorem OwnGrid.mono {w : World} {base base' : Nat} {v : Value} {n : Nat} {R : Nat → List Int} (h : OwnGrid w base v n R) (hb : base' ≤ base) : OwnGrid w base' v n R := by
  obtain ⟨C, h1, h2, h3⟩ := h
  refine ⟨C, ⟨h1.1, ?_⟩, fun j hj => (h2 j hj).mono hb, h3⟩
  rcases h1.2 with hh | ⟨g, cap, cur, e, hg, rest⟩
  · exact .inl hh
  · exact .inr ⟨g, cap, cur, e, Nat.le_trans hb hg, rest⟩
/-- As a slice of slices that is read. -/
theorem OwnGrid.grid {w : World} {base : Nat} {v : Value} {n : Nat} {R : Nat → List Int} {rows : List (List Int)} (h : OwnGrid w base v n R) (hn : rows.length = n) (hR : ∀ j, j < n → R j = rows.getD j []) (hl : n ≤ 9223372036854775807)
    (hr : ∀ j, j < n → (R j).length ≤ 9223372036854775807) : ∃ A c, v = .slice A n c ∧ GridAt w A rows := by
  obtain ⟨C, h1, h2, h3⟩ := h
  have hcell := fun g hg => World.ownsRow.cells h1 (g := g) hg
  rcases h1.2 with ⟨rfl, h0⟩ | ⟨g, cap, cur, rfl, _⟩
  · refine ⟨none, 0, by rw [h0], by omega, fun k hk => ?_⟩
    omega
  · refine ⟨_, cap, rfl, by omega, fun k hk => ?_⟩
    rw [hn] at hk
    obtain ⟨A, c, e, hi⟩ := (h2 k hk).ints (hr k hk)
    refine ⟨_, A, c, rfl, ?_, by rw [← hR k hk]; exact hi⟩
    rw [hcell g rfl k (C k) (by simp [hk]), e, hR k hk]
/-- Row j has been written. -/
theorem OwnGrid.row {w w' : World} {base : Nat} {v : Value} {n : Nat} {R : Nat → List Int} {C : Nat → Value} {j : Nat} {ys : List Int} (h1 : w.ownsRow base 22 1 v n ((List.range n).map C)) (h2 : ∀ j, j < n → Own w base (C j) (R j))
    (h3 : ∀ i j g, i < j → j < n → (C i).ownBlock = some g → (C j).ownBlock ≠ some g) (hj : j < n) (ht : Turn (fun i => (C j).ownBlock = some i) w w') (ho : Own w' base (C j) ys) :
    w'.ownsRow base 22 1 v n ((List.range n).map C) ∧ ∀ i, i < n → Own w' base (C i) (if i = j then ys else R i) := by
  refine ⟨own_turn h1 ht (fun g hg hc => own_blocks_ne (h2 j hj) h1 (by decide) hc hg), fun i hi => ?_⟩
  by_cases e : i = j
  · subst e; rw [if_pos rfl]; exact ho
  · rw [if_neg e]
    refine (h2 i hi).turn ht (fun g hg hc => ?_)
    rcases Nat.lt_or_gt_of_ne e with hlt | hgt
    · exact h3 i j g hlt hj hg hc
    · exact h3 j i g hgt hi hc hg
/-- A field of the call's own: first what the sites cost, then, in later blocks, the lengths. -/
def OwnFld (w : World) (base : Nat) (v : Value) (F : Fld) : Prop :=
  ∃ a b mid, v = .agg #[a, b] ∧ base ≤ mid ∧ Own w base a F.op ∧ (∀ g, a.ownBlock = some g → g < mid) ∧ OwnGrid w mid b F.di.length (fun j => F.di.getD j [])
theorem OwnFld.kp {w w' : World} {base : Nat} {v : Value} {F : Fld} (h : OwnFld w base v F) (hk : Kp w w') : OwnFld w' base v F := by
  obtain ⟨a, b, mid, e, hm, h1, h2, h3⟩ := h
  exact ⟨a, b, mid, e, hm, h1.kp hk, h2, h3.kp hk⟩
theorem Fld.rows_le {F : Fld} (h : ∀ r ∈ F.di, r.length ≤ 9223372036854775807) : ∀ j, j < F.di.length → (F.di.getD j []).length ≤ 9223372036854775807 := fun j hj => by
  have : F.di.getD j [] = F.di[j] := by simp [List.getD, hj]
  rw [this]; exact h _ (List.getElem_mem hj)
theorem OwnFld.fld {w : World} {base : Nat} {v : Value} {F : Fld} (h : OwnFld w base v F) (h1 : F.op.length ≤ 9223372036854775807) (h2 : F.di.length ≤ 9223372036854775807) (h3 : ∀ r ∈ F.di, r.length ≤ 9223372036854775807) : FldAt w v F := by
  obtain ⟨a, b, mid, rfl, hm, ha, _, hb⟩ := h
  obtain ⟨A, c, rfl, hA⟩ := ha.ints h1
  obtain ⟨B, d, rfl, hB⟩ := hb.grid rfl (fun _ _ => rfl) h2 (Fld.rows_le h3)
  exact ⟨A, c, B, d, rfl, hA, hB⟩
end Go.Proofs.Ytjoebikljmkhfaa

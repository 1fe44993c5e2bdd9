/- A slice of slices of the call's own that grows by append; its rows lie in other blocks, and are read, or are of the call's own too; Which tables are monotone, which are submodular: the program's answer and the reference's; Which lists are sets of sites: the program's answer and the reference's; By which site of a set a client is served, and how far it is: the program's answer and the reference's; Sets as binary numbers, and as rising lists: plain words; All sets of some sites in their order: plain words. No condition. -/
import Derived.Test.YtjhibahbcjlmfaaBrAb
import Derived.Lib.AppendZeros
namespace Go.Proofs.Ytjhibahbcjlmfaa
open Go.RowKit

theorem infoIntsG : (Try.prog.info? 22).map (fun i => (i.zero, i.size, i.bytes)) = some (some (.slice none 0 0), 1, 24) := by kernel_rfl
theorem IntsAt.blk {w : World} {ad : Addr} {xs : List Int} (h : IntsAt w (some ad) xs) (hne : xs ≠ []) : ad.block < w.heap.size := by
  have hp : 0 < xs.length := List.length_pos_iff.2 hne
  have := World.block_lt_of_cell? _ _ (h.some_ hp)
  rwa [blk_add] at this
theorem IntsAt.turn {S : Nat → Prop} {w w' : World} {A : Option Addr} {xs : List Int} (h : IntsAt w A xs) (ht : Turn S w w') (hn : ∀ ad, A = some ad → xs ≠ [] → ¬ S ad.block) : IntsAt w' A xs :=
  ⟨h.1, fun k hk => by
    obtain ⟨ad, e, hc⟩ := h.2 k hk
    have hne : xs ≠ [] := fun e0 => by subst e0; simp at hk
    have hb : ad.block < w.heap.size := by
      have := World.block_lt_of_cell? _ _ hc
      rwa [blk_add] at this
    refine ⟨ad, e, ?_⟩
    have hbk : w'.heap[(ad.add k).block]? = w.heap[(ad.add k).block]? := by rw [blk_add]; exact ht.block _ hb (hn ad e hne)
    rw [World.cell?_of_block hbk]; exact hc⟩
theorem Own.capL {w : World} {base n c : Nat} {v : Value} {A : Option Addr} {xs : List Int} (h : Own w base v xs) (e : v = .slice A n c) : xs.length ≤ c := by
  rcases h.2 with ⟨rfl, h0⟩ | ⟨g, cap, cur, rfl, _, _, h4, _⟩
  · omega
  · simp only [Value.slice.injEq] at e
    omega
/-- A row that is read, and, where lo says from which block on, of the call's own. -/
def RowP (w : World) (lo : Option Nat) (u : Value) (xs : List Int) : Prop :=
  (∃ A c, u = .slice A xs.length c ∧ xs.length ≤ c ∧ IntsAt w A xs) ∧ ∀ b, lo = some b → Own w b u xs
theorem RowP.kp {w w' : World} {lo : Option Nat} {u : Value} {xs : List Int} (h : RowP w lo u xs) (hk : Kp w w') : RowP w' lo u xs := by
  obtain ⟨⟨A, c, e, hl, hi⟩, h2⟩ := h
  exact ⟨⟨A, c, e, hl, hi.kp hk⟩, fun b e => (h2 b e).kp hk⟩
theorem RowP.turn {S : Nat → Prop} {w w' : World} {lo : Option Nat} {u : Value} {xs : List Int} (h : RowP w lo u xs) (ht : Turn S w w') (hn : (xs ≠ [] ∨ lo ≠ none) → ∀ g, u.ownBlock = some g → ¬ S g) : RowP w' lo u xs := by
  obtain ⟨⟨A, c, rfl, hl, hi⟩, h2⟩ := h
  exact ⟨⟨A, c, rfl, hl, hi.turn ht (fun ad e hne => hn (.inl hne) ad.block (by rw [e]; rfl))⟩, fun b e => (h2 b e).turn ht (hn (.inr (by rw [e]; simp)))⟩
theorem RowP.lt {w : World} {lo : Option Nat} {u : Value} {xs : List Int} (h : RowP w lo u xs) (hn : xs ≠ [] ∨ lo ≠ none) : ∀ g, u.ownBlock = some g → g < w.heap.size := by
  obtain ⟨⟨A, c, rfl, hl, hi⟩, h2⟩ := h
  intro g hg
  rcases hn with hne | hlo
  · cases A with
    | none => cases hg
    | some ad =>
      have e : ad.block = g := by simpa [Value.ownBlock] using hg
      exact e ▸ hi.blk hne
  · cases lo with
    | none => exact absurd rfl hlo
    | some b => exact ((h2 b rfl).lt g hg).2
theorem RowP.of_own {w : World} {b : Nat} {u : Value} {xs : List Int} (h : Own w b u xs) (hl : xs.length ≤ 9223372036854775807) : RowP w (some b) u xs := by
  obtain ⟨A, c, e, hi⟩ := h.ints hl
  refine ⟨⟨A, c, e, h.capL e, hi⟩, fun b' e' => ?_⟩
  cases e'; exact h
theorem RowP.of_ints {w : World} {A : Option Addr} {xs : List Int} {c : Nat} (h : IntsAt w A xs) (hc : xs.length ≤ c) : RowP w none (.slice A xs.length c) xs :=
  ⟨⟨A, c, rfl, hc, h⟩, fun _ e => by cases e⟩
theorem RowP.mono {w : World} {b b' : Nat} {u : Value} {xs : List Int} (h : RowP w (some b) u xs) (hb : b' ≤ b) : RowP w (some b') u xs :=
  ⟨h.1, fun c e => by cases e; exact (h.2 b rfl).mono hb⟩
theorem RowP.read {w : World} {lo : Option Nat} {u : Value} {xs : List Int} (h : RowP w lo u xs) : ∃ A c, u = .slice A xs.length c ∧ xs.length ≤ c ∧ IntsAt w A xs := h.1
theorem RowP.one {w : World} {lo : Option Nat} {u : Value} {xs : List Int} (h : RowP w lo u xs) : u.oneCell' = true := by
  obtain ⟨⟨A, c, rfl, _⟩, _⟩ := h; rfl
/-- A slice of slices of the call's own; row j reads as rows[j] and does not lie in the outer block. -/
def GOwn (w : World) (lo : Option Nat) (base : Nat) (v : Value) (rows : List (List Int)) : Prop :=
  ∃ hs : List Value, w.ownsRow base 22 1 v rows.length hs ∧
    ∀ j (hj : j < rows.length), ∃ u, hs[j]? = some u ∧ RowP w lo u rows[j] ∧ ((rows[j] ≠ [] ∨ lo ≠ none) → ∀ g, u.ownBlock = some g → v.ownBlock ≠ some g)
theorem GOwn.kp {w w' : World} {lo : Option Nat} {base : Nat} {v : Value} {rows : List (List Int)} (h : GOwn w lo base v rows) (hk : Kp w w') : GOwn w' lo base v rows := by
  obtain ⟨hs, h1, h2⟩ := h
  exact ⟨hs, hk.own h1, fun j hj => by obtain ⟨u, e1, e2, e3⟩ := h2 j hj; exact ⟨u, e1, e2.kp hk, e3⟩⟩
theorem GOwn.nil (w : World) (lo : Option Nat) (base : Nat) : GOwn w lo base (.slice none 0 0) [] := ⟨[], World.ownsRow_nil _ _ _ _, fun j hj => by simp at hj⟩
theorem gown_new (w : World) (lo : Option Nat) (base : Nat) (hb : base ≤ w.heap.size) : GOwn (w.alloc (.cells #[] 22)) lo base (.slice (some ⟨w.heap.size, 0, none⟩) 0 0) [] :=
  ⟨[], World.ownsRow_lit w #[] 0 hb (by unfold maxLen; omega) (by simp), fun j hj => by simp at hj⟩
theorem GOwn.lt {w : World} {lo : Option Nat} {base : Nat} {v : Value} {rows : List (List Int)} (h : GOwn w lo base v rows) : ∀ k, v.ownBlock = some k → base ≤ k ∧ k < w.heap.size := by
  obtain ⟨hs, h1, _⟩ := h
  exact World.ownsRow.lt h1
theorem GOwn.mono {w : World} {lo : Option Nat} {base base' : Nat} {v : Value} {rows : List (List Int)} (h : GOwn w lo base v rows) (hb : base' ≤ base) : GOwn w lo base' v rows := by
  obtain ⟨hs, h1, h2⟩ := h
  refine ⟨hs, ⟨h1.1, ?_⟩, h2⟩
  rcases h1.2 with h | ⟨g, cap, cur, e, h3, h4⟩
  · exact .inl h
  · exact .inr ⟨g, cap, cur, e, Nat.le_trans hb h3, h4⟩
theorem GOwn.kp_turn {a w w' : World} {lo : Option Nat} {base : Nat} {v : Value} {rows : List (List Int)} (h : GOwn w lo base v rows) (hk : Kp a w) (hb : a.heap.size ≤ base) (ht : Turn (fun i => v.ownBlock = some i) w w') : Kp a w' :=
  hk.turn ht (fun i hi => Nat.le_trans hb (h.lt i hi).1)
theorem GOwn.drew {w : World} {lo : Option Nat} {base : Nat} {v : Value} {rows : List (List Int)} (h : GOwn w lo base v rows) : GOwn w.drew lo base v rows := h.kp (Kp.refl w).drew
theorem GOwn.one_kp {w : World} {lo : Option Nat} {base : Nat} {v : Value} {rows : List (List Int)} {o : Obj} (h : GOwn w lo base v rows) : GOwn (w.alloc o) lo base v rows := h.kp ((Kp.refl w).alloc o)
theorem GOwn.not_nil {w : World} {lo : Option Nat} {base : Nat} {v : Value} {rows : List (List Int)} (h : GOwn w lo base v rows) (hr : rows ≠ []) : v ≠ .slice none 0 0 := by
  rintro rfl
  obtain ⟨hs, h1, _⟩ := h
  rcases h1.2 with ⟨_, e⟩ | ⟨g, cap, cur, e, _⟩
  · exact hr (List.eq_nil_of_length_eq_zero e)
  · cases e

/-- The slice of this address reads as these rows. -/
def RowsAt (w : World) (lo : Option Nat) (A : Option Addr) (rows : List (List Int)) : Prop :=
  rows.length ≤ 9223372036854775807 ∧ ∀ k (_ : k < rows.length), ∃ ad u, A = some ad ∧ w.cell? (ad.add k) = some u ∧ RowP w lo u rows[k]
theorem RowsAt.kp {w w' : World} {lo : Option Nat} {A : Option Addr} {rows : List (List Int)} (h : RowsAt w lo A rows) (hk : Kp w w') : RowsAt w' lo A rows :=
  ⟨h.1, fun k hlt => by obtain ⟨ad, u, e, hc, hi⟩ := h.2 k hlt; exact ⟨ad, u, e, hk.get hc, hi.kp hk⟩⟩
theorem RowsAt.at_ {w : World} {lo : Option Nat} {A : Option Addr} {rows : List (List Int)} (h : RowsAt w lo A rows) {k : Nat} (hk : k < rows.length) : ∃ ad A2 c, A = some ad ∧ w.cell? (ad.add k) = some (.slice A2 rows[k].length c) ∧ rows[k].length ≤ c ∧ IntsAt w A2 rows[k] ∧ RowP w lo (.slice A2 rows[k].length c) rows[k] := by
  obtain ⟨ad, u, e, hc, hp⟩ := h.2 k hk
  obtain ⟨A2, c, rfl, h2, h3⟩ := hp.read
  exact ⟨ad, A2, c, e, hc, h2, h3, hp⟩
theorem RowsAt.some_ {w : World} {lo : Option Nat} {ad : Addr} {rows : List (List Int)} (h : RowsAt w lo (some ad) rows) {k : Nat} (hk : k < rows.length) : ∃ A2 c, w.cell? (ad.add k) = some (.slice A2 rows[k].length c) ∧ rows[k].length ≤ c ∧ IntsAt w A2 rows[k] ∧ RowP w lo (.slice A2 rows[k].length c) rows[k] := by
  obtain ⟨ad', A2, c, e, h1⟩ := h.at_ hk
  cases e; exact ⟨A2, c, h1⟩
theorem RowsAt.nil (w : World) (lo : Option Nat) (A : Option Addr) : RowsAt w lo A [] := ⟨by simp, fun k hk => absurd hk (by simp)⟩
theorem RowsAt.grid {w : World} {lo : Option Nat} {A : Option Addr} {rows : List (List Int)} (h : RowsAt w lo A rows) : GridAt w A rows :=
  ⟨h.1, fun k hk => by
    obtain ⟨ad, A2, c, e, hc, _, hi, _⟩ := h.at_ hk
    have e2 : rows.getD k [] = rows[k] := by simp [List.getD, hk]
    rw [e2]
    exact ⟨ad, A2, c, e, hc, hi⟩⟩
theorem RowsAt.take {w : World} {lo : Option Nat} {ad : Addr} {rows : List (List Int)} (h : RowsAt w lo (some ad) rows) (k : Nat) : RowsAt w lo (some ad) (rows.take k) :=
  ⟨Nat.le_trans (by simp; omega) h.1, fun j hj => by
    have h1 : j < rows.length := by simp at hj; omega
    obtain ⟨A2, c, e1, _, _, e3⟩ := h.some_ h1
    have e : (rows.take k)[j] = rows[j] := List.getElem_take
    rw [e]
    exact ⟨ad, _, rfl, e1, e3⟩⟩
theorem add_add (ad : Addr) (k j : Nat) : (ad.add k).add j = ad.add (k + j) := by
  unfold Addr.add
  by_cases hk : k = 0 <;> by_cases hj0 : j = 0 <;> simp [hk, hj0, Nat.add_assoc]
theorem RowsAt.drop {w : World} {lo : Option Nat} {ad : Addr} {rows : List (List Int)} (h : RowsAt w lo (some ad) rows) (k : Nat) : RowsAt w lo (some (ad.add k)) (rows.drop k) :=
  ⟨Nat.le_trans (by simp) h.1, fun j hj => by
    have h1 : k + j < rows.length := by simp at hj; omega
    obtain ⟨A2, c, e1, _, _, e3⟩ := h.some_ h1
    have e : (rows.drop k)[j] = rows[k + j] := List.getElem_drop
    rw [e]
    exact ⟨ad.add k, _, rfl, by rw [add_add]; exact e1, e3⟩⟩
theorem RowsAt.tail {w : World} {lo : Option Nat} {ad : Addr} {rows : List (List Int)} {c : Nat} (h : RowsAt w lo (some ad) rows) (hc : rows.length ≤ c) (k : Nat) : RowsAt w lo (if c = k then some ad else some (ad.add k)) (rows.drop k) := by
  by_cases e : c = k
  · rw [if_pos e, List.drop_eq_nil_of_le (by omega)]; exact RowsAt.nil _ _ _
  · rw [if_neg e]; exact h.drop k
theorem GOwn.rows {w : World} {lo : Option Nat} {base : Nat} {v : Value} {rows : List (List Int)} (h : GOwn w lo base v rows) (hl : rows.length ≤ 9223372036854775807) : ∃ A c, v = .slice A rows.length c ∧ rows.length ≤ c ∧ RowsAt w lo A rows := by
  obtain ⟨hs, h1, h2⟩ := h
  rcases id h1.2 with ⟨rfl, h0⟩ | ⟨g, cap, cur, rfl, _, _, hn, _⟩
  · have : rows = [] := List.eq_nil_of_length_eq_zero h0
    subst this
    exact ⟨none, 0, rfl, by simp, RowsAt.nil _ _ _⟩
  · refine ⟨_, cap, rfl, hn, hl, fun k hk => ?_⟩
    obtain ⟨u, e1, e2, _⟩ := h2 k hk
    exact ⟨_, u, rfl, World.ownsRow.cells h1 (g := g) rfl k _ e1, e2⟩
theorem GOwn.rows_some {w : World} {lo : Option Nat} {base : Nat} {v : Value} {rows : List (List Int)} (h : GOwn w lo base v rows) (hl : rows.length ≤ 9223372036854775807) (hv : v ≠ .slice none 0 0) : ∃ ad c, v = .slice (some ad) rows.length c ∧ rows.length ≤ c ∧ RowsAt w lo (some ad) rows := by
  obtain ⟨A, c, rfl, h2, h3⟩ := h.rows hl
  obtain ⟨hs, h1, _⟩ := h
  rcases h1.2 with ⟨e, _⟩ | ⟨g, cap, cur, e, _⟩
  · exact absurd e hv
  · simp only [Value.slice.injEq] at e
    obtain ⟨rfl, _, _⟩ := e
    exact ⟨_, c, rfl, h2, h3⟩
theorem GOwn.shape {w : World} {lo : Option Nat} {base : Nat} {v : Value} {rows : List (List Int)} (h : GOwn w lo base v rows) : ∃ A c, v = .slice A rows.length c := by
  obtain ⟨hs, h1, _⟩ := h
  rcases h1.2 with ⟨rfl, h0⟩ | ⟨g, cap, cur, e, _⟩
  · exact ⟨none, 0, by rw [h0]⟩
  · exact ⟨_, cap, e⟩
/-- What is read in a world that the call found lies apart from what has been made since. -/
theorem apart_old {w0 w : World} {lo : Option Nat} {base : Nat} {v u : Value} {rows : List (List Int)} {xs : List Int} (h : RowP w0 lo u xs) (hv : GOwn w lo base v rows) (hb : w0.heap.size ≤ base) : (xs ≠ [] ∨ lo ≠ none) → ∀ g, u.ownBlock = some g → v.ownBlock ≠ some g := by
  intro hn g hg hv2
  have := h.lt hn g hg
  have := (hv.lt _ hv2).1
  omega
theorem run_appg_all {W0 W : World} (ty : TypeId) {lo : Option Nat} (base : Nat) (v : Value) (rows rows2 : List (List Int)) (A : Option Addr) (m c : Nat)
    (hown : GOwn W lo base v rows) (hy : RowsAt W0 lo A rows2) (hk : Kp W0 W) (hap0 : ∀ k (hk : k < rows2.length) (ad : Addr) (u : Value), A = some ad → W0.cell? (ad.add k) = some u → RowP W0 lo u rows2[k] → (rows2[k] ≠ [] ∨ lo ≠ none) → ∀ g, u.ownBlock = some g → v.ownBlock ≠ some g) (hym : rows2.length = m) (hbase : base ≤ W.heap.size) (hlen : rows.length + rows2.length ≤ 4194304) :
    ∃ v' w', (Builtin.append_ #[23, 23] ty #[v, .slice A m c]).run Try.prog W = .ok v' w' ∧ GOwn w' lo base v' (rows ++ rows2) ∧ W.grownBy w' v.ownBlock ∧ (v'.ownBlock = v.ownBlock ∨ ∀ g, v'.ownBlock = some g → W.heap.size ≤ g) := by
  obtain ⟨i0, hi, hz0, hz1, hz2⟩ := info_parts infoIntsG
  rcases A with _ | ad
  · have hys : rows2 = [] := by
      rcases rows2 with _ | ⟨y, ys⟩
      · rfl
      · obtain ⟨ad, _, h, _⟩ := hy.2 0 (by simp)
        cases h
    subst hys
    obtain rfl : m = 0 := by simpa using hym.symm
    refine ⟨v, W, ?_, by simpa using hown, World.grownBy.refl W _, .inl rfl⟩
    obtain ⟨hs, h1, _⟩ := hown
    rcases h1.2 with ⟨rfl, hn0⟩ | ⟨g, cap, cur, rfl, _, _, hnc, _⟩
    · simp [Builtin.append_, run_underlying Try.underlying23, sizeOf, typeInfo, hi, Builtin.lenOf, Builtin.firstCells]
    · simp [Builtin.append_, run_underlying Try.underlying23, sizeOf, typeInfo, hi, Builtin.lenOf, Builtin.firstCells, hnc, storeCells]
  · have hown0 := hown
    obtain ⟨hs, h1, h2⟩ := hown
    have hlt : hs.length = rows.length := by rw [h1.1]; omega
    obtain ⟨hs2, hs2d⟩ : ∃ hs2 : List Value, hs2 = (List.range m).map (fun j => (W.cell? (ad.add j)).getD (.slice none 0 0)) := ⟨_, rfl⟩
    have hs2l : hs2.length = m := by simp [hs2d]
    have hs2a : ∀ j (hj : j < rows2.length), ∃ u, hs2[j]? = some u ∧ W0.cell? (ad.add j) = some u ∧ RowP W0 lo u rows2[j] := fun j hj => by
      obtain ⟨ad', u, e0, e1, e2⟩ := hy.2 j hj
      cases e0
      refine ⟨u, ?_, e1, e2⟩
      rw [hs2d]
      simp [show j < m by omega, hk.get e1]
    obtain ⟨v', w', hrun, g2, g3, _, g5⟩ := run_append_own_at (P := Try.prog) W base 23 ty 22 i0 (.slice none 0 0) 1 24 Try.underlying23 hi hz0 hz1 hz2 rfl (by decide) v rows.length hs h1 ad m c hs2 (by rw [hs2l]; omega) (by
        intro j u hj
        by_cases hlt : j < rows2.length
        · obtain ⟨u2, e1, e2, _⟩ := hs2a j hlt
          rw [e1] at hj
          have e : u2 = u := by simpa using hj
          rw [← e]; exact hk.get e2
        · rw [List.getElem?_eq_none (by omega)] at hj; cases hj) (by
        intro u hu
        obtain ⟨j, hj, rfl⟩ := List.getElem_of_mem hu
        obtain ⟨u2, e1, _, e3⟩ := hs2a j (by omega)
        rw [List.getElem?_eq_getElem hj] at e1
        have e : hs2[j] = u2 := by simpa using e1
        rw [e]; exact e3.one) (by unfold maxLen; omega) (by omega) hbase
    have ht := Turn.of_grown g3
    have h5 : v'.ownBlock = v.ownBlock ∨ ∀ g, v'.ownBlock = some g → W.heap.size ≤ g := by
      rcases g5 with e | e
      · exact .inl e
      · exact .inr (fun g hg => by rw [e] at hg; simp at hg; omega)
    have hnew : ∀ (u : Value) (xs : List Int), RowP W lo u xs → (xs ≠ [] ∨ lo ≠ none) → (∀ g, u.ownBlock = some g → v.ownBlock ≠ some g) → ∀ g, u.ownBlock = some g → v'.ownBlock ≠ some g := by
      intro u xs hx hn hv g hg e
      rcases h5 with h | h
      · rw [h] at e; exact hv g hg e
      · have := h _ e
        have := hx.lt hn g hg
        omega
    refine ⟨v', w', hrun, ⟨hs ++ hs2, ?_, fun j hj => ?_⟩, g3, h5⟩
    · rw [List.length_append, hym]; exact g2
    · rw [List.length_append] at hj
      by_cases hjl : j < rows.length
      · obtain ⟨u, e1, e2, e3⟩ := h2 j hjl
        have e : (rows ++ rows2)[j] = rows[j] := List.getElem_append_left hjl
        rw [e]
        exact ⟨u, by rw [List.getElem?_append_left (by omega)]; exact e1, e2.turn ht (fun hn g hg hh => e3 hn g hg hh), fun hn => hnew u _ e2 hn (e3 hn)⟩
      · have hj2 : j - rows.length < rows2.length := by omega
        obtain ⟨u, e1, e0, e3⟩ := hs2a _ hj2
        have e : (rows ++ rows2)[j] = rows2[j - rows.length] := List.getElem_append_right (by omega)
        rw [e]
        have hap := hap0 _ hj2 ad u rfl e0 e3
        exact ⟨u, by rw [List.getElem?_append_right (by omega), hlt]; exact e1, (e3.kp hk).turn ht (fun hn g hg hh => hap hn g hg hh), fun hn => hnew u _ (e3.kp hk) hn (hap hn)⟩
/-- The header of a slice stands in a block of one cell. -/
theorem RowsAt.one {W : World} {lo : Option Nat} {ad : Addr} {u : Value} {xs : List Int} (h : RowP W lo u xs) (hc : W.cell? ad = some u) : RowsAt W lo (some ad) [xs] :=
  ⟨by simp, fun k hk => by
    obtain rfl : k = 0 := by simpa using hk
    have e : ad.add 0 = ad := by unfold Addr.add; simp
    exact ⟨ad, u, rfl, by rw [e]; exact hc, h⟩⟩
theorem run_appg {W : World} (ty : TypeId) {lo : Option Nat} (base : Nat) (v : Value) (rows : List (List Int)) (r : List Int) (u : Value) (ad : Addr) (m' c' : Nat)
    (hown : GOwn W lo base v rows) (hr : RowP W lo u r) (hcell : W.cell? ad = some u) (hm : m' = 1) (hap : (r ≠ [] ∨ lo ≠ none) → ∀ g, u.ownBlock = some g → v.ownBlock ≠ some g) (hbase : base ≤ W.heap.size) (hlen : rows.length < 1048576) :
    ∃ v' w', (Builtin.append_ #[23, 23] ty #[v, .slice (some ad) m' c']).run Try.prog W = .ok v' w' ∧ GOwn w' lo base v' (rows ++ [r]) ∧ W.grownBy w' v.ownBlock ∧ (v'.ownBlock = v.ownBlock ∨ ∀ g, v'.ownBlock = some g → W.heap.size ≤ g) := by
  subst hm
  refine run_appg_all ty base v rows [r] (some ad) 1 c' hown (RowsAt.one hr hcell) (Kp.refl W) (fun k hk ad2 u2 e1 e2 hu2 hn g hg => ?_) rfl hbase (by simp; omega)
  obtain rfl : k = 0 := by simpa using hk
  cases e1
  have e : ad.add 0 = ad := by unfold Addr.add; simp
  rw [e, hcell] at e2
  cases e2
  exact hap hn g hg
/-- append of one row, in a plain region: the row's header stands in a new block of one cell. -/
theorem wpl_appg {ops : Array Oper} {rest : List Oper} {o : Oper} {a : Act} {Q : Exit → Act → World → Prop} {W : World} (hgd : o.guard = none) (s x : Operand)
    (ho : o.op = .call { callee := .builtin .append, args := #[s, x], argTypes := #[23, 23] }) {lo : Option Nat} (base : Nat) (v : Value) (rows : List (List Int)) (r : List Int) (u : Value)
    (hs : a.eval s = v) (hx : a.eval x = .slice (some ⟨W.heap.size, 0, none⟩) 1 1) (hown : GOwn W lo base v rows) (hr : RowP W lo u r) (hap : (r ≠ [] ∨ lo ≠ none) → ∀ g, u.ownBlock = some g → v.ownBlock ≠ some g) (hbase : base ≤ W.heap.size) (hlen : rows.length < 1048576)
    (h : ∀ v' w', GOwn w' lo base v' (rows ++ [r]) → Turn (fun i => v.ownBlock = some i) W w' → (v'.ownBlock = v.ownBlock ∨ ∀ g, v'.ownBlock = some g → W.heap.size ≤ g) → wpList Try.prog ops Q rest (a.put o.dst v') w') :
    wpList Try.prog ops Q (o :: rest) a (W.alloc (.cells #[u] 22)) := by
  have hk : Kp W (W.alloc (.cells #[u] 22)) := (Kp.refl W).alloc _
  obtain ⟨v', w', hrun, h2, h3, h4⟩ := run_appg (W := W.alloc (.cells #[u] 22)) o.type base v rows r u ⟨W.heap.size, 0, none⟩ 1 1 (hown.kp hk) (hr.kp hk) (by rw [World.cell?_alloc_at _ _ _ _ rfl]; rfl) rfl hap (by simp; omega) hlen
  refine Lib.wpList_append_run _ hgd s x _ _ ho _ _ hs hx v' w' hrun (h v' w' h2 ((Turn.of_kp hk).trans (Turn.of_grown h3)) ?_)
  rcases h4 with e | e
  · exact .inl e
  · exact .inr (fun g hg => by have := e g hg; simp at this; omega)
theorem step_appg {ops : Array Oper} {o : Oper} {a : Act} {K : Act → World → Prop} {Q : Exit → Act → World → Prop} {E : Prop} {W : World} (hgd : o.guard = none) (s x : Operand)
    (ho : o.op = .call { callee := .builtin .append, args := #[s, x], argTypes := #[23, 23] }) {lo : Option Nat} (base : Nat) (v : Value) (rows : List (List Int)) (r : List Int) (u : Value) (ad : Addr)
    (hs : a.eval s = v) (hx : a.eval x = .slice (some ad) 1 1) (hown : GOwn W lo base v rows) (hr : RowP W lo u r) (hcell : W.cell? ad = some u) (hap : (r ≠ [] ∨ lo ≠ none) → ∀ g, u.ownBlock = some g → v.ownBlock ≠ some g) (hbase : base ≤ W.heap.size) (hlen : rows.length < 1048576)
    (h : ∀ v' w', GOwn w' lo base v' (rows ++ [r]) → Turn (fun i => v.ownBlock = some i) W w' → (v'.ownBlock = v.ownBlock ∨ ∀ g, v'.ownBlock = some g → W.heap.size ≤ g) → K (a.put o.dst v') w') :
    if Region.wanted o (yielded ops a.tmps) = true then Oper.wp Try.prog o a W K Q else E := by
  have hw : Region.wanted o (yielded ops a.tmps) = true := by simp [Region.wanted, hgd]
  rw [if_pos hw]
  obtain ⟨v', w', hrun, h2, h3, h4⟩ := run_appg (W := W) o.type base v rows r u ad 1 1 hown hr hcell rfl hap hbase hlen
  unfold Oper.wp execOp
  simp only [ho, resolve, invoke, builtin, Sem.run_bind, Sem.run_pure, Result.andThen_ok, List.map_toArray, List.map_cons, List.map_nil, hs, hx, hrun]
  exact h v' w' h2 (Turn.of_grown h3) h4
theorem step_appg_all {ops : Array Oper} {o : Oper} {a : Act} {K : Act → World → Prop} {Q : Exit → Act → World → Prop} {E : Prop} {W0 W : World} (hgd : o.guard = none) (s x : Operand)
    (ho : o.op = .call { callee := .builtin .append, args := #[s, x], argTypes := #[23, 23] }) {lo : Option Nat} (base : Nat) (v : Value) (rows rows2 : List (List Int)) (A : Option Addr) (m c : Nat)
    (hs : a.eval s = v) (hx : a.eval x = .slice A m c) (hown : GOwn W lo base v rows) (hy : RowsAt W0 lo A rows2) (hk : Kp W0 W) (hb0 : W0.heap.size ≤ base) (hym : rows2.length = m) (hbase : base ≤ W.heap.size) (hlen : rows.length + rows2.length ≤ 4194304)
    (h : ∀ v' w', GOwn w' lo base v' (rows ++ rows2) → Turn (fun i => v.ownBlock = some i) W w' → (v'.ownBlock = v.ownBlock ∨ ∀ g, v'.ownBlock = some g → W.heap.size ≤ g) → K (a.put o.dst v') w') :
    if Region.wanted o (yielded ops a.tmps) = true then Oper.wp Try.prog o a W K Q else E := by
  have hw : Region.wanted o (yielded ops a.tmps) = true := by simp [Region.wanted, hgd]
  rw [if_pos hw]
  obtain ⟨v', w', hrun, h2, h3, h4⟩ := run_appg_all (W := W) o.type base v rows rows2 A m c hown hy hk (fun k _ _ _ _ _ hu => apart_old hu hown hb0) hym hbase hlen
  unfold Oper.wp execOp
  simp only [ho, resolve, invoke, builtin, Sem.run_bind, Sem.run_pure, Result.andThen_ok, List.map_toArray, List.map_cons, List.map_nil, hs, hx, hrun]
  exact h v' w' h2 (Turn.of_grown h3) h4
/-- append of all rows in a plain region; the rows lie apart. -/
theorem wpl_appg_all {ops : Array Oper} {rest : List Oper} {o : Oper} {a : Act} {Q : Exit → Act → World → Prop} {W : World} (hgd : o.guard = none) (s x : Operand)
    (ho : o.op = .call { callee := .builtin .append, args := #[s, x], argTypes := #[23, 23] }) {lo : Option Nat} (base : Nat) (v : Value) (rows rows2 : List (List Int)) (A : Option Addr) (m c : Nat)
    (hs : a.eval s = v) (hx : a.eval x = .slice A m c) (hown : GOwn W lo base v rows) (hy : RowsAt W lo A rows2) (hap0 : ∀ k (hk : k < rows2.length) (ad : Addr) (u : Value), A = some ad → W.cell? (ad.add k) = some u → RowP W lo u rows2[k] → (rows2[k] ≠ [] ∨ lo ≠ none) → ∀ g, u.ownBlock = some g → v.ownBlock ≠ some g) (hym : rows2.length = m) (hbase : base ≤ W.heap.size) (hlen : rows.length + rows2.length ≤ 4194304)
    (h : ∀ v' w', GOwn w' lo base v' (rows ++ rows2) → Turn (fun i => v.ownBlock = some i) W w' → (v'.ownBlock = v.ownBlock ∨ ∀ g, v'.ownBlock = some g → W.heap.size ≤ g) → wpList Try.prog ops Q rest (a.put o.dst v') w') :
    wpList Try.prog ops Q (o :: rest) a W := by
  obtain ⟨v', w', hrun, h2, h3, h4⟩ := run_appg_all (W := W) o.type base v rows rows2 A m c hown hy (Kp.refl W) hap0 hym hbase hlen
  exact Lib.wpList_append_run _ hgd s x _ _ ho _ _ hs hx v' w' hrun (h v' w' h2 (Turn.of_grown h3) h4)
end Go.Proofs.Ytjhibahbcjlmfaa

namespace Go.Proofs.Ytjhibahbcjlmfaa
open Go.RowKit

def okM (xs : List Int) (a b : Nat) : Bool := !(((a &&& b : Nat) : Int) == (a : Int) && decide (xs.getD b 0 < xs.getD a 0))
def monoB (xs : List Int) : Bool := (List.range xs.length).all fun a => (List.range xs.length).all (okM xs a)
theorem okM_guard {xs : List Int} {a b : Nat} (h : (((a &&& b : Nat) : Int) == (a : Int)) = false) : okM xs a b = true := by simp [okM, h]
theorem okM_val {xs : List Int} {a b : Nat} (ha : a < xs.length) (hb : b < xs.length) (h : (((a &&& b : Nat) : Int) == (a : Int)) = true) : okM xs a b = !decide (xs[b] < xs[a]) := by
  simp [okM, h, List.getD, ha, hb]
theorem all_next {p : Nat → Bool} {k : Nat} (h : Hid ((List.range k).all p = true)) (e : p k = true) : Hid ((List.range (k + 1)).all p = true) := by
  show (List.range (k + 1)).all p = true
  rw [all_range_succ, h.out, e]; rfl
theorem not_all2 {p : Nat → Nat → Bool} {a b n m : Nat} (ha : a < n) (hb : b < m) (h : p a b = false) : ((List.range n).all fun a => (List.range m).all (p a)) = false :=
  all_range_false ha (all_range_false hb h)
theorem not_mono {xs : List Int} {a b n : Nat} (hn : Hid (xs.length = n)) (ha : a < n) (hb : b < n) (h : okM xs a b = false) : monoB xs = false := by
  have e := hn.out; subst e; exact not_all2 ha hb h
theorem is_mono {xs : List Int} {a n : Nat} (hn : Hid (xs.length = n)) (hk : a ≤ n) (hge : ¬ a < n) (h : Hid (((List.range a).all fun a => (List.range n).all (okM xs a)) = true)) : monoB xs = true := by
  have e := hn.out; subst e
  have : a = xs.length := by omega
  subst this; exact h
theorem row_done {p : Nat → Bool} {b n : Nat} (hk : b ≤ n) (hge : ¬ b < n) (h : Hid ((List.range b).all p = true)) : (List.range n).all p = true := by
  have : b = n := by omega
  subst this; exact h

end Go.Proofs.Ytjhibahbcjlmfaa

namespace Go.Proofs.Ytjhibahbcjlmfaa
open Go.RowKit Go.Sort

def okR (xs : List Int) (lo hi : Int) (i : Nat) : Bool := inB (xs.getD i 0) lo hi && (decide (i = 0) || decide (xs.getD (i - 1) 0 < xs.getD i 0))
/-- Strictly rising, within bounds. -/
def risB (xs : List Int) (lo hi : Int) : Bool := (List.range xs.length).all (okR xs lo hi)
theorem okR_out {xs : List Int} {lo hi : Int} {i : Nat} (hi' : i < xs.length) (h : inB xs[i] lo hi = false) : okR xs lo hi i = false := by simp [okR, List.getD, hi', h]
theorem okR_zero {xs : List Int} {lo hi : Int} {i : Nat} (hi' : i < xs.length) (h0 : ¬ 0 < i) (h : inB xs[i] lo hi = true) : okR xs lo hi i = true := by
  have e : i = 0 := by omega
  subst e
  simp [okR, List.getD, hi', h]
theorem okR_succ {xs : List Int} {lo hi : Int} {i : Nat} (hi' : i < xs.length) (h0 : 0 < i) (h : inB xs[i] lo hi = true) : okR xs lo hi i = decide (xs[i - 1] < xs[i]) := by
  have h1 : i - 1 < xs.length := by omega
  have h2 : ¬ i = 0 := by omega
  simp [okR, List.getD, hi', h1, h, h2]
theorem ris_no {xs : List Int} {lo hi : Int} {i n : Nat} (hn : Hid (xs.length = n)) (hi' : i < n) (h : okR xs lo hi i = false) : risB xs lo hi = false := by
  have := hn.out; subst this; exact all_range_false hi' h
theorem ris_yes {xs : List Int} {lo hi : Int} {i n : Nat} (hn : Hid (xs.length = n)) (hk : i ≤ n) (hge : ¬ i < n) (h : Hid ((List.range i).all (okR xs lo hi) = true)) : risB xs lo hi = true := by
  have := hn.out; subst this
  have e : i = xs.length := by omega
  subst e; exact h

set_option maxRecDepth 100000 in
set_option maxHeartbeats 1000000 in
theorem l1Rising_any (A : Option Addr) (xs : List Int) (n c : Nat) (lo hi : Int) (w : World) (hx : IntsAt w A xs) (hnx : xs.length = n) :
    Calls Try.prog 94 #[.slice A n c, .int .i64 lo, .int .i64 hi] w fun e w' => e = .returned (.bool (risB xs lo hi)) ∧ Dr w w' := by
  have hm : n ≤ 9223372036854775807 := hnx ▸ hx.1
  have Hx := Lib.hid hnx; clear hnx
  go_enter Try.func94, Try.ntmps94
  go_wp2_with fail
  go_loopw [7] (fun i wr => ∃ k : Nat, k ≤ n ∧ i = .int .i64 k ∧ Hid ((List.range k).all (okR xs lo hi) = true) ∧ Dr w wr) (fun i _ => n - (intOf i).toNat)
  case atStart => exact ⟨0, by omega, rfl, rfl, Dr.refl _⟩
  case round =>
    obtain ⟨k, hk, rfl, Hp, hdr⟩ := hrel
    by_cases hlt : k < n
    · have lx : k < xs.length := by rw [Hx.out]; exact hlt
      obtain ⟨ad, rfl, hc⟩ := (hx.kp hdr.kp).at_ lx
      cases hB : inB xs[k] lo hi
      · have HB := Lib.hid hB
        have Cin := Lib.hid (fun W : World => by have := l1In_any xs[k] lo hi W; rw [hB] at this; exact this)
        clear hB
        go_wp2_with fail
        go_quiet ((go_at_call 31; exact Calls.same_quiet (Cin.out _)))
        go_wp2_with fail
        go_ret
        exact ⟨ret_bool (ris_no Hx hlt (okR_out lx HB.out)).symm, hdr.drewN nq⟩
      · have HB := Lib.hid hB
        have Cin := Lib.hid (fun W : World => by have := l1In_any xs[k] lo hi W; rw [hB] at this; exact this)
        clear hB
        by_cases h0 : 0 < k
        · have hc1 := (hx.kp hdr.kp).some_ (k := k - 1) (by omega)
          have a1 : IntKind.i64.wrap ((k : Int) - 1) = (k : Int) - 1 := IntWalk.i64_in _ (by omega)
          have a2 : ((k : Int) - 1).toNat = k - 1 := by omega
          have a3 : (0 : Int) ≤ (k : Int) - 1 := by omega
          have a4 : (k : Int) - 1 < n := by omega
          have a5 : decide ((0 : Int) < (k : Int)) = true := by simp; omega
          have a6 : 1 ≤ k := h0
          have hok := Lib.hid (okR_succ lx h0 HB.out)
          go_wp2_with fail
          go_quiet ((go_at_call 31; exact Calls.same_quiet (Cin.out _)))
          clear a1 a2 a3 a4 a5
          go_wp2_with fail
          · have h2 : xs[k] ≤ xs[k - 1] := by assumption
            go_ret
            exact ⟨ret_bool (ris_no Hx hlt (by rw [hok.out]; simp; omega)).symm, hdr.drewN nq⟩
          · have h2 : xs[k - 1] < xs[k] := by assumption
            go_roundw
            case rel => exact ⟨k + 1, by omega, by go_num, all_next Hp (by rw [hok.out]; simp; omega), hdr.drewN nq⟩
            case measure => simp [intOf]; omega
        · have hok := Lib.hid (okR_zero lx h0 HB.out)
          have a5 : decide ((0 : Int) < (k : Int)) = false := by simp; omega
          have a6 : k ≤ 0 := by omega
          go_wp2_with fail
          go_quiet ((go_at_call 31; exact Calls.same_quiet (Cin.out _)))
          go_wp2_with fail
          go_roundw
          case rel => exact ⟨k + 1, by omega, by go_num, all_next Hp hok.out, hdr.drewN nq⟩
          case measure => simp [intOf]; omega
    · go_wp2_with fail
      go_ret
      exact ⟨ret_bool (ris_yes Hx hk hlt Hp).symm, hdr⟩

set_option maxRecDepth 100000 in
set_option maxHeartbeats 1000000 in
theorem isRising_any (A : Option Addr) (xs : List Int) (n c : Nat) (b : Int) (w : World) (hx : IntsAt w A xs) (hnx : xs.length = n) (hb0 : 0 ≤ b) (hb1 : b ≤ 9223372036854775807) :
    Calls Try.prog 92 #[.slice A n c, .int .i64 b] w fun e w' => e = .returned (.bool (risB xs 0 (b - 1))) ∧ w = w' := by
  have hm : n ≤ 9223372036854775807 := hnx ▸ hx.1
  have Hx := Lib.hid hnx; clear hnx
  go_enter Try.func92, Try.ntmps92
  go_wp2_with fail
  go_loop [9] (fun i => ∃ k : Nat, k ≤ n ∧ i = .int .i64 k ∧ Hid ((List.range k).all (okR xs 0 (b - 1)) = true)) (fun i => n - (intOf i).toNat)
  case atStart => exact ⟨0, by omega, rfl, rfl⟩
  case round =>
    obtain ⟨k, hk, rfl, Hp⟩ := hrel
    by_cases hlt : k < n
    · have lx : k < xs.length := by rw [Hx.out]; exact hlt
      obtain ⟨ad, rfl, hc⟩ := hx.at_ lx
      go_wp2_with fail
      refine (between_any _ _ _ _).mono ?_
      rintro e w' ⟨rfl, rfl⟩
      cases hB : inB xs[k] 0 (b - 1)
      · have HB := Lib.hid hB; clear hB
        go_wp2_with fail
        go_ret
        exact ⟨ret_bool (ris_no Hx hlt (okR_out lx HB.out)).symm, rfl⟩
      · have HB := Lib.hid hB; clear hB
        by_cases h0 : 0 < k
        · have hc1 := hx.some_ (k := k - 1) (by omega)
          have a6 : 1 ≤ k := h0
          have a5 : decide ((0 : Int) < (k : Int)) = true := by simp; omega
          have hok := Lib.hid (okR_succ lx h0 HB.out)
          go_wp2_with fail
          · have h2 : xs[k] ≤ xs[k - 1] := by assumption
            go_ret
            exact ⟨ret_bool (ris_no Hx hlt (by rw [hok.out]; simp; omega)).symm, rfl⟩
          · have h2 : xs[k - 1] < xs[k] := by assumption
            go_round
            case rel => exact ⟨k + 1, by omega, by go_num, all_next Hp (by rw [hok.out]; simp; omega)⟩
            case measure => simp [intOf]; omega
        · have hok := Lib.hid (okR_zero lx h0 HB.out)
          have a5 : decide ((0 : Int) < (k : Int)) = false := by simp; omega
          have a6 : k ≤ 0 := by omega
          go_wp2_with fail
          go_round
          case rel => exact ⟨k + 1, by omega, by go_num, all_next Hp hok.out⟩
          case measure => simp [intOf]; omega
    · go_wp2_with fail
      go_ret
      exact ⟨ret_bool (ris_yes Hx hk hlt Hp).symm, rfl⟩

/-- A set of sites of a field. -/
def setB (F : Fld) (S : List Int) : Bool := risB S 0 ((F.op.length : Int) - 1)
theorem l2Set_any (f : Value) (F : Fld) (A : Option Addr) (xs : List Int) (n c : Nat) (w : World) (hf : FldAt w f F) (hx : IntsAt w A xs) (hnx : xs.length = n) :
    Calls Try.prog 86 #[f, .slice A n c] w fun e w' => e = .returned (.bool (setB F xs)) ∧ Kp w w' := by
  obtain ⟨A', c', B, d, rfl, hA, hB⟩ := hf
  have hk0 : Kp w (w.alloc (.cells #[.slice A' F.op.length c', .slice B F.di.length d] 29)) := (Kp.refl w).alloc _
  have hAl := hA.1
  have Hx := Lib.hid hnx; clear hnx
  go_enter Try.func86, Try.ntmps86
  go_wp2_with fail
  have CC := Lib.hid (l1Rising_any A xs n c 0 (F.op.length - 1) _ (hx.kp hk0) Hx.out)
  with_reducible refine Calls.mono CC.out ?_
  rintro e w1 ⟨rfl, hk1⟩
  clear CC
  go_wp2_with fail
  go_ret
  exact ⟨rfl, hk0.trans hk1.kp⟩
end Go.Proofs.Ytjhibahbcjlmfaa

namespace Go.Proofs.Ytjhibahbcjlmfaa
open Go.RowKit Go.Sort

/-- The length from a client to a site. -/
def dAt (F : Fld) (i : Nat) (a : Int) : Int := (F.di.getD i []).getD a.toNat 0
def stepS (F : Fld) (i : Nat) (best a : Int) : Int := if dAt F i a < dAt F i best then a else best
/-- The best of the first k sites. -/
def siteTo (F : Fld) (i : Nat) (S : List Int) (k : Nat) : Int := (S.take k).foldl (stepS F i) (S.headD 0)
def siteF (F : Fld) (i : Nat) (S : List Int) : Int := S.foldl (stepS F i) (S.headD 0)
def nearF (F : Fld) (i : Nat) (S : List Int) : Int := dAt F i (siteF F i S)

theorem set_mem {F : Fld} {S : List Int} (h : setB F S = true) : ∀ x ∈ S, 0 ≤ x ∧ x < F.op.length := by
  intro x hx
  obtain ⟨k, hk, rfl⟩ := List.getElem_of_mem hx
  have := List.all_eq_true.1 h k (by simpa using hk)
  simp only [okR, Bool.and_eq_true] at this
  have h1 := inB_iff.1 this.1
  simp [List.getD, hk] at h1
  omega
theorem stepS_lt {F : Fld} {i : Nat} {b a : Int} (h : dAt F i a < dAt F i b) : stepS F i b a = a := if_pos h
theorem stepS_ge {F : Fld} {i : Nat} {b a : Int} (h : dAt F i b ≤ dAt F i a) : stepS F i b a = b := if_neg (by omega)
theorem siteTo_succ {F : Fld} {i : Nat} {S : List Int} {k : Nat} (hk : k < S.length) : siteTo F i S (k + 1) = stepS F i (siteTo F i S k) S[k] := by
  rw [siteTo, List.take_succ_eq_append_getElem hk, List.foldl_append]; rfl
theorem fold_mem {F : Fld} {i : Nat} : ∀ (L : List Int) (b : Int), L.foldl (stepS F i) b = b ∨ L.foldl (stepS F i) b ∈ L
  | [], b => .inl rfl
  | a :: L, b => by
    simp only [List.foldl_cons]
    rcases fold_mem L (stepS F i b a) with h | h
    · rw [h]
      unfold stepS
      by_cases hl : dAt F i a < dAt F i b
      · rw [if_pos hl]; exact .inr (by simp)
      · rw [if_neg hl]; exact .inl rfl
    · exact .inr (by simp [h])
theorem siteTo_mem {F : Fld} {i : Nat} {S : List Int} (h : S ≠ []) (k : Nat) : siteTo F i S k ∈ S := by
  have hh : S.headD 0 ∈ S := by
    cases S with
    | nil => exact absurd rfl h
    | cons a S => simp
  rcases fold_mem (F := F) (i := i) (S.take k) (S.headD 0) with e | e
  · rw [siteTo, e]; exact hh
  · exact List.mem_of_mem_take e
theorem siteTo_all {F : Fld} {i : Nat} {S : List Int} {k : Nat} (h : S.length ≤ k) : siteTo F i S k = siteF F i S := by
  rw [siteTo, List.take_of_length_le h]; rfl
theorem siteF_mem {F : Fld} {i : Nat} {S : List Int} (h : S ≠ []) : siteF F i S ∈ S := by
  rw [← siteTo_all (Nat.le_refl _)]; exact siteTo_mem h _
theorem siteTo_one {F : Fld} {i : Nat} {S : List Int} (h : 0 < S.length) : siteTo F i S 1 = S[0] := by
  cases S with
  | nil => simp at h
  | cons a S => simp [siteTo, stepS]
theorem siteTo_zero {F : Fld} {i : Nat} {S : List Int} (h : 0 < S.length) : siteTo F i S 0 = S[0] := by
  cases S with
  | nil => simp at h
  | cons a S => simp [siteTo]
/-- The cell of a length. -/
theorem dCell {w : World} {rd : Addr} {F : Fld} {i : Nat} {a : Int} (hi : i < F.di.length) (hr : IntsAt w (some rd) F.di[i]) (h0 : 0 ≤ a) (h1 : a < F.di[i].length) : w.cell? (rd.add a.toNat) = some (.int .i64 (dAt F i a)) := by
  have h2 : a.toNat < F.di[i].length := by omega
  rw [hr.some_ h2]
  simp [dAt, List.getD, hi, h2]

end Go.Proofs.Ytjhibahbcjlmfaa

namespace Go.Proofs.Ytjhibahbcjlmfaa
open Go.RowKit Go.Sort

/-- The members below n of the set with the number b, rising. -/
def bitsN (n b : Nat) : List Nat := (List.range n).filter (fun x => b.testBit x)
def bitsL (n b : Nat) : List Int := (bitsN n b).map fun (x : Nat) => (x : Int)
theorem bitsN_succ (n b : Nat) : bitsN (n + 1) b = bitsN n b ++ if b.testBit n then [n] else [] := by
  unfold bitsN
  rw [List.range_succ, List.filter_append]
  by_cases h : b.testBit n = true <;> simp [h]
theorem bitsL_yes {n b : Nat} (h : b.testBit n = true) : bitsL (n + 1) b = bitsL n b ++ [(n : Int)] := by simp [bitsL, bitsN_succ, h]
theorem bitsL_no {n b : Nat} (h : b.testBit n = false) : bitsL (n + 1) b = bitsL n b := by simp [bitsL, bitsN_succ, h]
theorem bitsL_len (n b : Nat) : (bitsL n b).length ≤ n := by
  unfold bitsL bitsN
  rw [List.length_map]
  exact Nat.le_trans (List.length_filter_le _ _) (by simp)
theorem mem_bitsL {n b : Nat} {x : Int} : x ∈ bitsL n b ↔ 0 ≤ x ∧ x < n ∧ b.testBit x.toNat = true := by
  simp only [bitsL, bitsN, List.mem_map, List.mem_filter, List.mem_range]
  constructor
  · rintro ⟨k, ⟨h1, h2⟩, rfl⟩
    exact ⟨by omega, by omega, by simpa using h2⟩
  · rintro ⟨h0, h1, h2⟩
    exact ⟨x.toNat, ⟨by omega, h2⟩, by omega⟩
theorem bitsL_more {n m b : Nat} (h : b < 2 ^ n) (hm : n ≤ m) : bitsL m b = bitsL n b := by
  obtain ⟨d, rfl⟩ := Nat.le.dest hm
  clear hm
  induction d with
  | zero => rfl
  | succ d ih =>
    have hb : b.testBit (n + d) = false := Nat.testBit_lt_two_pow (Nat.lt_of_lt_of_le h (Nat.pow_le_pow_right (by omega) (by omega)))
    rw [show n + (d + 1) = n + d + 1 from rfl, bitsL_no hb]
    exact ih
/-- Strictly rising. -/
theorem bitsN_sorted (n b : Nat) : (bitsN n b).Pairwise (· < ·) := List.Pairwise.filter _ List.pairwise_lt_range
theorem bitsL_sorted (n b : Nat) : (bitsL n b).Pairwise (· < ·) := by
  unfold bitsL
  rw [List.pairwise_map]
  exact (bitsN_sorted n b).imp (fun h => by omega)
/-- A rising list within bounds is a set, and the other way round. -/
theorem ris_iff {xs : List Int} {lo hi : Int} : risB xs lo hi = true ↔ xs.Pairwise (· < ·) ∧ ∀ x ∈ xs, lo ≤ x ∧ x ≤ hi := by
  constructor
  · intro h
    have hk : ∀ k, k < xs.length → okR xs lo hi k = true := fun k hk => List.all_eq_true.1 h k (by simpa using hk)
    refine ⟨?_, fun x hx => ?_⟩
    · rw [List.pairwise_iff_getElem]
      intro i j hi' hj hij
      have adj : ∀ k, (hd : k + 1 < xs.length) → xs[k] < xs[k + 1] := fun k hd => by
        have h1 := hk (k + 1) hd
        have hb : inB xs[k + 1] lo hi = true := by simp only [okR, Bool.and_eq_true] at h1; simpa [List.getD, hd] using h1.1
        rw [okR_succ hd (by omega) hb] at h1
        simpa using h1
      have step : ∀ d, (hd : i + d + 1 < xs.length) → xs[i] < xs[i + d + 1] := by
        intro d
        induction d with
        | zero => intro hd; exact adj i hd
        | succ d ih => intro hd; exact Int.lt_trans (ih (by omega)) (adj (i + d + 1) hd)
      obtain ⟨d, rfl⟩ : ∃ d, j = i + d + 1 := ⟨j - i - 1, by omega⟩
      exact step d hj
    · obtain ⟨k, hk', rfl⟩ := List.getElem_of_mem hx
      have h1 := hk k hk'
      simp only [okR, Bool.and_eq_true] at h1
      simpa [List.getD, hk', inB_iff] using h1.1
  · rintro ⟨h1, h2⟩
    rw [risB, List.all_eq_true]
    intro k hk
    have hk' : k < xs.length := by simpa using hk
    have hb := inB_iff.2 (h2 _ (List.getElem_mem hk'))
    by_cases h0 : 0 < k
    · rw [okR_succ hk' h0 hb]
      simpa using List.pairwise_iff_getElem.1 h1 (k - 1) k (by omega) hk' (by omega)
    · exact okR_zero hk' h0 hb
theorem bitsL_ris (n b : Nat) (hi : Int) (h : (n : Int) - 1 ≤ hi) : risB (bitsL n b) 0 hi = true := by
  rw [ris_iff]
  refine ⟨bitsL_sorted n b, fun x hx => ?_⟩
  obtain ⟨h0, h1, _⟩ := mem_bitsL.1 hx
  omega
theorem bitsL_set {F : Fld} (b : Nat) : setB F (bitsL F.op.length b) = true := bitsL_ris _ _ _ (Int.le_refl _)
/-- Two rising lists with the same members are the same. -/
theorem rising_ext : ∀ {xs ys : List Int}, xs.Pairwise (· < ·) → ys.Pairwise (· < ·) → (∀ x, x ∈ xs ↔ x ∈ ys) → xs = ys
  | [], [], _, _, _ => rfl
  | [], y :: ys, _, _, h => by have := (h y).2 (by simp); cases this
  | x :: xs, [], _, _, h => by have := (h x).1 (by simp); cases this
  | x :: xs, y :: ys, hx, hy, h => by
    rw [List.pairwise_cons] at hx hy
    have e : x = y := by
      have h1 := (h x).1 (by simp)
      have h2 := (h y).2 (by simp)
      rcases List.mem_cons.1 h1 with e | h1
      · exact e
      rcases List.mem_cons.1 h2 with e | h2
      · exact e.symm
      have := hx.1 y h2
      have := hy.1 x h1
      omega
    subst e
    refine congrArg (x :: ·) (rising_ext hx.2 hy.2 (fun z => ?_))
    constructor
    · intro hz
      rcases List.mem_cons.1 ((h z).1 (by simp [hz])) with e | hz'
      · subst e; have := hx.1 z hz; omega
      · exact hz'
    · intro hz
      rcases List.mem_cons.1 ((h z).2 (by simp [hz])) with e | hz'
      · subst e; have := hy.1 z hz; omega
      · exact hz'
/-- The number of a list. -/
def bagTo (b : Nat) (S : List Int) : Nat := S.foldl (fun b x => b ||| 2 ^ x.toNat) b
def bagN (S : List Int) : Nat := bagTo 0 S
theorem bagTo_bit (x : Nat) : ∀ (S : List Int) (b : Nat), (∀ y ∈ S, 0 ≤ y) → (bagTo b S).testBit x = (b.testBit x || decide ((x : Int) ∈ S))
  | [], b, _ => by simp [bagTo]
  | y :: S, b, h => by
    have ih := bagTo_bit x S (b ||| 2 ^ y.toNat) (fun z hz => h z (by simp [hz]))
    have h0 := h y (by simp)
    simp only [bagTo, List.foldl_cons] at ih ⊢
    rw [ih, Nat.testBit_or, Nat.testBit_two_pow]
    by_cases e : y.toNat = x
    · have : (x : Int) = y := by omega
      simp [e, this]
    · have : ¬ (x : Int) = y := by omega
      simp [e, this]
theorem bagN_bit {S : List Int} (h : ∀ y ∈ S, 0 ≤ y) (x : Nat) : (bagN S).testBit x = decide ((x : Int) ∈ S) := by
  rw [bagN, bagTo_bit x S 0 h]; simp
theorem bagTo_lt {n : Nat} : ∀ (S : List Int) (b : Nat), b < 2 ^ n → (∀ y ∈ S, 0 ≤ y ∧ y < n) → bagTo b S < 2 ^ n
  | [], b, hb, _ => hb
  | y :: S, b, hb, h => by
    have h0 := h y (by simp)
    exact bagTo_lt S _ (Nat.or_lt_two_pow hb (Nat.pow_lt_pow_right (by omega) (by omega))) (fun z hz => h z (by simp [hz]))
theorem bagN_lt {n : Nat} {S : List Int} (h : ∀ y ∈ S, 0 ≤ y ∧ y < n) : bagN S < 2 ^ n := bagTo_lt S 0 (Nat.two_pow_pos n) h
/-- A set's number leads back to it. -/
theorem bits_bag {n : Nat} {S : List Int} (hs : S.Pairwise (· < ·)) (h : ∀ y ∈ S, 0 ≤ y ∧ y < n) : bitsL n (bagN S) = S := by
  refine rising_ext (bitsL_sorted _ _) hs (fun x => ?_)
  rw [mem_bitsL]
  constructor
  · rintro ⟨h0, h1, h2⟩
    rw [bagN_bit (fun y hy => (h y hy).1)] at h2
    have e : ((x.toNat : Nat) : Int) = x := by omega
    rw [e] at h2
    simpa using h2
  · intro hx
    obtain ⟨h0, h1⟩ := h x hx
    refine ⟨h0, h1, ?_⟩
    rw [bagN_bit (fun y hy => (h y hy).1)]
    have e : ((x.toNat : Nat) : Int) = x := by omega
    rw [e]; simpa using hx
theorem set_bits {F : Fld} {S : List Int} (h : setB F S = true) : bitsL F.op.length (bagN S) = S := bits_bag (ris_iff.1 h).1 (set_mem h)

/-- A number put into a rising list. -/
def putL (S : List Int) (a : Int) : List Int := if a ∈ S then S else S.takeWhile (· < a) ++ a :: S.dropWhile (· < a)
end Go.Proofs.Ytjhibahbcjlmfaa

namespace Go.Proofs.Ytjhibahbcjlmfaa
open Go.RowKit Go.Sort

/-- Which of two lists comes first, number by number. -/
def lexC : List Int → List Int → Int
  | [], [] => 0
  | [], _ :: _ => -1
  | _ :: _, [] => 1
  | x :: xs, y :: ys => if x < y then -1 else if y < x then 1 else lexC xs ys
theorem lexC_anti : ∀ a b : List Int, lexC b a = - lexC a b
  | [], [] => rfl
  | [], _ :: _ => rfl
  | _ :: _, [] => rfl
  | x :: xs, y :: ys => by
    unfold lexC
    have ih := lexC_anti xs ys
    by_cases h1 : x < y
    · simp [h1, show ¬ y < x by omega]
    · by_cases h2 : y < x
      · simp [h1, h2]
      · simp [h1, h2]; exact ih
theorem lexC_zero : ∀ a b : List Int, lexC a b = 0 → a = b
  | [], [], _ => rfl
  | [], _ :: _, h => by simp [lexC] at h
  | _ :: _, [], h => by simp [lexC] at h
  | x :: xs, y :: ys, h => by
    unfold lexC at h
    by_cases h1 : x < y
    · rw [if_pos h1] at h; omega
    · by_cases h2 : y < x
      · rw [if_neg h1, if_pos h2] at h; omega
      · rw [if_neg h1, if_neg h2] at h
        rw [lexC_zero xs ys h, show x = y by omega]
theorem lexC_trans : ∀ a b c : List Int, lexC a b < 0 → lexC b c < 0 → lexC a c < 0
  | [], [], _, h, _ => by simp [lexC] at h
  | [], _ :: _, [], _, h => by simp [lexC] at h
  | [], _ :: _, _ :: _, _, _ => by simp [lexC]
  | _ :: _, [], _, h, _ => by simp [lexC] at h
  | _ :: _, _ :: _, [], _, h => by simp [lexC] at h
  | x :: xs, y :: ys, z :: zs, h, h' => by
    unfold lexC at h h' ⊢
    have ih := lexC_trans xs ys zs
    by_cases h1 : x < y
    · by_cases h2 : z < y
      · rw [if_neg (by omega), if_pos h2] at h'; omega
      · rw [if_pos (by omega)]; omega
    · by_cases h2 : y < x
      · rw [if_neg h1, if_pos h2] at h; omega
      · rw [if_neg h1, if_neg h2] at h
        have e : x = y := by omega
        subst e
        by_cases h3 : x < z
        · rw [if_pos h3]; omega
        · by_cases h4 : z < x
          · rw [if_neg h3, if_pos h4] at h'; omega
          · rw [if_neg h3, if_neg h4] at h' ⊢
            exact ih h h'
/-- First by how many there are, then number by number. -/
def cmpS (a b : List Int) : Int := if a.length < b.length then -1 else if b.length < a.length then 1 else lexC a b
def befB (a b : List Int) : Bool := decide (cmpS a b < 0)
theorem cmpS_anti (a b : List Int) : cmpS b a = - cmpS a b := by
  unfold cmpS
  by_cases h1 : a.length < b.length
  · simp [h1, show ¬ b.length < a.length by omega]
  · by_cases h2 : b.length < a.length
    · simp [h1, h2]
    · simp [h1, h2]; exact lexC_anti a b
theorem cmpS_zero {a b : List Int} (h : cmpS a b = 0) : a = b := by
  unfold cmpS at h
  by_cases h1 : a.length < b.length
  · rw [if_pos h1] at h; omega
  · by_cases h2 : b.length < a.length
    · rw [if_neg h1, if_pos h2] at h; omega
    · rw [if_neg h1, if_neg h2] at h; exact lexC_zero a b h
theorem cmpS_trans {a b c : List Int} (h : cmpS a b < 0) (h' : cmpS b c < 0) : cmpS a c < 0 := by
  unfold cmpS at *
  by_cases h1 : a.length < c.length
  · rw [if_pos h1]; omega
  · have hb : ¬ b.length < a.length := fun hh => by rw [if_neg (by omega), if_pos hh] at h; omega
    have hc : ¬ c.length < b.length := fun hh => by rw [if_neg (by omega), if_pos hh] at h'; omega
    rw [if_neg (by omega), if_neg hb] at h
    rw [if_neg (by omega), if_neg hc] at h'
    rw [if_neg h1, if_neg (by omega)]
    exact lexC_trans a b c h h'
theorem befB_irrefl (a : List Int) : befB a a = false := by
  have := cmpS_anti a a
  simp [befB]; omega
theorem befB_trans {a b c : List Int} (h : befB a b = true) (h' : befB b c = true) : befB a c = true := by
  simp only [befB, decide_eq_true_eq] at *; exact cmpS_trans h h'
theorem befB_total {a b : List Int} (h : befB a b = false) (h' : befB b a = false) : a = b := by
  simp only [befB, decide_eq_false_iff_not] at *
  have := cmpS_anti a b
  exact cmpS_zero (by omega)
theorem befB_asymm {a b : List Int} (h : befB a b = true) : befB b a = false := by
  cases h' : befB b a with
  | false => rfl
  | true => have := befB_trans h h'; rw [befB_irrefl] at this; cases this
/-- What is not behind. -/
def notB (a b : List Int) : Bool := !befB b a
theorem notB_trans (a b c : List Int) (h : notB a b = true) (h' : notB b c = true) : notB a c = true := by
  simp only [notB, Bool.not_eq_true'] at *
  by_cases e1 : a = b
  · subst e1; exact h'
  by_cases e2 : b = c
  · subst e2; exact h
  have g1 : befB a b = true := by
    cases hh : befB a b with
    | true => rfl
    | false => exact absurd (befB_total hh h) e1
  have g2 : befB b c = true := by
    cases hh : befB b c with
    | true => rfl
    | false => exact absurd (befB_total hh h') e2
  exact befB_asymm (befB_trans g1 g2)
theorem notB_total (a b : List Int) : (notB a b || notB b a) = true := by
  cases h : befB b a with
  | false => simp [notB, h]
  | true => simp [notB, befB_asymm h]
/-- The codes of the sets with at least one member, in the order of codes. -/
def codesL (n : Nat) : List (List Int) := (List.range (2 ^ n - 1)).map fun c => bitsL n (c + 1)
def setsL (n : Nat) : List (List Int) := (codesL n).mergeSort notB
theorem setsL_perm (n : Nat) : (setsL n).Perm (codesL n) := List.mergeSort_perm _ _
theorem setsL_len (n : Nat) : (setsL n).length = 2 ^ n - 1 := by rw [(setsL_perm n).length_eq]; simp [codesL]
theorem bitsL_inj {n a b : Nat} (ha : a < 2 ^ n) (hb : b < 2 ^ n) (h : bitsL n a = bitsL n b) : a = b := by
  apply Nat.eq_of_testBit_eq
  intro i
  by_cases hi : i < n
  · have h1 := mem_bitsL (n := n) (b := a) (x := (i : Int))
    have h2 := mem_bitsL (n := n) (b := b) (x := (i : Int))
    rw [h] at h1
    have h3 := h1.symm.trans h2
    rw [Bool.eq_iff_iff]
    simp only [Int.toNat_natCast] at h3
    constructor
    · intro hx; exact (h3.1 ⟨by omega, by omega, hx⟩).2.2
    · intro hx; exact (h3.2 ⟨by omega, by omega, hx⟩).2.2
  · rw [Nat.testBit_lt_two_pow (Nat.lt_of_lt_of_le ha (Nat.pow_le_pow_right (by omega) (by omega))), Nat.testBit_lt_two_pow (Nat.lt_of_lt_of_le hb (Nat.pow_le_pow_right (by omega) (by omega)))]
theorem codesL_nodup (n : Nat) : (codesL n).Nodup := by
  unfold codesL List.Nodup
  rw [List.pairwise_map]
  refine (List.pairwise_iff_getElem.2 ?_)
  intro i j hi hj hij e
  have hi' : i < 2 ^ n - 1 := by simpa using hi
  have hj' : j < 2 ^ n - 1 := by simpa using hj
  simp only [List.getElem_range] at e
  have := bitsL_inj (n := n) (by omega) (by omega) e
  omega
theorem setsL_nodup (n : Nat) : (setsL n).Nodup := (setsL_perm n).nodup_iff.2 (codesL_nodup n)
theorem setsL_sorted (n : Nat) : (setsL n).Pairwise (fun a b => befB a b = true) := by
  have h1 : (setsL n).Pairwise (fun a b => notB a b = true) := List.pairwise_mergeSort notB_trans notB_total _
  have h2 := setsL_nodup n
  rw [List.pairwise_iff_getElem] at h1 ⊢
  unfold List.Nodup at h2
  rw [List.pairwise_iff_getElem] at h2
  intro i j hi hj hij
  have h3 := h1 i j hi hj hij
  have h4 := h2 i j hi hj hij
  simp only [notB, Bool.not_eq_true'] at h3
  cases hh : befB (setsL n)[i] (setsL n)[j] with
  | true => rfl
  | false => exact absurd (befB_total hh h3) h4
/-- There is one list of all sets in order. -/
theorem setsL_uniq {n : Nat} {l : List (List Int)} (hp : l.Perm (codesL n)) (hs : l.Pairwise (fun a b => befB a b = true)) : l = setsL n :=
  List.Perm.eq_of_pairwise (le := fun a b => befB a b = true) (fun a b _ _ h h' => by have := befB_asymm h; rw [h'] at this; cases this) hs (setsL_sorted n) (hp.trans (setsL_perm n).symm)
theorem mem_codesL {n : Nat} {S : List Int} : S ∈ codesL n ↔ S ≠ [] ∧ risB S 0 ((n : Int) - 1) = true := by
  constructor
  · intro h
    simp only [codesL, List.mem_map, List.mem_range] at h
    obtain ⟨c, hc, rfl⟩ := h
    refine ⟨fun e => ?_, bitsL_ris _ _ _ (Int.le_refl _)⟩
    have h0 : bitsL n 0 = [] := by simp [bitsL, bitsN]
    have := bitsL_inj (n := n) (a := c + 1) (b := 0) (by omega) (Nat.two_pow_pos n) (e.trans h0.symm)
    omega
  · rintro ⟨hne, hr⟩
    have hr' := ris_iff.1 hr
    have hm : ∀ y ∈ S, 0 ≤ y ∧ y < n := fun y hy => by have := hr'.2 y hy; omega
    have hb := bits_bag hr'.1 hm
    have hlt := bagN_lt hm
    simp only [codesL, List.mem_map, List.mem_range]
    have hpos : 0 < bagN S := by
      rcases Nat.eq_zero_or_pos (bagN S) with h | h
      · rw [h] at hb; exact absurd (by rw [← hb]; simp [bitsL, bitsN]) hne
      · exact h
    exact ⟨bagN S - 1, by omega, by rw [Nat.sub_add_cancel hpos]; exact hb⟩
theorem mem_setsL {n : Nat} {S : List Int} : S ∈ setsL n ↔ S ≠ [] ∧ risB S 0 ((n : Int) - 1) = true := (setsL_perm n).mem_iff.trans mem_codesL
theorem risB_len {n : Nat} {S : List Int} (h : risB S 0 ((n : Int) - 1) = true) : S.length ≤ n := by
  have hr' := ris_iff.1 h
  have hm : ∀ y ∈ S, 0 ≤ y ∧ y < n := fun y hy => by have := hr'.2 y hy; omega
  have := bitsL_len n (bagN S)
  rwa [bits_bag hr'.1 hm] at this
/-- The first one with the least value. -/
def bestStep (v : List Int → Int) (b s : List Int) : List Int := if v s < v b then s else b
def bestL (v : List Int → Int) (l : List (List Int)) : List Int := l.foldl (bestStep v) (l.getD 0 [])
end Go.Proofs.Ytjhibahbcjlmfaa

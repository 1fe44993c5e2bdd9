/- append of a whole list of numbers (nil or not) at a step of a region that draws; A slice of slices of the call's own that grows by append; its rows lie in other blocks, and are read, or are of the call's own too; All sets of some sites in their order: plain words; What a slice of rows of the call's own holds when it has been sorted; The library's sort of a slice of rows, at this program. No condition. -/
import Derived.Test.YtggkhieepjnmdaaQAc
import Derived.Test.YtggkhieepjnmdaaQAb
import Derived.WalkSpells
import Derived.Lib.AppendZeros
import Derived.Shelf.SlSortCmp.Whole1
import Derived.Lib.OwnBridge
import Derived.Lib.AppendIntMem
namespace Go.Proofs.Ytggkhieepjnmdaa
open Go.RowKit

theorem run_app_all {W : World} (ty : TypeId) (base : Nat) (v : Value) (xs ys : List Int) (A : Option Addr) (m c : Nat)
    (hown : Own W base v xs) (hy : IntsAt W A ys) (hym : ys.length = m) (hbase : base ≤ W.heap.size) (hlen : xs.length + ys.length ≤ 4194304) :
    ∃ v' w', (Builtin.append_ #[22, 22] ty #[v, .slice A m c]).run Try.prog W = .ok v' w' ∧ Own w' base v' (xs ++ ys) ∧ W.grownBy w' v.ownBlock ∧ (v'.ownBlock = v.ownBlock ∨ ∀ g, v'.ownBlock = some g → W.heap.size ≤ g) := by
  obtain ⟨i0, hi, hz0, hz1, hz2⟩ := info_parts infoInt
  rcases A with _ | ad
  · have hys : ys = [] := by
      rcases ys with _ | ⟨y, ys⟩
      · rfl
      · obtain ⟨ad, h, _⟩ := hy.at_ (k := 0) (by simp)
        cases h
    subst hys
    obtain rfl : m = 0 := by simpa using hym.symm
    refine ⟨v, W, ?_, by simpa using hown, World.grownBy.refl W _, .inl rfl⟩
    rcases hown.2 with ⟨rfl, hn0⟩ | ⟨g, cap, cur, rfl, _, _, hnc, _⟩
    · simp [Builtin.append_, run_underlying Try.underlying22, sizeOf, typeInfo, hi, Builtin.lenOf, Builtin.firstCells]
    · simp [Builtin.append_, run_underlying Try.underlying22, sizeOf, typeInfo, hi, Builtin.lenOf, Builtin.firstCells, hnc, storeCells]
  · obtain ⟨v', w', hrun, h2, h3, _, h5⟩ := run_append_own_at (P := Try.prog) W base 22 ty 3 i0 (.int .i64 0) 1 8 Try.underlying22 hi hz0 hz1 hz2 rfl (by decide) v xs.length (xs.map (Value.int .i64)) hown ad m c (ys.map (Value.int .i64)) (by simp [hym]) (by
      intro j u hj
      by_cases hlt : j < ys.length
      · rw [List.getElem?_map, List.getElem?_eq_getElem hlt] at hj
        have e : u = .int .i64 ys[j] := by simpa using hj.symm
        rw [e]; exact hy.some_ hlt
      · rw [List.getElem?_eq_none (by simpa using hlt)] at hj; cases hj) (ints_oneCell _ _) (by unfold maxLen; omega) (by omega) hbase
    refine ⟨v', w', hrun, ?_, h3, ?_⟩
    · unfold Own
      rw [List.length_append, List.map_append, hym]
      exact h2
    · rcases h5 with e | e
      · exact .inl e
      · exact .inr (fun g hg => by rw [e] at hg; simp at hg; omega)

theorem step_app_all {ops : Array Oper} {o : Oper} {a : Act} {K : Act → World → Prop} {Q : Exit → Act → World → Prop} {E : Prop} {W : World} (hgd : o.guard = none) (s x : Operand)
    (ho : o.op = .call { callee := .builtin .append, args := #[s, x], argTypes := #[22, 22] }) (base : Nat) (v : Value) (xs ys : List Int) (A : Option Addr) (m c : Nat)
    (hs : a.eval s = v) (hx : a.eval x = .slice A m c) (hown : Own W base v xs) (hy : IntsAt W A ys) (hym : ys.length = m) (hbase : base ≤ W.heap.size) (hlen : xs.length + ys.length ≤ 4194304)
    (h : ∀ v' w', Own w' base v' (xs ++ ys) → Turn (fun i => v.ownBlock = some i) W w' → (v'.ownBlock = v.ownBlock ∨ ∀ g, v'.ownBlock = some g → W.heap.size ≤ g) → K (a.put o.dst v') w') :
    if Region.wanted o (yielded ops a.tmps) = true then Oper.wp Try.prog o a W K Q else E := by
  have hw : Region.wanted o (yielded ops a.tmps) = true := by simp [Region.wanted, hgd]
  rw [if_pos hw]
  obtain ⟨v', w', hrun, h2, h3, h4⟩ := run_app_all (W := W) o.type base v xs ys A m c hown hy hym hbase hlen
  unfold Oper.wp execOp
  simp only [ho, resolve, invoke, builtin, Sem.run_bind, Sem.run_pure, Result.andThen_ok, List.map_toArray, List.map_cons, List.map_nil, hs, hx, hrun]
  exact h v' w' h2 (Turn.of_grown h3) h4
theorem one_new (W : World) (a : Int) : IntsAt (W.alloc (.cells #[.int .i64 a] 3)) (some ⟨W.heap.size, 0, none⟩) [a] :=
  ⟨by simp, fun k hk => by
    obtain rfl : k = 0 := by simpa using hk
    refine ⟨_, rfl, ?_⟩
    rw [add0, World.cell?_alloc_at _ _ _ _ rfl]; rfl⟩
theorem one_turn {T : Nat → Prop} {W w' : World} {g : Nat} {a : Int} (h : IntsAt W (some ⟨g, 0, none⟩) [a]) (ht : Turn T W w') (hg : ¬ T g) (hlt : g < W.heap.size) : IntsAt w' (some ⟨g, 0, none⟩) [a] :=
  ⟨by simp, fun k hk => by
    obtain rfl : k = 0 := by simpa using hk
    have h0 := h.some_ (k := 0) (by simp)
    refine ⟨_, rfl, ?_⟩
    rw [add0] at h0 ⊢
    rw [World.cell?_of_block (ht.block g hlt hg), h0]; rfl⟩
end Go.Proofs.Ytggkhieepjnmdaa

namespace Go.Proofs.Ytggkhieepjnmdaa
open Go.RowKit

theorem infoIntsG : (Try.prog.info? 22).map (fun i => (i.zero, i.size, i.bytes)) = some (some (.slice none 0 0), 1, 24) := by kernel_rfl
theorem IntsAt.blk {w : World} {ad : Addr} {xs : List Int} (h : IntsAt w (some ad) xs) (hne : xs ≠ []) : ad.block < w.heap.size := by
  have hp : 0 < xs.length := List.length_pos_iff.2 hne
  have := World.block_lt_of_cell? _ _ (h.some_ hp)
  rwa [blk_add] at this
theorem IntsAt.turn {S : Nat → Prop} {w w' : World} {A : Option Addr} {xs : List Int} (h : IntsAt w A xs) (ht : Turn S w w') (hn : ∀ ad, A = some ad → xs ≠ [] → ¬ S ad.block) : IntsAt w' A xs :=
  ⟨h.1, fun k hk => by
    obtain ⟨ad, e, hc⟩ := h.2 k hk
    have hne : xs ≠ [] := fun e0 => by subst e0; simp at hk
    have hb : ad.block < w.heap.size := by
      have := World.block_lt_of_cell? _ _ hc
      rwa [blk_add] at this
    refine ⟨ad, e, ?_⟩
    have hbk : w'.heap[(ad.add k).block]? = w.heap[(ad.add k).block]? := by rw [blk_add]; exact ht.block _ hb (hn ad e hne)
    rw [World.cell?_of_block hbk]; exact hc⟩
theorem Own.capL {w : World} {base n c : Nat} {v : Value} {A : Option Addr} {xs : List Int} (h : Own w base v xs) (e : v = .slice A n c) : xs.length ≤ c := by
  rcases h.2 with ⟨rfl, h0⟩ | ⟨g, cap, cur, rfl, _, _, h4, _⟩
  · omega
  · simp only [Value.slice.injEq] at e
    omega
/-- A row that is read, and, where lo says from which block on, of the call's own. -/
def RowP (w : World) (lo : Option Nat) (u : Value) (xs : List Int) : Prop :=
  (∃ A c, u = .slice A xs.length c ∧ xs.length ≤ c ∧ IntsAt w A xs) ∧ ∀ b, lo = some b → Own w b u xs
theorem RowP.kp {w w' : World} {lo : Option Nat} {u : Value} {xs : List Int} (h : RowP w lo u xs) (hk : Kp w w') : RowP w' lo u xs := by
  obtain ⟨⟨A, c, e, hl, hi⟩, h2⟩ := h
  exact ⟨⟨A, c, e, hl, hi.kp hk⟩, fun b e => (h2 b e).kp hk⟩
theorem RowP.turn {S : Nat → Prop} {w w' : World} {lo : Option Nat} {u : Value} {xs : List Int} (h : RowP w lo u xs) (ht : Turn S w w') (hn : (xs ≠ [] ∨ lo ≠ none) → ∀ g, u.ownBlock = some g → ¬ S g) : RowP w' lo u xs := by
  obtain ⟨⟨A, c, rfl, hl, hi⟩, h2⟩ := h
  exact ⟨⟨A, c, rfl, hl, hi.turn ht (fun ad e hne => hn (.inl hne) ad.block (by rw [e]; rfl))⟩, fun b e => (h2 b e).turn ht (hn (.inr (by rw [e]; simp)))⟩
theorem RowP.lt {w : World} {lo : Option Nat} {u : Value} {xs : List Int} (h : RowP w lo u xs) (hn : xs ≠ [] ∨ lo ≠ none) : ∀ g, u.ownBlock = some g → g < w.heap.size := by
  obtain ⟨⟨A, c, rfl, hl, hi⟩, h2⟩ := h
  intro g hg
  rcases hn with hne | hlo
  · cases A with
    | none => cases hg
    | some ad =>
      have e : ad.block = g := by simpa [Value.ownBlock] using hg
      exact e ▸ hi.blk hne
  · cases lo with
    | none => exact absurd rfl hlo
    | some b => exact ((h2 b rfl).lt g hg).2
theorem RowP.of_own {w : World} {b : Nat} {u : Value} {xs : List Int} (h : Own w b u xs) (hl : xs.length ≤ 9223372036854775807) : RowP w (some b) u xs := by
  obtain ⟨A, c, e, hi⟩ := h.ints hl
  refine ⟨⟨A, c, e, h.capL e, hi⟩, fun b' e' => ?_⟩
  cases e'; exact h
theorem RowP.of_ints {w : World} {A : Option Addr} {xs : List Int} {c : Nat} (h : IntsAt w A xs) (hc : xs.length ≤ c) : RowP w none (.slice A xs.length c) xs :=
  ⟨⟨A, c, rfl, hc, h⟩, fun _ e => by cases e⟩
theorem RowP.mono {w : World} {b b' : Nat} {u : Value} {xs : List Int} (h : RowP w (some b) u xs) (hb : b' ≤ b) : RowP w (some b') u xs :=
  ⟨h.1, fun c e => by cases e; exact (h.2 b rfl).mono hb⟩
theorem RowP.read {w : World} {lo : Option Nat} {u : Value} {xs : List Int} (h : RowP w lo u xs) : ∃ A c, u = .slice A xs.length c ∧ xs.length ≤ c ∧ IntsAt w A xs := h.1
theorem RowP.one {w : World} {lo : Option Nat} {u : Value} {xs : List Int} (h : RowP w lo u xs) : u.oneCell' = true := by
  obtain ⟨⟨A, c, rfl, _⟩, _⟩ := h; rfl
/-- A slice of slices of the call's own; row j reads as rows[j] and does not lie in the outer block. -/
def GOwn (w : World) (lo : Option Nat) (base : Nat) (v : Value) (rows : List (List Int)) : Prop :=
  ∃ hs : List Value, w.ownsRow base 22 1 v rows.length hs ∧
    ∀ j (hj : j < rows.length), ∃ u, hs[j]? = some u ∧ RowP w lo u rows[j] ∧ ((rows[j] ≠ [] ∨ lo ≠ none) → ∀ g, u.ownBlock = some g → v.ownBlock ≠ some g)
theorem GOwn.kp {w w' : World} {lo : Option Nat} {base : Nat} {v : Value} {rows : List (List Int)} (h : GOwn w lo base v rows) (hk : Kp w w') : GOwn w' lo base v rows := by
  obtain ⟨hs, h1, h2⟩ := h
  exact ⟨hs, hk.own h1, fun j hj => by obtain ⟨u, e1, e2, e3⟩ := h2 j hj; exact ⟨u, e1, e2.kp hk, e3⟩⟩
theorem GOwn.nil (w : World) (lo : Option Nat) (base : Nat) : GOwn w lo base (.slice none 0 0) [] := ⟨[], World.ownsRow_nil _ _ _ _, fun j hj => by simp at hj⟩
theorem gown_new (w : World) (lo : Option Nat) (base : Nat) (hb : base ≤ w.heap.size) : GOwn (w.alloc (.cells #[] 22)) lo base (.slice (some ⟨w.heap.size, 0, none⟩) 0 0) [] :=
  ⟨[], World.ownsRow_lit w #[] 0 hb (by unfold maxLen; omega) (by simp), fun j hj => by simp at hj⟩
theorem GOwn.lt {w : World} {lo : Option Nat} {base : Nat} {v : Value} {rows : List (List Int)} (h : GOwn w lo base v rows) : ∀ k, v.ownBlock = some k → base ≤ k ∧ k < w.heap.size := by
  obtain ⟨hs, h1, _⟩ := h
  exact World.ownsRow.lt h1
theorem GOwn.mono {w : World} {lo : Option Nat} {base base' : Nat} {v : Value} {rows : List (List Int)} (h : GOwn w lo base v rows) (hb : base' ≤ base) : GOwn w lo base' v rows := by
  obtain ⟨hs, h1, h2⟩ := h
  refine ⟨hs, ⟨h1.1, ?_⟩, h2⟩
  rcases h1.2 with h | ⟨g, cap, cur, e, h3, h4⟩
  · exact .inl h
  · exact .inr ⟨g, cap, cur, e, Nat.le_trans hb h3, h4⟩
theorem GOwn.kp_turn {a w w' : World} {lo : Option Nat} {base : Nat} {v : Value} {rows : List (List Int)} (h : GOwn w lo base v rows) (hk : Kp a w) (hb : a.heap.size ≤ base) (ht : Turn (fun i => v.ownBlock = some i) w w') : Kp a w' :=
  hk.turn ht (fun i hi => Nat.le_trans hb (h.lt i hi).1)
theorem GOwn.drew {w : World} {lo : Option Nat} {base : Nat} {v : Value} {rows : List (List Int)} (h : GOwn w lo base v rows) : GOwn w.drew lo base v rows := h.kp (Kp.refl w).drew
theorem GOwn.one_kp {w : World} {lo : Option Nat} {base : Nat} {v : Value} {rows : List (List Int)} {o : Obj} (h : GOwn w lo base v rows) : GOwn (w.alloc o) lo base v rows := h.kp ((Kp.refl w).alloc o)
theorem GOwn.not_nil {w : World} {lo : Option Nat} {base : Nat} {v : Value} {rows : List (List Int)} (h : GOwn w lo base v rows) (hr : rows ≠ []) : v ≠ .slice none 0 0 := by
  rintro rfl
  obtain ⟨hs, h1, _⟩ := h
  rcases h1.2 with ⟨_, e⟩ | ⟨g, cap, cur, e, _⟩
  · exact hr (List.eq_nil_of_length_eq_zero e)
  · cases e

/-- The slice of this address reads as these rows. -/
def RowsAt (w : World) (lo : Option Nat) (A : Option Addr) (rows : List (List Int)) : Prop :=
  rows.length ≤ 9223372036854775807 ∧ ∀ k (_ : k < rows.length), ∃ ad u, A = some ad ∧ w.cell? (ad.add k) = some u ∧ RowP w lo u rows[k]
theorem RowsAt.kp {w w' : World} {lo : Option Nat} {A : Option Addr} {rows : List (List Int)} (h : RowsAt w lo A rows) (hk : Kp w w') : RowsAt w' lo A rows :=
  ⟨h.1, fun k hlt => by obtain ⟨ad, u, e, hc, hi⟩ := h.2 k hlt; exact ⟨ad, u, e, hk.get hc, hi.kp hk⟩⟩
theorem RowsAt.at_ {w : World} {lo : Option Nat} {A : Option Addr} {rows : List (List Int)} (h : RowsAt w lo A rows) {k : Nat} (hk : k < rows.length) : ∃ ad A2 c, A = some ad ∧ w.cell? (ad.add k) = some (.slice A2 rows[k].length c) ∧ rows[k].length ≤ c ∧ IntsAt w A2 rows[k] ∧ RowP w lo (.slice A2 rows[k].length c) rows[k] := by
  obtain ⟨ad, u, e, hc, hp⟩ := h.2 k hk
  obtain ⟨A2, c, rfl, h2, h3⟩ := hp.read
  exact ⟨ad, A2, c, e, hc, h2, h3, hp⟩
theorem RowsAt.some_ {w : World} {lo : Option Nat} {ad : Addr} {rows : List (List Int)} (h : RowsAt w lo (some ad) rows) {k : Nat} (hk : k < rows.length) : ∃ A2 c, w.cell? (ad.add k) = some (.slice A2 rows[k].length c) ∧ rows[k].length ≤ c ∧ IntsAt w A2 rows[k] ∧ RowP w lo (.slice A2 rows[k].length c) rows[k] := by
  obtain ⟨ad', A2, c, e, h1⟩ := h.at_ hk
  cases e; exact ⟨A2, c, h1⟩
theorem RowsAt.nil (w : World) (lo : Option Nat) (A : Option Addr) : RowsAt w lo A [] := ⟨by simp, fun k hk => absurd hk (by simp)⟩
theorem RowsAt.grid {w : World} {lo : Option Nat} {A : Option Addr} {rows : List (List Int)} (h : RowsAt w lo A rows) : GridAt w A rows :=
  ⟨h.1, fun k hk => by
    obtain ⟨ad, A2, c, e, hc, _, hi, _⟩ := h.at_ hk
    have e2 : rows.getD k [] = rows[k] := by simp [List.getD, hk]
    rw [e2]
    exact ⟨ad, A2, c, e, hc, hi⟩⟩
theorem RowsAt.take {w : World} {lo : Option Nat} {ad : Addr} {rows : List (List Int)} (h : RowsAt w lo (some ad) rows) (k : Nat) : RowsAt w lo (some ad) (rows.take k) :=
  ⟨Nat.le_trans (by simp; omega) h.1, fun j hj => by
    have h1 : j < rows.length := by simp at hj; omega
    obtain ⟨A2, c, e1, _, _, e3⟩ := h.some_ h1
    have e : (rows.take k)[j] = rows[j] := List.getElem_take
    rw [e]
    exact ⟨ad, _, rfl, e1, e3⟩⟩
theorem add_add (ad : Addr) (k j : Nat) : (ad.add k).add j = ad.add (k + j) := by
  unfold Addr.add
  by_cases hk : k = 0 <;> by_cases hj0 : j = 0 <;> simp [hk, hj0, Nat.add_assoc]
theorem RowsAt.drop {w : World} {lo : Option Nat} {ad : Addr} {rows : List (List Int)} (h : RowsAt w lo (some ad) rows) (k : Nat) : RowsAt w lo (some (ad.add k)) (rows.drop k) :=
  ⟨Nat.le_trans (by simp) h.1, fun j hj => by
    have h1 : k + j < rows.length := by simp at hj; omega
    obtain ⟨A2, c, e1, _, _, e3⟩ := h.some_ h1
    have e : (rows.drop k)[j] = rows[k + j] := List.getElem_drop
    rw [e]
    exact ⟨ad.add k, _, rfl, by rw [add_add]; exact e1, e3⟩⟩
theorem RowsAt.tail {w : World} {lo : Option Nat} {ad : Addr} {rows : List (List Int)} {c : Nat} (h : RowsAt w lo (some ad) rows) (hc : rows.length ≤ c) (k : Nat) : RowsAt w lo (if c = k then some ad else some (ad.add k)) (rows.drop k) := by
  by_cases e : c = k
  · rw [if_pos e, List.drop_eq_nil_of_le (by omega)]; exact RowsAt.nil _ _ _
  · rw [if_neg e]; exact h.drop k
theorem GOwn.rows {w : World} {lo : Option Nat} {base : Nat} {v : Value} {rows : List (List Int)} (h : GOwn w lo base v rows) (hl : rows.length ≤ 9223372036854775807) : ∃ A c, v = .slice A rows.length c ∧ rows.length ≤ c ∧ RowsAt w lo A rows := by
  obtain ⟨hs, h1, h2⟩ := h
  rcases id h1.2 with ⟨rfl, h0⟩ | ⟨g, cap, cur, rfl, _, _, hn, _⟩
  · have : rows = [] := List.eq_nil_of_length_eq_zero h0
    subst this
    exact ⟨none, 0, rfl, by simp, RowsAt.nil _ _ _⟩
  · refine ⟨_, cap, rfl, hn, hl, fun k hk => ?_⟩
    obtain ⟨u, e1, e2, _⟩ := h2 k hk
    exact ⟨_, u, rfl, World.ownsRow.cells h1 (g := g) rfl k _ e1, e2⟩
theorem GOwn.rows_some {w : World} {lo : Option Nat} {base : Nat} {v : Value} {rows : List (List Int)} (h : GOwn w lo base v rows) (hl : rows.length ≤ 9223372036854775807) (hv : v ≠ .slice none 0 0) : ∃ ad c, v = .slice (some ad) rows.length c ∧ rows.length ≤ c ∧ RowsAt w lo (some ad) rows := by
  obtain ⟨A, c, rfl, h2, h3⟩ := h.rows hl
  obtain ⟨hs, h1, _⟩ := h
  rcases h1.2 with ⟨e, _⟩ | ⟨g, cap, cur, e, _⟩
  · exact absurd e hv
  · simp only [Value.slice.injEq] at e
    obtain ⟨rfl, _, _⟩ := e
    exact ⟨_, c, rfl, h2, h3⟩
theorem GOwn.shape {w : World} {lo : Option Nat} {base : Nat} {v : Value} {rows : List (List Int)} (h : GOwn w lo base v rows) : ∃ A c, v = .slice A rows.length c := by
  obtain ⟨hs, h1, _⟩ := h
  rcases h1.2 with ⟨rfl, h0⟩ | ⟨g, cap, cur, e, _⟩
  · exact ⟨none, 0, by rw [h0]⟩
  · exact ⟨_, cap, e⟩
/-- What is read in a world that the call found lies apart from what has been made since. -/
theorem apart_old {w0 w : World} {lo : Option Nat} {base : Nat} {v u : Value} {rows : List (List Int)} {xs : List Int} (h : RowP w0 lo u xs) (hv : GOwn w lo base v rows) (hb : w0.heap.size ≤ base) : (xs ≠ [] ∨ lo ≠ none) → ∀ g, u.ownBlock = some g → v.ownBlock ≠ some g := by
  intro hn g hg hv2
  have := h.lt hn g hg
  have := (hv.lt _ hv2).1
  omega
theorem run_appg_all {W0 W : World} (ty : TypeId) {lo : Option Nat} (base : Nat) (v : Value) (rows rows2 : List (List Int)) (A : Option Addr) (m c : Nat)
    (hown : GOwn W lo base v rows) (hy : RowsAt W0 lo A rows2) (hk : Kp W0 W) (hap0 : ∀ k (hk : k < rows2.length) (ad : Addr) (u : Value), A = some ad → W0.cell? (ad.add k) = some u → RowP W0 lo u rows2[k] → (rows2[k] ≠ [] ∨ lo ≠ none) → ∀ g, u.ownBlock = some g → v.ownBlock ≠ some g) (hym : rows2.length = m) (hbase : base ≤ W.heap.size) (hlen : rows.length + rows2.length ≤ 4194304) :
    ∃ v' w', (Builtin.append_ #[23, 23] ty #[v, .slice A m c]).run Try.prog W = .ok v' w' ∧ GOwn w' lo base v' (rows ++ rows2) ∧ W.grownBy w' v.ownBlock ∧ (v'.ownBlock = v.ownBlock ∨ ∀ g, v'.ownBlock = some g → W.heap.size ≤ g) := by
  obtain ⟨i0, hi, hz0, hz1, hz2⟩ := info_parts infoIntsG
  rcases A with _ | ad
  · have hys : rows2 = [] := by
      rcases rows2 with _ | ⟨y, ys⟩
      · rfl
      · obtain ⟨ad, _, h, _⟩ := hy.2 0 (by simp)
        cases h
    subst hys
    obtain rfl : m = 0 := by simpa using hym.symm
    refine ⟨v, W, ?_, by simpa using hown, World.grownBy.refl W _, .inl rfl⟩
    obtain ⟨hs, h1, _⟩ := hown
    rcases h1.2 with ⟨rfl, hn0⟩ | ⟨g, cap, cur, rfl, _, _, hnc, _⟩
    · simp [Builtin.append_, run_underlying Try.underlying23, sizeOf, typeInfo, hi, Builtin.lenOf, Builtin.firstCells]
    · simp [Builtin.append_, run_underlying Try.underlying23, sizeOf, typeInfo, hi, Builtin.lenOf, Builtin.firstCells, hnc, storeCells]
  · have hown0 := hown
    obtain ⟨hs, h1, h2⟩ := hown
    have hlt : hs.length = rows.length := by rw [h1.1]; omega
    obtain ⟨hs2, hs2d⟩ : ∃ hs2 : List Value, hs2 = (List.range m).map (fun j => (W.cell? (ad.add j)).getD (.slice none 0 0)) := ⟨_, rfl⟩
    have hs2l : hs2.length = m := by simp [hs2d]
    have hs2a : ∀ j (hj : j < rows2.length), ∃ u, hs2[j]? = some u ∧ W0.cell? (ad.add j) = some u ∧ RowP W0 lo u rows2[j] := fun j hj => by
      obtain ⟨ad', u, e0, e1, e2⟩ := hy.2 j hj
      cases e0
      refine ⟨u, ?_, e1, e2⟩
      rw [hs2d]
      simp [show j < m by omega, hk.get e1]
    obtain ⟨v', w', hrun, g2, g3, _, g5⟩ := run_append_own_at (P := Try.prog) W base 23 ty 22 i0 (.slice none 0 0) 1 24 Try.underlying23 hi hz0 hz1 hz2 rfl (by decide) v rows.length hs h1 ad m c hs2 (by rw [hs2l]; omega) (by
        intro j u hj
        by_cases hlt : j < rows2.length
        · obtain ⟨u2, e1, e2, _⟩ := hs2a j hlt
          rw [e1] at hj
          have e : u2 = u := by simpa using hj
          rw [← e]; exact hk.get e2
        · rw [List.getElem?_eq_none (by omega)] at hj; cases hj) (by
        intro u hu
        obtain ⟨j, hj, rfl⟩ := List.getElem_of_mem hu
        obtain ⟨u2, e1, _, e3⟩ := hs2a j (by omega)
        rw [List.getElem?_eq_getElem hj] at e1
        have e : hs2[j] = u2 := by simpa using e1
        rw [e]; exact e3.one) (by unfold maxLen; omega) (by omega) hbase
    have ht := Turn.of_grown g3
    have h5 : v'.ownBlock = v.ownBlock ∨ ∀ g, v'.ownBlock = some g → W.heap.size ≤ g := by
      rcases g5 with e | e
      · exact .inl e
      · exact .inr (fun g hg => by rw [e] at hg; simp at hg; omega)
    have hnew : ∀ (u : Value) (xs : List Int), RowP W lo u xs → (xs ≠ [] ∨ lo ≠ none) → (∀ g, u.ownBlock = some g → v.ownBlock ≠ some g) → ∀ g, u.ownBlock = some g → v'.ownBlock ≠ some g := by
      intro u xs hx hn hv g hg e
      rcases h5 with h | h
      · rw [h] at e; exact hv g hg e
      · have := h _ e
        have := hx.lt hn g hg
        omega
    refine ⟨v', w', hrun, ⟨hs ++ hs2, ?_, fun j hj => ?_⟩, g3, h5⟩
    · rw [List.length_append, hym]; exact g2
    · rw [List.length_append] at hj
      by_cases hjl : j < rows.length
      · obtain ⟨u, e1, e2, e3⟩ := h2 j hjl
        have e : (rows ++ rows2)[j] = rows[j] := List.getElem_append_left hjl
        rw [e]
        exact ⟨u, by rw [List.getElem?_append_left (by omega)]; exact e1, e2.turn ht (fun hn g hg hh => e3 hn g hg hh), fun hn => hnew u _ e2 hn (e3 hn)⟩
      · have hj2 : j - rows.length < rows2.length := by omega
        obtain ⟨u, e1, e0, e3⟩ := hs2a _ hj2
        have e : (rows ++ rows2)[j] = rows2[j - rows.length] := List.getElem_append_right (by omega)
        rw [e]
        have hap := hap0 _ hj2 ad u rfl e0 e3
        exact ⟨u, by rw [List.getElem?_append_right (by omega), hlt]; exact e1, (e3.kp hk).turn ht (fun hn g hg hh => hap hn g hg hh), fun hn => hnew u _ (e3.kp hk) hn (hap hn)⟩
/-- The header of a slice stands in a block of one cell. -/
theorem RowsAt.one {W : World} {lo : Option Nat} {ad : Addr} {u : Value} {xs : List Int} (h : RowP W lo u xs) (hc : W.cell? ad = some u) : RowsAt W lo (some ad) [xs] :=
  ⟨by simp, fun k hk => by
    obtain rfl : k = 0 := by simpa using hk
    have e : ad.add 0 = ad := by unfold Addr.add; simp
    exact ⟨ad, u, rfl, by rw [e]; exact hc, h⟩⟩
theorem run_appg {W : World} (ty : TypeId) {lo : Option Nat} (base : Nat) (v : Value) (rows : List (List Int)) (r : List Int) (u : Value) (ad : Addr) (m' c' : Nat)
    (hown : GOwn W lo base v rows) (hr : RowP W lo u r) (hcell : W.cell? ad = some u) (hm : m' = 1) (hap : (r ≠ [] ∨ lo ≠ none) → ∀ g, u.ownBlock = some g → v.ownBlock ≠ some g) (hbase : base ≤ W.heap.size) (hlen : rows.length < 1048576) :
    ∃ v' w', (Builtin.append_ #[23, 23] ty #[v, .slice (some ad) m' c']).run Try.prog W = .ok v' w' ∧ GOwn w' lo base v' (rows ++ [r]) ∧ W.grownBy w' v.ownBlock ∧ (v'.ownBlock = v.ownBlock ∨ ∀ g, v'.ownBlock = some g → W.heap.size ≤ g) := by
  subst hm
  refine run_appg_all ty base v rows [r] (some ad) 1 c' hown (RowsAt.one hr hcell) (Kp.refl W) (fun k hk ad2 u2 e1 e2 hu2 hn g hg => ?_) rfl hbase (by simp; omega)
  obtain rfl : k = 0 := by simpa using hk
  cases e1
  have e : ad.add 0 = ad := by unfold Addr.add; simp
  rw [e, hcell] at e2
  cases e2
  exact hap hn g hg
/-- append of one row, in a plain region: the row's header stands in a new block of one cell. -/
theorem wpl_appg {ops : Array Oper} {rest : List Oper} {o : Oper} {a : Act} {Q : Exit → Act → World → Prop} {W : World} (hgd : o.guard = none) (s x : Operand)
    (ho : o.op = .call { callee := .builtin .append, args := #[s, x], argTypes := #[23, 23] }) {lo : Option Nat} (base : Nat) (v : Value) (rows : List (List Int)) (r : List Int) (u : Value)
    (hs : a.eval s = v) (hx : a.eval x = .slice (some ⟨W.heap.size, 0, none⟩) 1 1) (hown : GOwn W lo base v rows) (hr : RowP W lo u r) (hap : (r ≠ [] ∨ lo ≠ none) → ∀ g, u.ownBlock = some g → v.ownBlock ≠ some g) (hbase : base ≤ W.heap.size) (hlen : rows.length < 1048576)
    (h : ∀ v' w', GOwn w' lo base v' (rows ++ [r]) → Turn (fun i => v.ownBlock = some i) W w' → (v'.ownBlock = v.ownBlock ∨ ∀ g, v'.ownBlock = some g → W.heap.size ≤ g) → wpList Try.prog ops Q rest (a.put o.dst v') w') :
    wpList Try.prog ops Q (o :: rest) a (W.alloc (.cells #[u] 22)) := by
  have hk : Kp W (W.alloc (.cells #[u] 22)) := (Kp.refl W).alloc _
  obtain ⟨v', w', hrun, h2, h3, h4⟩ := run_appg (W := W.alloc (.cells #[u] 22)) o.type base v rows r u ⟨W.heap.size, 0, none⟩ 1 1 (hown.kp hk) (hr.kp hk) (by rw [World.cell?_alloc_at _ _ _ _ rfl]; rfl) rfl hap (by simp; omega) hlen
  refine Lib.wpList_append_run _ hgd s x _ _ ho _ _ hs hx v' w' hrun (h v' w' h2 ((Turn.of_kp hk).trans (Turn.of_grown h3)) ?_)
  rcases h4 with e | e
  · exact .inl e
  · exact .inr (fun g hg => by have := e g hg; simp at this; omega)
theorem step_appg {ops : Array Oper} {o : Oper} {a : Act} {K : Act → World → Prop} {Q : Exit → Act → World → Prop} {E : Prop} {W : World} (hgd : o.guard = none) (s x : Operand)
    (ho : o.op = .call { callee := .builtin .append, args := #[s, x], argTypes := #[23, 23] }) {lo : Option Nat} (base : Nat) (v : Value) (rows : List (List Int)) (r : List Int) (u : Value) (ad : Addr)
    (hs : a.eval s = v) (hx : a.eval x = .slice (some ad) 1 1) (hown : GOwn W lo base v rows) (hr : RowP W lo u r) (hcell : W.cell? ad = some u) (hap : (r ≠ [] ∨ lo ≠ none) → ∀ g, u.ownBlock = some g → v.ownBlock ≠ some g) (hbase : base ≤ W.heap.size) (hlen : rows.length < 1048576)
    (h : ∀ v' w', GOwn w' lo base v' (rows ++ [r]) → Turn (fun i => v.ownBlock = some i) W w' → (v'.ownBlock = v.ownBlock ∨ ∀ g, v'.ownBlock = some g → W.heap.size ≤ g) → K (a.put o.dst v') w') :
    if Region.wanted o (yielded ops a.tmps) = true then Oper.wp Try.prog o a W K Q else E := by
  have hw : Region.wanted o (yielded ops a.tmps) = true := by simp [Region.wanted, hgd]
  rw [if_pos hw]
  obtain ⟨v', w', hrun, h2, h3, h4⟩ := run_appg (W := W) o.type base v rows r u ad 1 1 hown hr hcell rfl hap hbase hlen
  unfold Oper.wp execOp
  simp only [ho, resolve, invoke, builtin, Sem.run_bind, Sem.run_pure, Result.andThen_ok, List.map_toArray, List.map_cons, List.map_nil, hs, hx, hrun]
  exact h v' w' h2 (Turn.of_grown h3) h4
theorem step_appg_all {ops : Array Oper} {o : Oper} {a : Act} {K : Act → World → Prop} {Q : Exit → Act → World → Prop} {E : Prop} {W0 W : World} (hgd : o.guard = none) (s x : Operand)
    (ho : o.op = .call { callee := .builtin .append, args := #[s, x], argTypes := #[23, 23] }) {lo : Option Nat} (base : Nat) (v : Value) (rows rows2 : List (List Int)) (A : Option Addr) (m c : Nat)
    (hs : a.eval s = v) (hx : a.eval x = .slice A m c) (hown : GOwn W lo base v rows) (hy : RowsAt W0 lo A rows2) (hk : Kp W0 W) (hb0 : W0.heap.size ≤ base) (hym : rows2.length = m) (hbase : base ≤ W.heap.size) (hlen : rows.length + rows2.length ≤ 4194304)
    (h : ∀ v' w', GOwn w' lo base v' (rows ++ rows2) → Turn (fun i => v.ownBlock = some i) W w' → (v'.ownBlock = v.ownBlock ∨ ∀ g, v'.ownBlock = some g → W.heap.size ≤ g) → K (a.put o.dst v') w') :
    if Region.wanted o (yielded ops a.tmps) = true then Oper.wp Try.prog o a W K Q else E := by
  have hw : Region.wanted o (yielded ops a.tmps) = true := by simp [Region.wanted, hgd]
  rw [if_pos hw]
  obtain ⟨v', w', hrun, h2, h3, h4⟩ := run_appg_all (W := W) o.type base v rows rows2 A m c hown hy hk (fun k _ _ _ _ _ hu => apart_old hu hown hb0) hym hbase hlen
  unfold Oper.wp execOp
  simp only [ho, resolve, invoke, builtin, Sem.run_bind, Sem.run_pure, Result.andThen_ok, List.map_toArray, List.map_cons, List.map_nil, hs, hx, hrun]
  exact h v' w' h2 (Turn.of_grown h3) h4
/-- append of all rows in a plain region; the rows lie apart. -/
theorem wpl_appg_all {ops : Array Oper} {rest : List Oper} {o : Oper} {a : Act} {Q : Exit → Act → World → Prop} {W : World} (hgd : o.guard = none) (s x : Operand)
    (ho : o.op = .call { callee := .builtin .append, args := #[s, x], argTypes := #[23, 23] }) {lo : Option Nat} (base : Nat) (v : Value) (rows rows2 : List (List Int)) (A : Option Addr) (m c : Nat)
    (hs : a.eval s = v) (hx : a.eval x = .slice A m c) (hown : GOwn W lo base v rows) (hy : RowsAt W lo A rows2) (hap0 : ∀ k (hk : k < rows2.length) (ad : Addr) (u : Value), A = some ad → W.cell? (ad.add k) = some u → RowP W lo u rows2[k] → (rows2[k] ≠ [] ∨ lo ≠ none) → ∀ g, u.ownBlock = some g → v.ownBlock ≠ some g) (hym : rows2.length = m) (hbase : base ≤ W.heap.size) (hlen : rows.length + rows2.length ≤ 4194304)
    (h : ∀ v' w', GOwn w' lo base v' (rows ++ rows2) → Turn (fun i => v.ownBlock = some i) W w' → (v'.ownBlock = v.ownBlock ∨ ∀ g, v'.ownBlock = some g → W.heap.size ≤ g) → wpList Try.prog ops Q rest (a.put o.dst v') w') :
    wpList Try.prog ops Q (o :: rest) a W := by
  obtain ⟨v', w', hrun, h2, h3, h4⟩ := run_appg_all (W := W) o.type base v rows rows2 A m c hown hy (Kp.refl W) hap0 hym hbase hlen
  exact Lib.wpList_append_run _ hgd s x _ _ ho _ _ hs hx v' w' hrun (h v' w' h2 (Turn.of_grown h3) h4)
end Go.Proofs.Ytggkhieepjnmdaa

namespace Go.Proofs.Ytggkhieepjnmdaa
open Go.RowKit Go.Sort

/-- Which of two lists comes first, number by number. -/
def lexC : List Int → List Int → Int
  | [], [] => 0
  | [], _ :: _ => -1
  | _ :: _, [] => 1
  | x :: xs, y :: ys => if x < y then -1 else if y < x then 1 else lexC xs ys
theorem lexC_anti : ∀ a b : List Int, lexC b a = - lexC a b
  | [], [] => rfl
  | [], _ :: _ => rfl
  | _ :: _, [] => rfl
  | x :: xs, y :: ys => by
    unfold lexC
    have ih := lexC_anti xs ys
    by_cases h1 : x < y
    · simp [h1, show ¬ y < x by omega]
    · by_cases h2 : y < x
      · simp [h1, h2]
      · simp [h1, h2]; exact ih
theorem lexC_zero : ∀ a b : List Int, lexC a b = 0 → a = b
  | [], [], _ => rfl
  | [], _ :: _, h => by simp [lexC] at h
  | _ :: _, [], h => by simp [lexC] at h
  | x :: xs, y :: ys, h => by
    unfold lexC at h
    by_cases h1 : x < y
    · rw [if_pos h1] at h; omega
    · by_cases h2 : y < x
      · rw [if_neg h1, if_pos h2] at h; omega
      · rw [if_neg h1, if_neg h2] at h
        rw [lexC_zero xs ys h, show x = y by omega]
theorem lexC_trans : ∀ a b c : List Int, lexC a b < 0 → lexC b c < 0 → lexC a c < 0
  | [], [], _, h, _ => by simp [lexC] at h
  | [], _ :: _, [], _, h => by simp [lexC] at h
  | [], _ :: _, _ :: _, _, _ => by simp [lexC]
  | _ :: _, [], _, h, _ => by simp [lexC] at h
  | _ :: _, _ :: _, [], _, h => by simp [lexC] at h
  | x :: xs, y :: ys, z :: zs, h, h' => by
    unfold lexC at h h' ⊢
    have ih := lexC_trans xs ys zs
    by_cases h1 : x < y
    · by_cases h2 : z < y
      · rw [if_neg (by omega), if_pos h2] at h'; omega
      · rw [if_pos (by omega)]; omega
    · by_cases h2 : y < x
      · rw [if_neg h1, if_pos h2] at h; omega
      · rw [if_neg h1, if_neg h2] at h
        have e : x = y := by omega
        subst e
        by_cases h3 : x < z
        · rw [if_pos h3]; omega
        · by_cases h4 : z < x
          · rw [if_neg h3, if_pos h4] at h'; omega
          · rw [if_neg h3, if_neg h4] at h' ⊢
            exact ih h h'
/-- First by how many there are, then number by number. -/
def cmpS (a b : List Int) : Int := if a.length < b.length then -1 else if b.length < a.length then 1 else lexC a b
def befB (a b : List Int) : Bool := decide (cmpS a b < 0)
theorem cmpS_anti (a b : List Int) : cmpS b a = - cmpS a b := by
  unfold cmpS
  by_cases h1 : a.length < b.length
  · simp [h1, show ¬ b.length < a.length by omega]
  · by_cases h2 : b.length < a.length
    · simp [h1, h2]
    · simp [h1, h2]; exact lexC_anti a b
theorem cmpS_zero {a b : List Int} (h : cmpS a b = 0) : a = b := by
  unfold cmpS at h
  by_cases h1 : a.length < b.length
  · rw [if_pos h1] at h; omega
  · by_cases h2 : b.length < a.length
    · rw [if_neg h1, if_pos h2] at h; omega
    · rw [if_neg h1, if_neg h2] at h; exact lexC_zero a b h
theorem cmpS_trans {a b c : List Int} (h : cmpS a b < 0) (h' : cmpS b c < 0) : cmpS a c < 0 := by
  unfold cmpS at *
  by_cases h1 : a.length < c.length
  · rw [if_pos h1]; omega
  · have hb : ¬ b.length < a.length := fun hh => by rw [if_neg (by omega), if_pos hh] at h; omega
    have hc : ¬ c.length < b.length := fun hh => by rw [if_neg (by omega), if_pos hh] at h'; omega
    rw [if_neg (by omega), if_neg hb] at h
    rw [if_neg (by omega), if_neg hc] at h'
    rw [if_neg h1, if_neg (by omega)]
    exact lexC_trans a b c h h'
theorem befB_irrefl (a : List Int) : befB a a = false := by
  have := cmpS_anti a a
  simp [befB]; omega
theorem befB_trans {a b c : List Int} (h : befB a b = true) (h' : befB b c = true) : befB a c = true := by
  simp only [befB, decide_eq_true_eq] at *; exact cmpS_trans h h'
theorem befB_total {a b : List Int} (h : befB a b = false) (h' : befB b a = false) : a = b := by
  simp only [befB, decide_eq_false_iff_not] at *
  have := cmpS_anti a b
  exact cmpS_zero (by omega)
theorem befB_asymm {a b : List Int} (h : befB a b = true) : befB b a = false := by
  cases h' : befB b a with
  | false => rfl
  | true => have := befB_trans h h'; rw [befB_irrefl] at this; cases this
/-- What is not behind. -/
def notB (a b : List Int) : Bool := !befB b a
theorem notB_trans (a b c : List Int) (h : notB a b = true) (h' : notB b c = true) : notB a c = true := by
  simp only [notB, Bool.not_eq_true'] at *
  by_cases e1 : a = b
  · subst e1; exact h'
  by_cases e2 : b = c
  · subst e2; exact h
  have g1 : befB a b = true := by
    cases hh : befB a b with
    | true => rfl
    | false => exact absurd (befB_total hh h) e1
  have g2 : befB b c = true := by
    cases hh : befB b c with
    | true => rfl
    | false => exact absurd (befB_total hh h') e2
  exact befB_asymm (befB_trans g1 g2)
theorem notB_total (a b : List Int) : (notB a b || notB b a) = true := by
  cases h : befB b a with
  | false => simp [notB, h]
  | true => simp [notB, befB_asymm h]
/-- The codes of the sets with at least one member, in the order of codes. -/
def codesL (n : Nat) : List (List Int) := (List.range (2 ^ n - 1)).map fun c => bitsL n (c + 1)
def setsL (n : Nat) : List (List Int) := (codesL n).mergeSort notB
theorem setsL_perm (n : Nat) : (setsL n).Perm (codesL n) := List.mergeSort_perm _ _
theorem setsL_len (n : Nat) : (setsL n).length = 2 ^ n - 1 := by rw [(setsL_perm n).length_eq]; simp [codesL]
theorem bitsL_inj {n a b : Nat} (ha : a < 2 ^ n) (hb : b < 2 ^ n) (h : bitsL n a = bitsL n b) : a = b := by
  apply Nat.eq_of_testBit_eq
  intro i
  by_cases hi : i < n
  · have h1 := mem_bitsL (n := n) (b := a) (x := (i : Int))
    have h2 := mem_bitsL (n := n) (b := b) (x := (i : Int))
    rw [h] at h1
    have h3 := h1.symm.trans h2
    rw [Bool.eq_iff_iff]
    simp only [Int.toNat_natCast] at h3
    constructor
    · intro hx; exact (h3.1 ⟨by omega, by omega, hx⟩).2.2
    · intro hx; exact (h3.2 ⟨by omega, by omega, hx⟩).2.2
  · rw [Nat.testBit_lt_two_pow (Nat.lt_of_lt_of_le ha (Nat.pow_le_pow_right (by omega) (by omega))), Nat.testBit_lt_two_pow (Nat.lt_of_lt_of_le hb (Nat.pow_le_pow_right (by omega) (by omega)))]
theorem codesL_nodup (n : Nat) : (codesL n).Nodup := by
  unfold codesL List.Nodup
  rw [List.pairwise_map]
  refine (List.pairwise_iff_getElem.2 ?_)
  intro i j hi hj hij e
  have hi' : i < 2 ^ n - 1 := by simpa using hi
  have hj' : j < 2 ^ n - 1 := by simpa using hj
  simp only [List.getElem_range] at e
  have := bitsL_inj (n := n) (by omega) (by omega) e
  omega
theorem setsL_nodup (n : Nat) : (setsL n).Nodup := (setsL_perm n).nodup_iff.2 (codesL_nodup n)
theorem setsL_sorted (n : Nat) : (setsL n).Pairwise (fun a b => befB a b = true) := by
  have h1 : (setsL n).Pairwise (fun a b => notB a b = true) := List.pairwise_mergeSort notB_trans notB_total _
  have h2 := setsL_nodup n
  rw [List.pairwise_iff_getElem] at h1 ⊢
  unfold List.Nodup at h2
  rw [List.pairwise_iff_getElem] at h2
  intro i j hi hj hij
  have h3 := h1 i j hi hj hij
  have h4 := h2 i j hi hj hij
  simp only [notB, Bool.not_eq_true'] at h3
  cases hh : befB (setsL n)[i] (setsL n)[j] with
  | true => rfl
  | false => exact absurd (befB_total hh h3) h4
/-- There is one list of all sets in order. -/
theorem setsL_uniq {n : Nat} {l : List (List Int)} (hp : l.Perm (codesL n)) (hs : l.Pairwise (fun a b => befB a b = true)) : l = setsL n :=
  List.Perm.eq_of_pairwise (le := fun a b => befB a b = true) (fun a b _ _ h h' => by have := befB_asymm h; rw [h'] at this; cases this) hs (setsL_sorted n) (hp.trans (setsL_perm n).symm)
theorem mem_codesL {n : Nat} {S : List Int} : S ∈ codesL n ↔ S ≠ [] ∧ risB S 0 ((n : Int) - 1) = true := by
  constructor
  · intro h
    simp only [codesL, List.mem_map, List.mem_range] at h
    obtain ⟨c, hc, rfl⟩ := h
    refine ⟨fun e => ?_, bitsL_ris _ _ _ (Int.le_refl _)⟩
    have h0 : bitsL n 0 = [] := by simp [bitsL, bitsN]
    have := bitsL_inj (n := n) (a := c + 1) (b := 0) (by omega) (Nat.two_pow_pos n) (e.trans h0.symm)
    omega
  · rintro ⟨hne, hr⟩
    have hr' := ris_iff.1 hr
    have hm : ∀ y ∈ S, 0 ≤ y ∧ y < n := fun y hy => by have := hr'.2 y hy; omega
    have hb := bits_bag hr'.1 hm
    have hlt := bagN_lt hm
    simp only [codesL, List.mem_map, List.mem_range]
    have hpos : 0 < bagN S := by
      rcases Nat.eq_zero_or_pos (bagN S) with h | h
      · rw [h] at hb; exact absurd (by rw [← hb]; simp [bitsL, bitsN]) hne
      · exact h
    exact ⟨bagN S - 1, by omega, by rw [Nat.sub_add_cancel hpos]; exact hb⟩
theorem mem_setsL {n : Nat} {S : List Int} : S ∈ setsL n ↔ S ≠ [] ∧ risB S 0 ((n : Int) - 1) = true := (setsL_perm n).mem_iff.trans mem_codesL
theorem risB_len {n : Nat} {S : List Int} (h : risB S 0 ((n : Int) - 1) = true) : S.length ≤ n := by
  have hr' := ris_iff.1 h
  have hm : ∀ y ∈ S, 0 ≤ y ∧ y < n := fun y hy => by have := hr'.2 y hy; omega
  have := bitsL_len n (bagN S)
  rwa [bits_bag hr'.1 hm] at this
/-- The first one with the least value. -/
def bestStep (v : List Int → Int) (b s : List Int) : List Int := if v s < v b then s else b
def bestL (v : List Int → Int) (l : List (List Int)) : List Int := l.foldl (bestStep v) (l.getD 0 [])
end Go.Proofs.Ytggkhieepjnmdaa

namespace Go.Proofs.Ytggkhieepjnmdaa
open Go.RowKit Go.Sort Go.Shelf

/-- Draws, and new blocks behind. -/
def Gw (w w' : World) : Prop := ∃ q os, w' = grow (w.drewN q) os
theorem Gw.refl (w : World) : Gw w w := ⟨0, #[], by rw [grow_empty]; rfl⟩
theorem Gw.drewN {a w : World} (h : Gw a w) (n : Nat) : Gw a (w.drewN n) := by
  obtain ⟨q, os, rfl⟩ := h
  refine ⟨q + n, os, ?_⟩
  rw [← World.drewN_drewN]; rfl
theorem Gw.drew {a w : World} (h : Gw a w) : Gw a w.drew := h.drewN 1
theorem Gw.alloc {a w : World} (h : Gw a w) (o : Obj) : Gw a (w.alloc o) := by
  obtain ⟨q, os, rfl⟩ := h
  refine ⟨q, os ++ #[o], ?_⟩
  rw [alloc_eq_grow, grow_grow]
theorem Gw.trans {a b c : World} (h : Gw a b) (k : Gw b c) : Gw a c := by
  obtain ⟨q, os, rfl⟩ := h
  obtain ⟨q2, os2, rfl⟩ := k
  refine ⟨q + q2, os ++ os2, ?_⟩
  rw [← grow_grow, ← World.drewN_drewN]; rfl
theorem Gw.kp {w w' : World} (h : Gw w w') : Kp w w' := by
  obtain ⟨q, os, rfl⟩ := h
  exact ⟨rfl, rfl, rfl, by simp, fun i hi => heap_grow_old (w.drewN q) os hi⟩
theorem Gw.of_dr {w w' : World} (h : Dr w w') : Gw w w' := by
  obtain ⟨q, rfl⟩ := h; exact (Gw.refl w).drewN q

def rowD (rows : List (List Int)) (i : Nat) : List Int := rows.getD i []
def hdD (hs : List Value) (i : Nat) : Value := hs.getD i (.slice none 0 0)
def cmpD (rows : List (List Int)) (i j : Nat) : Int := cmpS (rowD rows i) (rowD rows j)
theorem swo_cmpD (rows : List (List Int)) : SWO (ltOf (cmpD rows)) where
  irrefl x := befB_irrefl _
  trans x y z h1 h2 := befB_trans (a := rowD rows x) (b := rowD rows y) (c := rowD rows z) h1 h2
  ntrans x y z h1 h2 := by
    have e1 : befB (rowD rows x) (rowD rows y) = false := h1
    have e2 : befB (rowD rows y) (rowD rows z) = false := h2
    have h3 := notB_trans (rowD rows z) (rowD rows y) (rowD rows x) (by simp [notB, e2]) (by simp [notB, e1])
    have h4 : befB (rowD rows x) (rowD rows z) = false := by simpa [notB] using h3
    exact h4
/-- The comparison as the sort calls it. -/
theorem cmp_lays {g blk base : Nat} {lo : Option Nat} {hs : List Value} {rows : List (List Int)} {v : Value} {w : World} (size : Nat)
    (hC : ∀ (A1 A2 : Option Addr) (xs ys : List Int) (n m c d : Nat) (W : World), IntsAt W A1 xs → xs.length = n → IntsAt W A2 ys → ys.length = m → Calls Try.prog g #[.slice A1 n c, .slice A2 m d] W fun e w' => e = .returned (.int .i64 (cmpS xs ys)) ∧ Gw W w')
    (h1 : w.ownsRow base 22 1 v rows.length hs)
    (h2 : ∀ j (hj : j < rows.length), ∃ u, hs[j]? = some u ∧ RowP w lo u rows[j] ∧ ((rows[j] ≠ [] ∨ lo ≠ none) → ∀ i, u.ownBlock = some i → blk ≠ i)) :
    CmpLays1 Try.prog g #[] (hdD hs) (cmpD rows) blk 0 size w := by
  intro m os dk _ x y
  have hW : ∀ i, i ≠ blk → i < w.heap.size → (sortWorld (hdD hs) w blk 0 m dk os).heap[i]? = w.heap[i]? := fun i hi hlt => by
    unfold sortWorld
    rw [heap_grow_old _ _ (by simpa using hlt)]
    simp [putRow, mapBlock, Sort.ahead, Array.getElem?_modify, Ne.symm hi]
  have hT : Turn (fun i => i = blk) w (sortWorld (hdD hs) w blk 0 m dk os) := ⟨rfl, rfl, rfl, by simp [sortWorld], fun i hi hn => hW i hn hi⟩
  have hlen : hs.length = rows.length := by rw [h1.1]; omega
  have key : ∀ i, ∃ A n c, hdD hs i = .slice A n c ∧ (rowD rows i).length = n ∧ IntsAt (sortWorld (hdD hs) w blk 0 m dk os) A (rowD rows i) := fun i => by
    by_cases hi : i < rows.length
    · obtain ⟨u, e1, e2, e3⟩ := h2 i hi
      have er : rowD rows i = rows[i] := by simp [rowD, List.getD, hi]
      obtain ⟨A, c, rfl, _, e5⟩ := (e2.turn hT (fun hn g hg hh => e3 hn g hg hh.symm)).read
      refine ⟨A, rows[i].length, c, by simp [hdD, List.getD, e1], by rw [er], ?_⟩
      rw [er]
      exact e5
    · refine ⟨none, 0, 0, ?_, ?_, ?_⟩
      · simp [hdD, List.getD, List.getElem?_eq_none (show hs.length ≤ i by omega)]
      · simp [rowD, List.getD, List.getElem?_eq_none (show rows.length ≤ i by omega)]
      · have : rowD rows i = [] := by simp [rowD, List.getD, List.getElem?_eq_none (show rows.length ≤ i by omega)]
        rw [this]; exact IntsAt.nil _ _
  obtain ⟨A1, n1, c1, e1, l1, i1⟩ := key x
  obtain ⟨A2, n2, c2, e2, l2, i2⟩ := key y
  rw [e1, e2]
  exact hC A1 A2 _ _ n1 n2 c1 c2 _ i1 l1 i2 l2
/-- Behind the sort the same slice holds all the rows in order. -/
theorem gown_sorted {g cap base : Nat} {lo : Option Nat} {rows : List (List Int)} {hs : List Value} {w : World} {n : Nat} {os : Array Obj} {d' : Array Nat}
    (h1 : w.ownsRow base 22 1 (.slice (some ⟨g, 0, none⟩) rows.length cap) rows.length hs)
    (h2 : ∀ j (hj : j < rows.length), ∃ u, hs[j]? = some u ∧ RowP w lo u rows[j] ∧ ((rows[j] ≠ [] ∨ lo ≠ none) → ∀ i, u.ownBlock = some i → (Value.slice (some ⟨g, 0, none⟩) rows.length cap).ownBlock ≠ some i))
    (hp : PermIn 0 rows.length (Array.range rows.length) d') :
    GOwn (sortWorld (hdD hs) w g 0 n d' os) lo base (.slice (some ⟨g, 0, none⟩) rows.length cap) (d'.toList.map (rowD rows)) := by
  obtain ⟨hsz, _, hperm⟩ := hp
  have hlen : hs.length = rows.length := by rw [h1.1]; omega
  have hd : d'.size = rows.length := by simpa using hsz
  have hmem : ∀ i (hi : i < d'.size), d'[i] < rows.length := fun i hi => by
    have e : (d'.extract 0 rows.length) = d' := by rw [← hd]; simp
    rw [e] at hperm
    have h3 : d'[i] ∈ (Array.range rows.length).extract 0 rows.length := by
      have := hperm.subset (Array.getElem_mem_toList hi)
      simpa using this
    have e2 : (Array.range rows.length).extract 0 rows.length = Array.range rows.length := by
      have : rows.length = (Array.range rows.length).size := by simp
      conv => lhs; rw [this]
      simp
    rw [e2] at h3
    simpa using h3
  have hs0 : hs = (List.range rows.length).map (hdD hs) := by
    apply List.ext_getElem
    · simp [hlen]
    · intro i hi hi2
      simp [hdD, List.getD, hi]
  have h1' : w.ownsRow base 22 1 (.slice (some ⟨g, 0, none⟩) rows.length cap) rows.length ((List.range rows.length).map (hdD hs)) := by rw [← hs0]; exact h1
  have h3 := Lib.ownsRow_putRow (q := n) (k := rows.length) (ys := d'.toList) h1' (by simpa using hd) (Nat.le_refl _)
  rw [List.take_of_length_le (by simp; omega)] at h3
  have h4 := Lib.ownsRow_grow h3 0 os
  have hT : Turn (fun i => i = g) w (sortWorld (hdD hs) w g 0 n d' os) := ⟨rfl, rfl, rfl, by simp [sortWorld], fun i hi hn => by
    unfold sortWorld
    rw [heap_grow_old _ _ (by simpa using hi)]
    simp [putRow, mapBlock, Sort.ahead, Array.getElem?_modify, Ne.symm hn]⟩
  refine ⟨d'.toList.map (hdD hs), ?_, fun j hj => ?_⟩
  · have e : (d'.toList.map (rowD rows)).length = rows.length := by simp [hd]
    rw [e]
    exact h4
  · have hj' : j < d'.size := by simpa using hj
    have hm := hmem j hj'
    obtain ⟨u, e1, e2, e3⟩ := h2 _ hm
    have er : (d'.toList.map (rowD rows))[j] = rows[d'[j]] := by simp [rowD, List.getD, hm]
    rw [er]
    refine ⟨u, ?_, e2.turn hT (fun hn i hi hh => e3 hn i hi (by rw [hh]; rfl)), e3⟩
    simp [hj', hdD, List.getD, e1]
theorem perm_full {m : Nat} {d' : Array Nat} (hp : PermIn 0 m (Array.range m) d') : d'.toList.Perm (List.range m) := by
  obtain ⟨hsz, _, hperm⟩ := hp
  have hd : d'.size = m := by simpa using hsz
  have e : (d'.extract 0 m) = d' := by rw [← hd]; simp
  have e2 : (Array.range m).extract 0 m = Array.range m := by
    have : m = (Array.range m).size := by simp
    conv => lhs; rw [this]
    simp
  rw [e, e2] at hperm
  simpa using hperm
theorem rows_range (rows : List (List Int)) : (List.range rows.length).map (rowD rows) = rows := by
  apply List.ext_getElem
  · simp
  · intro i hi hi2
    simp [rowD, List.getD, hi2]
/-- Sorted, they are all sets in their order. -/
theorem sorted_sets {n : Nat} {rows : List (List Int)} {d' : Array Nat} (hr : rows.Perm (codesL n)) (hp : PermIn 0 rows.length (Array.range rows.length) d') (hs : SortedIn (ltOf (cmpD rows)) 0 rows.length d') : d'.toList.map (rowD rows) = setsL n := by
  have hsz : d'.size = rows.length := by have := hp.1; simpa using this
  have hperm : (d'.toList.map (rowD rows)).Perm rows := by
    have := (perm_full hp).map (rowD rows)
    rwa [rows_range] at this
  have hall := hperm.trans hr
  refine setsL_uniq hall ?_
  have hnd : (d'.toList.map (rowD rows)).Nodup := hall.nodup_iff.2 (codesL_nodup n)
  unfold List.Nodup at hnd
  rw [List.pairwise_iff_getElem] at hnd ⊢
  intro i j hi hj hij
  have h3 := hnd i j hi hj hij
  have hi' : i < d'.size := by simpa using hi
  have hj' : j < d'.size := by simpa using hj
  have h4 := hs i j (Nat.zero_le _) hij (by omega)
  rw [getElem!_pos d' i hi', getElem!_pos d' j hj'] at h4
  have h5 : befB (d'.toList.map (rowD rows))[j] (d'.toList.map (rowD rows))[i] = false := by
    rw [List.getElem_map, List.getElem_map]
    exact h4
  cases hh : befB (d'.toList.map (rowD rows))[i] (d'.toList.map (rowD rows))[j] with
  | true => rfl
  | false => exact absurd (befB_total hh h5) h3
end Go.Proofs.Ytggkhieepjnmdaa

namespace Go.Proofs.Ytggkhieepjnmdaa
open Go.RowKit Go.Sort Go.Shelf

def sortL_ren : Go.Shelf.Ren := ⟨fun | 6 => 61 | 15 => 66 | 14 => 65 | 28 => 79 | 29 => 80 | 20 => 71 | 21 => 72 | 22 => 73 | 23 => 74 | 24 => 75 | 25 => 76 | 26 => 77 | 27 => 78 | 46 => 83 | 47 => 84 | 48 => 85 | 49 => 86 | 50 => 87 | 57 => 88 | n => n, fun | 22 => 23 | 24 => 22 | 25 => 69 | 3 => 3 | 39 => 52 | 0 => 0 | 53 => 82 | 55 => 84 | 4 => 4 | 46 => 76 | 45 => 75 | 50 => 59 | 5 => 5 | 9 => 9 | 66 => 86 | 70 => 90 | 76 => 92 | 77 => 93 | n => n, fun | n => n⟩
theorem sortL : Go.Proofs.SlLaysF.n6 Try.prog sortL_ren := {
  mixed := by kernel_rfl
  f6 := ⟨Try.f61.name, by decide, Try.func61.trans (congrArg some (by kernel_rfl))⟩
  f14 := ⟨Try.f65.name, by decide, Try.func65.trans (congrArg some (by kernel_rfl))⟩
  f15 := Try.func66.trans (congrArg some (by kernel_rfl))
  f20 := ⟨Try.f71.name, by decide, Try.func71.trans (congrArg some (by kernel_rfl))⟩
  f21 := ⟨Try.f72.name, by decide, Try.func72.trans (congrArg some (by kernel_rfl))⟩
  f22 := ⟨Try.f73.name, by decide, Try.func73.trans (congrArg some (by kernel_rfl))⟩
  f23 := ⟨Try.f74.name, by decide, Try.func74.trans (congrArg some (by kernel_rfl))⟩
  f24 := ⟨Try.f75.name, by decide, Try.func75.trans (congrArg some (by kernel_rfl))⟩
  f25 := ⟨Try.f76.name, by decide, Try.func76.trans (congrArg some (by kernel_rfl))⟩
  f26 := ⟨Try.f77.name, by decide, Try.func77.trans (congrArg some (by kernel_rfl))⟩
  f27 := ⟨Try.f78.name, by decide, Try.func78.trans (congrArg some (by kernel_rfl))⟩
  f28 := Try.func79.trans (congrArg some (by kernel_rfl))
  f29 := Try.func80.trans (congrArg some (by kernel_rfl))
  f46 := ⟨Try.f83.name, by decide, Try.func83.trans (congrArg some (by kernel_rfl))⟩
  f47 := Try.func84.trans (congrArg some (by kernel_rfl))
  f48 := Try.func85.trans (congrArg some (by kernel_rfl))
  f49 := ⟨Try.f86.name, by decide, Try.func86.trans (congrArg some (by kernel_rfl))⟩
  f50 := ⟨Try.f87.name, by decide, Try.func87.trans (congrArg some (by kernel_rfl))⟩
  f57 := ⟨Try.f88.name, by decide, Try.func88.trans (congrArg some (by kernel_rfl))⟩
  t0 := Try.underlying0
  a0 := Try.isAgg0
  z0 := Try.sizeOf0
  v0 := Try.zeroValue0
  t3 := Try.underlying3
  a3 := Try.isAgg3
  z3 := Try.sizeOf3
  v3 := Try.zeroValue3
  t4 := Try.underlying4
  a4 := Try.isAgg4
  z4 := Try.sizeOf4
  v4 := Try.zeroValue4
  t5 := Try.underlying5
  a5 := Try.isAgg5
  z5 := Try.sizeOf5
  v5 := Try.zeroValue5
  t9 := Try.underlying9
  a9 := Try.isAgg9
  z9 := Try.sizeOf9
  v9 := Try.zeroValue9
  t22 := Try.underlying23
  a22 := Try.isAgg23
  z22 := Try.sizeOf23
  v22 := Try.zeroValue23
  a24 := Try.isAgg22
  z24 := Try.sizeOf22
  t25 := Try.underlying69
  a25 := Try.isAgg69
  z25 := Try.sizeOf69
  v25 := Try.zeroValue69
  t39 := Try.underlying52
  a39 := Try.isAgg52
  z39 := Try.sizeOf52
  v39 := Try.zeroValue52
  t45 := Try.underlying75
  a45 := Try.isAgg75
  z45 := Try.sizeOf75
  v45 := Try.zeroValue75
  t46 := Try.underlying76
  a46 := Try.isAgg76
  z46 := Try.sizeOf76
  v46 := Try.zeroValue76
  t50 := Try.underlying59
  a50 := Try.isAgg59
  z50 := Try.sizeOf59
  v50 := Try.zeroValue59
  t53 := Try.underlying82
  a53 := Try.isAgg82
  z53 := Try.sizeOf82
  v53 := Try.zeroValue82
  t55 := Try.underlying84
  a55 := Try.isAgg84
  z55 := Try.sizeOf84
  v55 := Try.zeroValue84
  t66 := Try.underlying86
  a66 := Try.isAgg86
  z66 := Try.sizeOf86
  v66 := Try.zeroValue86
  t70 := Try.underlying90
  a70 := Try.isAgg90
  z70 := Try.sizeOf90
  v70 := Try.zeroValue90
  t76 := Try.underlying92
  a76 := Try.isAgg92
  z76 := Try.sizeOf92
  v76 := Try.zeroValue92
  t77 := Try.underlying93
  a77 := Try.isAgg93
  z77 := Try.sizeOf93
  v77 := Try.zeroValue93 }
end Go.Proofs.Ytggkhieepjnmdaa

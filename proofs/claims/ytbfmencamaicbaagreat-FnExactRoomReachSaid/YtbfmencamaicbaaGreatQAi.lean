/- append of one number at a step of a region that draws; append of a whole list of numbers (nil or not) at a step of a region that draws; A slice of slices of the call's own that grows by append; its rows lie in other blocks, and are read, or are of the call's own too; The field with some clients alone: reference and program. No condition. -/
import Derived.Test.YtbfmencamaicbaaGreatQAb
import Derived.Deep.AppendLies
import Derived.Deep.RegionHeld3
import Derived.WalkSpells
import Derived.Lib.AppendZeros
import Derived.Test.YtbfmencamaicbaaGreatQAf
namespace Go.Proofs.YtbfmencamaicbaaGreat
open Go.RowKit

theorem step_app {ops : Array Oper} {o : Oper} {a : Act} {K : Act → World → Prop} {Q : Exit → Act → World → Prop} {E : Prop} {W : World} (hgd : o.guard = none) (s x : Operand)
    (ho : o.op = .call { callee := .builtin .append, args := #[s, x], argTypes := #[22, 22] }) (base : Nat) (v : Value) (xs : List Int) (z : Int) (H : Nat) (hH : W.heap.size = H)
    (hs : a.eval s = v) (hx : a.eval x = .slice (some ⟨H, 0, none⟩) 1 1) (hown : Own W base v xs) (hbase : base ≤ W.heap.size) (hlen : xs.length < 1048576)
    (h : ∀ v' w', Own w' base v' (xs ++ [z]) → Turn (fun i => v.ownBlock = some i) W w' → (v'.ownBlock = v.ownBlock ∨ ∀ g, v'.ownBlock = some g → W.heap.size ≤ g) → K (a.put o.dst v') w') :
    if Region.wanted o (yielded ops a.tmps) = true then Oper.wp Tryz.prog o a (W.alloc (.cells #[.int .i64 z] 3)) K Q else E := by
  subst hH
  obtain ⟨i0, hi, hz0, hz1, hz2⟩ := info_parts infoInt
  have hal : Own (W.alloc (.cells #[.int .i64 z] 3)) base v xs := hown.kp ((Kp.refl W).alloc _)
  refine step_append_lies _ hgd s x 22 ho base 3 i0 (.int .i64 0) 1 8 Tryz.underlying22 hi hz0 hz1 hz2 rfl (by decide) v xs.length (xs.map (Value.int .i64)) hs hal ⟨W.heap.size, 0, none⟩ 1 1 [.int .i64 z] hx rfl ?_ ?_ (by decide) ?_ ?_ ?_ (W.heap.size + 1) (by simp) ?_
  · intro j u hj
    cases j with
    | zero =>
      simp at hj; subst hj
      rw [add0, World.cell?_alloc_at _ _ _ _ rfl]; rfl
    | succ j => simp at hj
  · intro u hu; simp at hu; subst hu; rfl
  · unfold maxLen; omega
  · omega
  · simp; omega
  · intro g cap w' h2 h3 h4 _
    refine h _ w' ?_ ((Turn.of_kp ((Kp.refl W).alloc _)).trans (Turn.of_grown h3)) ?_
    · unfold Own
      rw [List.length_append, List.map_append]
      exact h2
    · rcases h4 with e | e
      · left; rw [e]; rfl
      · refine .inr (fun g' hg => ?_)
        simp [Value.ownBlock] at hg
        omega
theorem keep2 {wv w' : World} {p q : Addr} {a b : Value} (h1 : wv.cell? p = some a) (h2 : wv.cell? q = some b) (h : Kp wv w') : w'.cell? p = some a ∧ w'.cell? q = some b ∧ Kp wv w' := ⟨h.get h1, h.get h2, h⟩
end Go.Proofs.YtbfmencamaicbaaGreat

namespace Go.Proofs.YtbfmencamaicbaaGreat
open Go.RowKit

theorem run_app_all {W : World} (ty : TypeId) (base : Nat) (v : Value) (xs ys : List Int) (A : Option Addr) (m c : Nat)
    (hown : Own W base v xs) (hy : IntsAt W A ys) (hym : ys.length = m) (hbase : base ≤ W.heap.size) (hlen : xs.length + ys.length ≤ 4194304) :
    ∃ v' w', (Builtin.append_ #[22, 22] ty #[v, .slice A m c]).run Tryz.prog W = .ok v' w' ∧ Own w' base v' (xs ++ ys) ∧ W.grownBy w' v.ownBlock ∧ (v'.ownBlock = v.ownBlock ∨ ∀ g, v'.ownBlock = some g → W.heap.size ≤ g) := by
  obtain ⟨i0, hi, hz0, hz1, hz2⟩ := info_parts infoInt
  rcases A with _ | ad
  · have hys : ys = [] := by
      rcases ys with _ | ⟨y, ys⟩
      · rfl
      · obtain ⟨ad, h, _⟩ := hy.at_ (k := 0) (by simp)
        cases h
    subst hys
    obtain rfl : m = 0 := by simpa using hym.symm
    refine ⟨v, W, ?_, by simpa using hown, World.grownBy.refl W _, .inl rfl⟩
    rcases hown.2 with ⟨rfl, hn0⟩ | ⟨g, cap, cur, rfl, _, _, hnc, _⟩
    · simp [Builtin.append_, run_underlying Tryz.underlying22, sizeOf, typeInfo, hi, Builtin.lenOf, Builtin.firstCells]
    · simp [Builtin.append_, run_underlying Tryz.underlying22, sizeOf, typeInfo, hi, Builtin.lenOf, Builtin.firstCells, hnc, storeCells]
  · obtain ⟨v', w', hrun, h2, h3, _, h5⟩ := run_append_own_at (P := Tryz.prog) W base 22 ty 3 i0 (.int .i64 0) 1 8 Tryz.underlying22 hi hz0 hz1 hz2 rfl (by decide) v xs.length (xs.map (Value.int .i64)) hown ad m c (ys.map (Value.int .i64)) (by simp [hym]) (by
      intro j u hj
      by_cases hlt : j < ys.length
      · rw [List.getElem?_map, List.getElem?_eq_getElem hlt] at hj
        have e : u = .int .i64 ys[j] := by simpa using hj.symm
        rw [e]; exact hy.some_ hlt
      · rw [List.getElem?_eq_none (by simpa using hlt)] at hj; cases hj) (ints_oneCell _ _) (by unfold maxLen; omega) (by omega) hbase
    refine ⟨v', w', hrun, ?_, h3, ?_⟩
    · unfold Own
      rw [List.length_append, List.map_append, hym]
      exact h2
    · rcases h5 with e | e
      · exact .inl e
      · exact .inr (fun g hg => by rw [e] at hg; simp at hg; omega)

theorem step_app_all {ops : Array Oper} {o : Oper} {a : Act} {K : Act → World → Prop} {Q : Exit → Act → World → Prop} {E : Prop} {W : World} (hgd : o.guard = none) (s x : Operand)
    (ho : o.op = .call { callee := .builtin .append, args := #[s, x], argTypes := #[22, 22] }) (base : Nat) (v : Value) (xs ys : List Int) (A : Option Addr) (m c : Nat)
    (hs : a.eval s = v) (hx : a.eval x = .slice A m c) (hown : Own W base v xs) (hy : IntsAt W A ys) (hym : ys.length = m) (hbase : base ≤ W.heap.size) (hlen : xs.length + ys.length ≤ 4194304)
    (h : ∀ v' w', Own w' base v' (xs ++ ys) → Turn (fun i => v.ownBlock = some i) W w' → (v'.ownBlock = v.ownBlock ∨ ∀ g, v'.ownBlock = some g → W.heap.size ≤ g) → K (a.put o.dst v') w') :
    if Region.wanted o (yielded ops a.tmps) = true then Oper.wp Tryz.prog o a W K Q else E := by
  have hw : Region.wanted o (yielded ops a.tmps) = true := by simp [Region.wanted, hgd]
  rw [if_pos hw]
  obtain ⟨v', w', hrun, h2, h3, h4⟩ := run_app_all (W := W) o.type base v xs ys A m c hown hy hym hbase hlen
  unfold Oper.wp execOp
  simp only [ho, resolve, invoke, builtin, Sem.run_bind, Sem.run_pure, Result.andThen_ok, List.map_toArray, List.map_cons, List.map_nil, hs, hx, hrun]
  exact h v' w' h2 (Turn.of_grown h3) h4
theorem one_new (W : World) (a : Int) : IntsAt (W.alloc (.cells #[.int .i64 a] 3)) (some ⟨W.heap.size, 0, none⟩) [a] :=
  ⟨by simp, fun k hk => by
    obtain rfl : k = 0 := by simpa using hk
    refine ⟨_, rfl, ?_⟩
    rw [add0, World.cell?_alloc_at _ _ _ _ rfl]; rfl⟩
theorem one_turn {T : Nat → Prop} {W w' : World} {g : Nat} {a : Int} (h : IntsAt W (some ⟨g, 0, none⟩) [a]) (ht : Turn T W w') (hg : ¬ T g) (hlt : g < W.heap.size) : IntsAt w' (some ⟨g, 0, none⟩) [a] :=
  ⟨by simp, fun k hk => by
    obtain rfl : k = 0 := by simpa using hk
    have h0 := h.some_ (k := 0) (by simp)
    refine ⟨_, rfl, ?_⟩
    rw [add0] at h0 ⊢
    rw [World.cell?_of_block (ht.block g hlt hg), h0]; rfl⟩
end Go.Proofs.YtbfmencamaicbaaGreat

namespace Go.Proofs.YtbfmencamaicbaaGreat
open Go.RowKit

theorem infoIntsG : (Tryz.prog.info? 22).map (fun i => (i.zero, i.size, i.bytes)) = some (some (.slice none 0 0), 1, 24) := by kernel_rfl
theorem IntsAt.blk {w : World} {ad : Addr} {xs : List Int} (h : IntsAt w (some ad) xs) (hne : xs ≠ []) : ad.block < w.heap.size := by
  have hp : 0 < xs.length := List.length_pos_iff.2 hne
  have := World.block_lt_of_cell? _ _ (h.some_ hp)
  rwa [blk_add] at this
theorem IntsAt.turn {S : Nat → Prop} {w w' : World} {A : Option Addr} {xs : List Int} (h : IntsAt w A xs) (ht : Turn S w w') (hn : ∀ ad, A = some ad → xs ≠ [] → ¬ S ad.block) : IntsAt w' A xs :=
  ⟨h.1, fun k hk => by
    obtain ⟨ad, e, hc⟩ := h.2 k hk
    have hne : xs ≠ [] := fun e0 => by subst e0; simp at hk
    have hb : ad.block < w.heap.size := by
      have := World.block_lt_of_cell? _ _ hc
      rwa [blk_add] at this
    refine ⟨ad, e, ?_⟩
    have hbk : w'.heap[(ad.add k).block]? = w.heap[(ad.add k).block]? := by rw [blk_add]; exact ht.block _ hb (hn ad e hne)
    rw [World.cell?_of_block hbk]; exact hc⟩
theorem Own.capL {w : World} {base n c : Nat} {v : Value} {A : Option Addr} {xs : List Int} (h : Own w base v xs) (e : v = .slice A n c) : xs.length ≤ c := by
  rcases h.2 with ⟨rfl, h0⟩ | ⟨g, cap, cur, rfl, _, _, h4, _⟩
  · omega
  · simp only [Value.slice.injEq] at e
    omega
/-- A row that is read, and, where lo says from which block on, of the call's own. -/
def RowP (w : World) (lo : Option Nat) (u : Value) (xs : List Int) : Prop :=
  (∃ A c, u = .slice A xs.length c ∧ xs.length ≤ c ∧ IntsAt w A xs) ∧ ∀ b, lo = some b → Own w b u xs
theorem RowP.kp {w w' : World} {lo : Option Nat} {u : Value} {xs : List Int} (h : RowP w lo u xs) (hk : Kp w w') : RowP w' lo u xs := by
  obtain ⟨⟨A, c, e, hl, hi⟩, h2⟩ := h
  exact ⟨⟨A, c, e, hl, hi.kp hk⟩, fun b e => (h2 b e).kp hk⟩
theorem RowP.turn {S : Nat → Prop} {w w' : World} {lo : Option Nat} {u : Value} {xs : List Int} (h : RowP w lo u xs) (ht : Turn S w w') (hn : (xs ≠ [] ∨ lo ≠ none) → ∀ g, u.ownBlock = some g → ¬ S g) : RowP w' lo u xs := by
  obtain ⟨⟨A, c, rfl, hl, hi⟩, h2⟩ := h
  exact ⟨⟨A, c, rfl, hl, hi.turn ht (fun ad e hne => hn (.inl hne) ad.block (by rw [e]; rfl))⟩, fun b e => (h2 b e).turn ht (hn (.inr (by rw [e]; simp)))⟩
theorem RowP.lt {w : World} {lo : Option Nat} {u : Value} {xs : List Int} (h : RowP w lo u xs) (hn : xs ≠ [] ∨ lo ≠ none) : ∀ g, u.ownBlock = some g → g < w.heap.size := by
  obtain ⟨⟨A, c, rfl, hl, hi⟩, h2⟩ := h
  intro g hg
  rcases hn with hne | hlo
  · cases A with
    | none => cases hg
    | some ad =>
      have e : ad.block = g := by simpa [Value.ownBlock] using hg
      exact e ▸ hi.blk hne
  · cases lo with
    | none => exact absurd rfl hlo
    | some b => exact ((h2 b rfl).lt g hg).2
theorem RowP.of_own {w : World} {b : Nat} {u : Value} {xs : List Int} (h : Own w b u xs) (hl : xs.length ≤ 9223372036854775807) : RowP w (some b) u xs := by
  obtain ⟨A, c, e, hi⟩ := h.ints hl
  refine ⟨⟨A, c, e, h.capL e, hi⟩, fun b' e' => ?_⟩
  cases e'; exact h
theorem RowP.of_ints {w : World} {A : Option Addr} {xs : List Int} {c : Nat} (h : IntsAt w A xs) (hc : xs.length ≤ c) : RowP w none (.slice A xs.length c) xs :=
  ⟨⟨A, c, rfl, hc, h⟩, fun _ e => by cases e⟩
theorem RowP.mono {w : World} {b b' : Nat} {u : Value} {xs : List Int} (h : RowP w (some b) u xs) (hb : b' ≤ b) : RowP w (some b') u xs :=
  ⟨h.1, fun c e => by cases e; exact (h.2 b rfl).mono hb⟩
theorem RowP.read {w : World} {lo : Option Nat} {u : Value} {xs : List Int} (h : RowP w lo u xs) : ∃ A c, u = .slice A xs.length c ∧ xs.length ≤ c ∧ IntsAt w A xs := h.1
theorem RowP.one {w : World} {lo : Option Nat} {u : Value} {xs : List Int} (h : RowP w lo u xs) : u.oneCell' = true := by
  obtain ⟨⟨A, c, rfl, _⟩, _⟩ := h; rfl
/-- A slice of slices of the call's own; row j reads as rows[j] and does not lie in the outer block. -/
def GOwn (w : World) (lo : Option Nat) (base : Nat) (v : Value) (rows : List (List Int)) : Prop :=
  ∃ hs : List Value, w.ownsRow base 22 1 v rows.length hs ∧
    ∀ j (hj : j < rows.length), ∃ u, hs[j]? = some u ∧ RowP w lo u rows[j] ∧ ((rows[j] ≠ [] ∨ lo ≠ none) → ∀ g, u.ownBlock = some g → v.ownBlock ≠ some g)
theorem GOwn.kp {w w' : World} {lo : Option Nat} {base : Nat} {v : Value} {rows : List (List Int)} (h : GOwn w lo base v rows) (hk : Kp w w') : GOwn w' lo base v rows := by
  obtain ⟨hs, h1, h2⟩ := h
  exact ⟨hs, hk.own h1, fun j hj => by obtain ⟨u, e1, e2, e3⟩ := h2 j hj; exact ⟨u, e1, e2.kp hk, e3⟩⟩
theorem GOwn.nil (w : World) (lo : Option Nat) (base : Nat) : GOwn w lo base (.slice none 0 0) [] := ⟨[], World.ownsRow_nil _ _ _ _, fun j hj => by simp at hj⟩
theorem gown_new (w : World) (lo : Option Nat) (base : Nat) (hb : base ≤ w.heap.size) : GOwn (w.alloc (.cells #[] 22)) lo base (.slice (some ⟨w.heap.size, 0, none⟩) 0 0) [] :=
  ⟨[], World.ownsRow_lit w #[] 0 hb (by unfold maxLen; omega) (by simp), fun j hj => by simp at hj⟩
theorem GOwn.lt {w : World} {lo : Option Nat} {base : Nat} {v : Value} {rows : List (List Int)} (h : GOwn w lo base v rows) : ∀ k, v.ownBlock = some k → base ≤ k ∧ k < w.heap.size := by
  obtain ⟨hs, h1, _⟩ := h
  exact World.ownsRow.lt h1
theorem GOwn.mono {w : World} {lo : Option Nat} {base base' : Nat} {v : Value} {rows : List (List Int)} (h : GOwn w lo base v rows) (hb : base' ≤ base) : GOwn w lo base' v rows := by
  obtain ⟨hs, h1, h2⟩ := h
  refine ⟨hs, ⟨h1.1, ?_⟩, h2⟩
  rcases h1.2 with h | ⟨g, cap, cur, e, h3, h4⟩
  · exact .inl h
  · exact .inr ⟨g, cap, cur, e, Nat.le_trans hb h3, h4⟩
theorem GOwn.kp_turn {a w w' : World} {lo : Option Nat} {base : Nat} {v : Value} {rows : List (List Int)} (h : GOwn w lo base v rows) (hk : Kp a w) (hb : a.heap.size ≤ base) (ht : Turn (fun i => v.ownBlock = some i) w w') : Kp a w' :=
  hk.turn ht (fun i hi => Nat.le_trans hb (h.lt i hi).1)
theorem GOwn.drew {w : World} {lo : Option Nat} {base : Nat} {v : Value} {rows : List (List Int)} (h : GOwn w lo base v rows) : GOwn w.drew lo base v rows := h.kp (Kp.refl w).drew
theorem GOwn.one_kp {w : World} {lo : Option Nat} {base : Nat} {v : Value} {rows : List (List Int)} {o : Obj} (h : GOwn w lo base v rows) : GOwn (w.alloc o) lo base v rows := h.kp ((Kp.refl w).alloc o)
theorem GOwn.not_nil {w : World} {lo : Option Nat} {base : Nat} {v : Value} {rows : List (List Int)} (h : GOwn w lo base v rows) (hr : rows ≠ []) : v ≠ .slice none 0 0 := by
  rintro rfl
  obtain ⟨hs, h1, _⟩ := h
  rcases h1.2 with ⟨_, e⟩ | ⟨g, cap, cur, e, _⟩
  · exact hr (List.eq_nil_of_length_eq_zero e)
  · cases e

/-- The slice of this address reads as these rows. -/
def RowsAt (w : World) (lo : Option Nat) (A : Option Addr) (rows : List (List Int)) : Prop :=
  rows.length ≤ 9223372036854775807 ∧ ∀ k (_ : k < rows.length), ∃ ad u, A = some ad ∧ w.cell? (ad.add k) = some u ∧ RowP w lo u rows[k]
theorem RowsAt.kp {w w' : World} {lo : Option Nat} {A : Option Addr} {rows : List (List Int)} (h : RowsAt w lo A rows) (hk : Kp w w') : RowsAt w' lo A rows :=
  ⟨h.1, fun k hlt => by obtain ⟨ad, u, e, hc, hi⟩ := h.2 k hlt; exact ⟨ad, u, e, hk.get hc, hi.kp hk⟩⟩
theorem RowsAt.at_ {w : World} {lo : Option Nat} {A : Option Addr} {rows : List (List Int)} (h : RowsAt w lo A rows) {k : Nat} (hk : k < rows.length) : ∃ ad A2 c, A = some ad ∧ w.cell? (ad.add k) = some (.slice A2 rows[k].length c) ∧ rows[k].length ≤ c ∧ IntsAt w A2 rows[k] ∧ RowP w lo (.slice A2 rows[k].length c) rows[k] := by
  obtain ⟨ad, u, e, hc, hp⟩ := h.2 k hk
  obtain ⟨A2, c, rfl, h2, h3⟩ := hp.read
  exact ⟨ad, A2, c, e, hc, h2, h3, hp⟩
theorem RowsAt.some_ {w : World} {lo : Option Nat} {ad : Addr} {rows : List (List Int)} (h : RowsAt w lo (some ad) rows) {k : Nat} (hk : k < rows.length) : ∃ A2 c, w.cell? (ad.add k) = some (.slice A2 rows[k].length c) ∧ rows[k].length ≤ c ∧ IntsAt w A2 rows[k] ∧ RowP w lo (.slice A2 rows[k].length c) rows[k] := by
  obtain ⟨ad', A2, c, e, h1⟩ := h.at_ hk
  cases e; exact ⟨A2, c, h1⟩
theorem RowsAt.nil (w : World) (lo : Option Nat) (A : Option Addr) : RowsAt w lo A [] := ⟨by simp, fun k hk => absurd hk (by simp)⟩
theorem RowsAt.grid {w : World} {lo : Option Nat} {A : Option Addr} {rows : List (List Int)} (h : RowsAt w lo A rows) : GridAt w A rows :=
  ⟨h.1, fun k hk => by
    obtain ⟨ad, A2, c, e, hc, _, hi, _⟩ := h.at_ hk
    have e2 : rows.getD k [] = rows[k] := by simp [List.getD, hk]
    rw [e2]
    exact ⟨ad, A2, c, e, hc, hi⟩⟩
theorem RowsAt.take {w : World} {lo : Option Nat} {ad : Addr} {rows : List (List Int)} (h : RowsAt w lo (some ad) rows) (k : Nat) : RowsAt w lo (some ad) (rows.take k) :=
  ⟨Nat.le_trans (by simp; omega) h.1, fun j hj => by
    have h1 : j < rows.length := by simp at hj; omega
    obtain ⟨A2, c, e1, _, _, e3⟩ := h.some_ h1
    have e : (rows.take k)[j] = rows[j] := List.getElem_take
    rw [e]
    exact ⟨ad, _, rfl, e1, e3⟩⟩
theorem add_add (ad : Addr) (k j : Nat) : (ad.add k).add j = ad.add (k + j) := by
  unfold Addr.add
  by_cases hk : k = 0 <;> by_cases hj0 : j = 0 <;> simp [hk, hj0, Nat.add_assoc]
theorem RowsAt.drop {w : World} {lo : Option Nat} {ad : Addr} {rows : List (List Int)} (h : RowsAt w lo (some ad) rows) (k : Nat) : RowsAt w lo (some (ad.add k)) (rows.drop k) :=
  ⟨Nat.le_trans (by simp) h.1, fun j hj => by
    have h1 : k + j < rows.length := by simp at hj; omega
    obtain ⟨A2, c, e1, _, _, e3⟩ := h.some_ h1
    have e : (rows.drop k)[j] = rows[k + j] := List.getElem_drop
    rw [e]
    exact ⟨ad.add k, _, rfl, by rw [add_add]; exact e1, e3⟩⟩
theorem RowsAt.tail {w : World} {lo : Option Nat} {ad : Addr} {rows : List (List Int)} {c : Nat} (h : RowsAt w lo (some ad) rows) (hc : rows.length ≤ c) (k : Nat) : RowsAt w lo (if c = k then some ad else some (ad.add k)) (rows.drop k) := by
  by_cases e : c = k
  · rw [if_pos e, List.drop_eq_nil_of_le (by omega)]; exact RowsAt.nil _ _ _
  · rw [if_neg e]; exact h.drop k
theorem GOwn.rows {w : World} {lo : Option Nat} {base : Nat} {v : Value} {rows : List (List Int)} (h : GOwn w lo base v rows) (hl : rows.length ≤ 9223372036854775807) : ∃ A c, v = .slice A rows.length c ∧ rows.length ≤ c ∧ RowsAt w lo A rows := by
  obtain ⟨hs, h1, h2⟩ := h
  rcases id h1.2 with ⟨rfl, h0⟩ | ⟨g, cap, cur, rfl, _, _, hn, _⟩
  · have : rows = [] := List.eq_nil_of_length_eq_zero h0
    subst this
    exact ⟨none, 0, rfl, by simp, RowsAt.nil _ _ _⟩
  · refine ⟨_, cap, rfl, hn, hl, fun k hk => ?_⟩
    obtain ⟨u, e1, e2, _⟩ := h2 k hk
    exact ⟨_, u, rfl, World.ownsRow.cells h1 (g := g) rfl k _ e1, e2⟩
theorem GOwn.rows_some {w : World} {lo : Option Nat} {base : Nat} {v : Value} {rows : List (List Int)} (h : GOwn w lo base v rows) (hl : rows.length ≤ 9223372036854775807) (hv : v ≠ .slice none 0 0) : ∃ ad c, v = .slice (some ad) rows.length c ∧ rows.length ≤ c ∧ RowsAt w lo (some ad) rows := by
  obtain ⟨A, c, rfl, h2, h3⟩ := h.rows hl
  obtain ⟨hs, h1, _⟩ := h
  rcases h1.2 with ⟨e, _⟩ | ⟨g, cap, cur, e, _⟩
  · exact absurd e hv
  · simp only [Value.slice.injEq] at e
    obtain ⟨rfl, _, _⟩ := e
    exact ⟨_, c, rfl, h2, h3⟩
theorem GOwn.shape {w : World} {lo : Option Nat} {base : Nat} {v : Value} {rows : List (List Int)} (h : GOwn w lo base v rows) : ∃ A c, v = .slice A rows.length c := by
  obtain ⟨hs, h1, _⟩ := h
  rcases h1.2 with ⟨rfl, h0⟩ | ⟨g, cap, cur, e, _⟩
  · exact ⟨none, 0, by rw [h0]⟩
  · exact ⟨_, cap, e⟩
/-- What is read in a world that the call found lies apart from what has been made since. -/
theorem apart_old {w0 w : World} {lo : Option Nat} {base : Nat} {v u : Value} {rows : List (List Int)} {xs : List Int} (h : RowP w0 lo u xs) (hv : GOwn w lo base v rows) (hb : w0.heap.size ≤ base) : (xs ≠ [] ∨ lo ≠ none) → ∀ g, u.ownBlock = some g → v.ownBlock ≠ some g := by
  intro hn g hg hv2
  have := h.lt hn g hg
  have := (hv.lt _ hv2).1
  omega
theorem run_appg_all {W0 W : World} (ty : TypeId) {lo : Option Nat} (base : Nat) (v : Value) (rows rows2 : List (List Int)) (A : Option Addr) (m c : Nat)
    (hown : GOwn W lo base v rows) (hy : RowsAt W0 lo A rows2) (hk : Kp W0 W) (hap0 : ∀ k (hk : k < rows2.length) (ad : Addr) (u : Value), A = some ad → W0.cell? (ad.add k) = some u → RowP W0 lo u rows2[k] → (rows2[k] ≠ [] ∨ lo ≠ none) → ∀ g, u.ownBlock = some g → v.ownBlock ≠ some g) (hym : rows2.length = m) (hbase : base ≤ W.heap.size) (hlen : rows.length + rows2.length ≤ 4194304) :
    ∃ v' w', (Builtin.append_ #[23, 23] ty #[v, .slice A m c]).run Tryz.prog W = .ok v' w' ∧ GOwn w' lo base v' (rows ++ rows2) ∧ W.grownBy w' v.ownBlock ∧ (v'.ownBlock = v.ownBlock ∨ ∀ g, v'.ownBlock = some g → W.heap.size ≤ g) := by
  obtain ⟨i0, hi, hz0, hz1, hz2⟩ := info_parts infoIntsG
  rcases A with _ | ad
  · have hys : rows2 = [] := by
      rcases rows2 with _ | ⟨y, ys⟩
      · rfl
      · obtain ⟨ad, _, h, _⟩ := hy.2 0 (by simp)
        cases h
    subst hys
    obtain rfl : m = 0 := by simpa using hym.symm
    refine ⟨v, W, ?_, by simpa using hown, World.grownBy.refl W _, .inl rfl⟩
    obtain ⟨hs, h1, _⟩ := hown
    rcases h1.2 with ⟨rfl, hn0⟩ | ⟨g, cap, cur, rfl, _, _, hnc, _⟩
    · simp [Builtin.append_, run_underlying Tryz.underlying23, sizeOf, typeInfo, hi, Builtin.lenOf, Builtin.firstCells]
    · simp [Builtin.append_, run_underlying Tryz.underlying23, sizeOf, typeInfo, hi, Builtin.lenOf, Builtin.firstCells, hnc, storeCells]
  · have hown0 := hown
    obtain ⟨hs, h1, h2⟩ := hown
    have hlt : hs.length = rows.length := by rw [h1.1]; omega
    obtain ⟨hs2, hs2d⟩ : ∃ hs2 : List Value, hs2 = (List.range m).map (fun j => (W.cell? (ad.add j)).getD (.slice none 0 0)) := ⟨_, rfl⟩
    have hs2l : hs2.length = m := by simp [hs2d]
    have hs2a : ∀ j (hj : j < rows2.length), ∃ u, hs2[j]? = some u ∧ W0.cell? (ad.add j) = some u ∧ RowP W0 lo u rows2[j] := fun j hj => by
      obtain ⟨ad', u, e0, e1, e2⟩ := hy.2 j hj
      cases e0
      refine ⟨u, ?_, e1, e2⟩
      rw [hs2d]
      simp [show j < m by omega, hk.get e1]
    obtain ⟨v', w', hrun, g2, g3, _, g5⟩ := run_append_own_at (P := Tryz.prog) W base 23 ty 22 i0 (.slice none 0 0) 1 24 Tryz.underlying23 hi hz0 hz1 hz2 rfl (by decide) v rows.length hs h1 ad m c hs2 (by rw [hs2l]; omega) (by
        intro j u hj
        by_cases hlt : j < rows2.length
        · obtain ⟨u2, e1, e2, _⟩ := hs2a j hlt
          rw [e1] at hj
          have e : u2 = u := by simpa using hj
          rw [← e]; exact hk.get e2
        · rw [List.getElem?_eq_none (by omega)] at hj; cases hj) (by
        intro u hu
        obtain ⟨j, hj, rfl⟩ := List.getElem_of_mem hu
        obtain ⟨u2, e1, _, e3⟩ := hs2a j (by omega)
        rw [List.getElem?_eq_getElem hj] at e1
        have e : hs2[j] = u2 := by simpa using e1
        rw [e]; exact e3.one) (by unfold maxLen; omega) (by omega) hbase
    have ht := Turn.of_grown g3
    have h5 : v'.ownBlock = v.ownBlock ∨ ∀ g, v'.ownBlock = some g → W.heap.size ≤ g := by
      rcases g5 with e | e
      · exact .inl e
      · exact .inr (fun g hg => by rw [e] at hg; simp at hg; omega)
    have hnew : ∀ (u : Value) (xs : List Int), RowP W lo u xs → (xs ≠ [] ∨ lo ≠ none) → (∀ g, u.ownBlock = some g → v.ownBlock ≠ some g) → ∀ g, u.ownBlock = some g → v'.ownBlock ≠ some g := by
      intro u xs hx hn hv g hg e
      rcases h5 with h | h
      · rw [h] at e; exact hv g hg e
      · have := h _ e
        have := hx.lt hn g hg
        omega
    refine ⟨v', w', hrun, ⟨hs ++ hs2, ?_, fun j hj => ?_⟩, g3, h5⟩
    · rw [List.length_append, hym]; exact g2
    · rw [List.length_append] at hj
      by_cases hjl : j < rows.length
      · obtain ⟨u, e1, e2, e3⟩ := h2 j hjl
        have e : (rows ++ rows2)[j] = rows[j] := List.getElem_append_left hjl
        rw [e]
        exact ⟨u, by rw [List.getElem?_append_left (by omega)]; exact e1, e2.turn ht (fun hn g hg hh => e3 hn g hg hh), fun hn => hnew u _ e2 hn (e3 hn)⟩
      · have hj2 : j - rows.length < rows2.length := by omega
        obtain ⟨u, e1, e0, e3⟩ := hs2a _ hj2
        have e : (rows ++ rows2)[j] = rows2[j - rows.length] := List.getElem_append_right (by omega)
        rw [e]
        have hap := hap0 _ hj2 ad u rfl e0 e3
        exact ⟨u, by rw [List.getElem?_append_right (by omega), hlt]; exact e1, (e3.kp hk).turn ht (fun hn g hg hh => hap hn g hg hh), fun hn => hnew u _ (e3.kp hk) hn (hap hn)⟩
/-- The header of a slice stands in a block of one cell. -/
theorem RowsAt.one {W : World} {lo : Option Nat} {ad : Addr} {u : Value} {xs : List Int} (h : RowP W lo u xs) (hc : W.cell? ad = some u) : RowsAt W lo (some ad) [xs] :=
  ⟨by simp, fun k hk => by
    obtain rfl : k = 0 := by simpa using hk
    have e : ad.add 0 = ad := by unfold Addr.add; simp
    exact ⟨ad, u, rfl, by rw [e]; exact hc, h⟩⟩
theorem run_appg {W : World} (ty : TypeId) {lo : Option Nat} (base : Nat) (v : Value) (rows : List (List Int)) (r : List Int) (u : Value) (ad : Addr) (m' c' : Nat)
    (hown : GOwn W lo base v rows) (hr : RowP W lo u r) (hcell : W.cell? ad = some u) (hm : m' = 1) (hap : (r ≠ [] ∨ lo ≠ none) → ∀ g, u.ownBlock = some g → v.ownBlock ≠ some g) (hbase : base ≤ W.heap.size) (hlen : rows.length < 1048576) :
    ∃ v' w', (Builtin.append_ #[23, 23] ty #[v, .slice (some ad) m' c']).run Tryz.prog W = .ok v' w' ∧ GOwn w' lo base v' (rows ++ [r]) ∧ W.grownBy w' v.ownBlock ∧ (v'.ownBlock = v.ownBlock ∨ ∀ g, v'.ownBlock = some g → W.heap.size ≤ g) := by
  subst hm
  refine run_appg_all ty base v rows [r] (some ad) 1 c' hown (RowsAt.one hr hcell) (Kp.refl W) (fun k hk ad2 u2 e1 e2 hu2 hn g hg => ?_) rfl hbase (by simp; omega)
  obtain rfl : k = 0 := by simpa using hk
  cases e1
  have e : ad.add 0 = ad := by unfold Addr.add; simp
  rw [e, hcell] at e2
  cases e2
  exact hap hn g hg
/-- append of one row, in a plain region: the row's header stands in a new block of one cell. -/
theorem wpl_appg {ops : Array Oper} {rest : List Oper} {o : Oper} {a : Act} {Q : Exit → Act → World → Prop} {W : World} (hgd : o.guard = none) (s x : Operand)
    (ho : o.op = .call { callee := .builtin .append, args := #[s, x], argTypes := #[23, 23] }) {lo : Option Nat} (base : Nat) (v : Value) (rows : List (List Int)) (r : List Int) (u : Value)
    (hs : a.eval s = v) (hx : a.eval x = .slice (some ⟨W.heap.size, 0, none⟩) 1 1) (hown : GOwn W lo base v rows) (hr : RowP W lo u r) (hap : (r ≠ [] ∨ lo ≠ none) → ∀ g, u.ownBlock = some g → v.ownBlock ≠ some g) (hbase : base ≤ W.heap.size) (hlen : rows.length < 1048576)
    (h : ∀ v' w', GOwn w' lo base v' (rows ++ [r]) → Turn (fun i => v.ownBlock = some i) W w' → (v'.ownBlock = v.ownBlock ∨ ∀ g, v'.ownBlock = some g → W.heap.size ≤ g) → wpList Tryz.prog ops Q rest (a.put o.dst v') w') :
    wpList Tryz.prog ops Q (o :: rest) a (W.alloc (.cells #[u] 22)) := by
  have hk : Kp W (W.alloc (.cells #[u] 22)) := (Kp.refl W).alloc _
  obtain ⟨v', w', hrun, h2, h3, h4⟩ := run_appg (W := W.alloc (.cells #[u] 22)) o.type base v rows r u ⟨W.heap.size, 0, none⟩ 1 1 (hown.kp hk) (hr.kp hk) (by rw [World.cell?_alloc_at _ _ _ _ rfl]; rfl) rfl hap (by simp; omega) hlen
  refine Lib.wpList_append_run _ hgd s x _ _ ho _ _ hs hx v' w' hrun (h v' w' h2 ((Turn.of_kp hk).trans (Turn.of_grown h3)) ?_)
  rcases h4 with e | e
  · exact .inl e
  · exact .inr (fun g hg => by have := e g hg; simp at this; omega)
theorem step_appg {ops : Array Oper} {o : Oper} {a : Act} {K : Act → World → Prop} {Q : Exit → Act → World → Prop} {E : Prop} {W : World} (hgd : o.guard = none) (s x : Operand)
    (ho : o.op = .call { callee := .builtin .append, args := #[s, x], argTypes := #[23, 23] }) {lo : Option Nat} (base : Nat) (v : Value) (rows : List (List Int)) (r : List Int) (u : Value) (ad : Addr)
    (hs : a.eval s = v) (hx : a.eval x = .slice (some ad) 1 1) (hown : GOwn W lo base v rows) (hr : RowP W lo u r) (hcell : W.cell? ad = some u) (hap : (r ≠ [] ∨ lo ≠ none) → ∀ g, u.ownBlock = some g → v.ownBlock ≠ some g) (hbase : base ≤ W.heap.size) (hlen : rows.length < 1048576)
    (h : ∀ v' w', GOwn w' lo base v' (rows ++ [r]) → Turn (fun i => v.ownBlock = some i) W w' → (v'.ownBlock = v.ownBlock ∨ ∀ g, v'.ownBlock = some g → W.heap.size ≤ g) → K (a.put o.dst v') w') :
    if Region.wanted o (yielded ops a.tmps) = true then Oper.wp Tryz.prog o a W K Q else E := by
  have hw : Region.wanted o (yielded ops a.tmps) = true := by simp [Region.wanted, hgd]
  rw [if_pos hw]
  obtain ⟨v', w', hrun, h2, h3, h4⟩ := run_appg (W := W) o.type base v rows r u ad 1 1 hown hr hcell rfl hap hbase hlen
  unfold Oper.wp execOp
  simp only [ho, resolve, invoke, builtin, Sem.run_bind, Sem.run_pure, Result.andThen_ok, List.map_toArray, List.map_cons, List.map_nil, hs, hx, hrun]
  exact h v' w' h2 (Turn.of_grown h3) h4
theorem step_appg_all {ops : Array Oper} {o : Oper} {a : Act} {K : Act → World → Prop} {Q : Exit → Act → World → Prop} {E : Prop} {W0 W : World} (hgd : o.guard = none) (s x : Operand)
    (ho : o.op = .call { callee := .builtin .append, args := #[s, x], argTypes := #[23, 23] }) {lo : Option Nat} (base : Nat) (v : Value) (rows rows2 : List (List Int)) (A : Option Addr) (m c : Nat)
    (hs : a.eval s = v) (hx : a.eval x = .slice A m c) (hown : GOwn W lo base v rows) (hy : RowsAt W0 lo A rows2) (hk : Kp W0 W) (hb0 : W0.heap.size ≤ base) (hym : rows2.length = m) (hbase : base ≤ W.heap.size) (hlen : rows.length + rows2.length ≤ 4194304)
    (h : ∀ v' w', GOwn w' lo base v' (rows ++ rows2) → Turn (fun i => v.ownBlock = some i) W w' → (v'.ownBlock = v.ownBlock ∨ ∀ g, v'.ownBlock = some g → W.heap.size ≤ g) → K (a.put o.dst v') w') :
    if Region.wanted o (yielded ops a.tmps) = true then Oper.wp Tryz.prog o a W K Q else E := by
  have hw : Region.wanted o (yielded ops a.tmps) = true := by simp [Region.wanted, hgd]
  rw [if_pos hw]
  obtain ⟨v', w', hrun, h2, h3, h4⟩ := run_appg_all (W := W) o.type base v rows rows2 A m c hown hy hk (fun k _ _ _ _ _ hu => apart_old hu hown hb0) hym hbase hlen
  unfold Oper.wp execOp
  simp only [ho, resolve, invoke, builtin, Sem.run_bind, Sem.run_pure, Result.andThen_ok, List.map_toArray, List.map_cons, List.map_nil, hs, hx, hrun]
  exact h v' w' h2 (Turn.of_grown h3) h4
/-- append of all rows in a plain region; the rows lie apart. -/
theorem wpl_appg_all {ops : Array Oper} {rest : List Oper} {o : Oper} {a : Act} {Q : Exit → Act → World → Prop} {W : World} (hgd : o.guard = none) (s x : Operand)
    (ho : o.op = .call { callee := .builtin .append, args := #[s, x], argTypes := #[23, 23] }) {lo : Option Nat} (base : Nat) (v : Value) (rows rows2 : List (List Int)) (A : Option Addr) (m c : Nat)
    (hs : a.eval s = v) (hx : a.eval x = .slice A m c) (hown : GOwn W lo base v rows) (hy : RowsAt W lo A rows2) (hap0 : ∀ k (hk : k < rows2.length) (ad : Addr) (u : Value), A = some ad → W.cell? (ad.add k) = some u → RowP W lo u rows2[k] → (rows2[k] ≠ [] ∨ lo ≠ none) → ∀ g, u.ownBlock = some g → v.ownBlock ≠ some g) (hym : rows2.length = m) (hbase : base ≤ W.heap.size) (hlen : rows.length + rows2.length ≤ 4194304)
    (h : ∀ v' w', GOwn w' lo base v' (rows ++ rows2) → Turn (fun i => v.ownBlock = some i) W w' → (v'.ownBlock = v.ownBlock ∨ ∀ g, v'.ownBlock = some g → W.heap.size ≤ g) → wpList Tryz.prog ops Q rest (a.put o.dst v') w') :
    wpList Tryz.prog ops Q (o :: rest) a W := by
  obtain ⟨v', w', hrun, h2, h3, h4⟩ := run_appg_all (W := W) o.type base v rows rows2 A m c hown hy (Kp.refl W) hap0 hym hbase hlen
  exact Lib.wpList_append_run _ hgd s x _ _ ho _ _ hs hx v' w' hrun (h v' w' h2 (Turn.of_grown h3) h4)
end Go.Proofs.YtbfmencamaicbaaGreat

namespace Go.Proofs.YtbfmencamaicbaaGreat
open Go.RowKit Go.Sort

def partF (F : Fld) (C : List Int) : Fld := ⟨F.op, C.map fun i => F.di.getD i.toNat []⟩
/-- A set of clients. -/
def crowdB (F : Fld) (C : List Int) : Bool := risB C 0 ((F.di.length : Int) - 1)
theorem crowd_mem {F : Fld} {C : List Int} (h : crowdB F C = true) : ∀ x ∈ C, 0 ≤ x ∧ x < F.di.length := fun x hx => by
  have := (ris_iff.1 h).2 x hx
  omega
theorem crowd_len {F : Fld} {C : List Int} (h : crowdB F C = true) : C.length ≤ F.di.length := by
  have hr := ris_iff.1 h
  have hm := crowd_mem h
  have := bitsL_len F.di.length (bagN C)
  rwa [bits_bag hr.1 hm] at this
theorem part_good {F : Fld} {C : List Int} (hg : goodF F = true) (hc : crowdB F C = true) : goodF (partF F C) = true := by
  have hp := goodF_iff.1 hg
  have hl := crowd_len hc
  refine goodF_iff.2 ⟨hp.1, hp.2.1, by simp [partF]; omega, fun r hr => ?_⟩
  simp only [partF, List.mem_map] at hr
  obtain ⟨i, hi, rfl⟩ := hr
  have hm := crowd_mem hc i hi
  have hk : i.toNat < F.di.length := by omega
  have e : F.di.getD i.toNat [] = F.di[i.toNat] := by simp [List.getD, hk]
  rw [e]
  exact hp.2.2.2 _ (List.getElem_mem hk)
/-- What stands in a cell. -/
def cvAt (p : Addr) (w : World) : Value := (w.cell? p).getD (.slice none 0 0)
theorem cv_of {p : Addr} {w : World} {u : Value} (h : w.cell? p = some u) : cvAt p w = u := by simp [cvAt, h]
theorem cv_is {p : Addr} {w : World} {u : Value} (h : w.cell? p = some u) : w.cell? p = some (cvAt p w) := by rw [cv_of h]; exact h
theorem run_appv {W : World} (ty : TypeId) (base : Nat) (v : Value) (n : Nat) (hs : List Value) (u : Value) (ad : Addr)
    (h1 : W.ownsRow base 22 1 v n hs) (hu : u.oneCell' = true) (hcell : W.cell? ad = some u) (hbase : base ≤ W.heap.size) (hlen : n < 1048576) :
    ∃ v' w', (Builtin.append_ #[23, 23] ty #[v, .slice (some ad) 1 1]).run Tryz.prog W = .ok v' w' ∧ w'.ownsRow base 22 1 v' (n + 1) (hs ++ [u]) ∧ W.grownBy w' v.ownBlock ∧ (v'.ownBlock = v.ownBlock ∨ ∀ g, v'.ownBlock = some g → W.heap.size ≤ g) ∧ v'.oneCell' = true := by
  obtain ⟨i0, hi, hz0, hz1, hz2⟩ := info_parts infoIntsG
  obtain ⟨v', w', hrun, g2, g3, _, g5⟩ := run_append_own_at (P := Tryz.prog) W base 23 ty 22 i0 (.slice none 0 0) 1 24 Tryz.underlying23 hi hz0 hz1 hz2 rfl (by decide) v n hs h1 ad 1 1 [u] rfl (by
      intro j u2 hj
      cases j with
      | zero =>
        have e : u = u2 := by simpa using hj
        have e2 : ad.add 0 = ad := by unfold Addr.add; simp
        rw [e2, ← e]; exact hcell
      | succ j => simp at hj) (by
      intro u2 hu2
      have e : u2 = u := by simpa using hu2
      rw [e]; exact hu) (by unfold maxLen; omega) (by omega) hbase
  refine ⟨v', w', hrun, g2, g3, ?_, ?_⟩
  · rcases g5 with e | e
    · exact .inl e
    · exact .inr (fun g hg => by rw [e] at hg; simp at hg; omega)
  · rcases g2.2 with ⟨rfl, _⟩ | ⟨g, cap, cur, rfl, _⟩ <;> rfl
theorem step_appv {ops : Array Oper} {o : Oper} {a : Act} {K : Act → World → Prop} {Q : Exit → Act → World → Prop} {E : Prop} {W : World} (hgd : o.guard = none) (s x : Operand)
    (ho : o.op = .call { callee := .builtin .append, args := #[s, x], argTypes := #[23, 23] }) (base : Nat) (v : Value) (n : Nat) (hs : List Value) (u : Value) (ad : Addr)
    (hsv : a.eval s = v) (hx : a.eval x = .slice (some ad) 1 1) (h1 : W.ownsRow base 22 1 v n hs) (hu : u.oneCell' = true) (hcell : W.cell? ad = some u) (hbase : base ≤ W.heap.size) (hlen : n < 1048576)
    (h : ∀ g' c' w', w'.ownsRow base 22 1 (.slice (some ⟨g', 0, none⟩) (n + 1) c') (n + 1) (hs ++ [u]) → Turn (fun i => v.ownBlock = some i) W w' → (v.ownBlock = some g' ∨ W.heap.size ≤ g') → K (a.put o.dst (.slice (some ⟨g', 0, none⟩) (n + 1) c')) w') :
    if Region.wanted o (yielded ops a.tmps) = true then Oper.wp Tryz.prog o a W K Q else E := by
  have hw : Region.wanted o (yielded ops a.tmps) = true := by simp [Region.wanted, hgd]
  rw [if_pos hw]
  obtain ⟨v', w', hrun, h2, h3, h4, _⟩ := run_appv (W := W) o.type base v n hs u ad h1 hu hcell hbase hlen
  unfold Oper.wp execOp
  simp only [ho, resolve, invoke, builtin, Sem.run_bind, Sem.run_pure, Result.andThen_ok, List.map_toArray, List.map_cons, List.map_nil, hsv, hx, hrun]
  rcases id h2.2 with ⟨_, e0⟩ | ⟨g, cap, cur, rfl, _⟩
  · omega
  · refine h g cap w' h2 (Turn.of_grown h3) ?_
    rcases h4 with e | e
    · exact .inl e.symm
    · exact .inr (e g rfl)
theorem wpl_appv {ops : Array Oper} {rest : List Oper} {o : Oper} {a : Act} {Q : Exit → Act → World → Prop} {W : World} (hgd : o.guard = none) (s x : Operand)
    (ho : o.op = .call { callee := .builtin .append, args := #[s, x], argTypes := #[23, 23] }) (base : Nat) (v : Value) (n : Nat) (hs : List Value) (u : Value)
    (hsv : a.eval s = v) (hx : a.eval x = .slice (some ⟨W.heap.size, 0, none⟩) 1 1) (h1 : W.ownsRow base 22 1 v n hs) (hu : u.oneCell' = true) (hbase : base ≤ W.heap.size) (hlen : n < 1048576)
    (h : ∀ g' c' w', w'.ownsRow base 22 1 (.slice (some ⟨g', 0, none⟩) (n + 1) c') (n + 1) (hs ++ [u]) → Turn (fun i => v.ownBlock = some i) W w' → (v.ownBlock = some g' ∨ W.heap.size ≤ g') → wpList Tryz.prog ops Q rest (a.put o.dst (.slice (some ⟨g', 0, none⟩) (n + 1) c')) w') :
    wpList Tryz.prog ops Q (o :: rest) a (W.alloc (.cells #[u] 22)) := by
  have hk : Kp W (W.alloc (.cells #[u] 22)) := (Kp.refl W).alloc _
  obtain ⟨v', w', hrun, h2, h3, h4, _⟩ := run_appv (W := W.alloc (.cells #[u] 22)) o.type base v n hs u ⟨W.heap.size, 0, none⟩ (hk.own h1) hu (by rw [World.cell?_alloc_at _ _ _ _ rfl]; rfl) (by simp; omega) hlen
  refine Lib.wpList_append_run _ hgd s x _ _ ho _ _ hsv hx v' w' hrun ?_
  rcases id h2.2 with ⟨_, e0⟩ | ⟨g, cap, cur, rfl, _⟩
  · omega
  · refine h g cap w' h2 ((Turn.of_kp hk).trans (Turn.of_grown h3)) ?_
    rcases h4 with e | e
    · exact .inl e.symm
    · exact .inr (by have := e g rfl; simp at this; omega)
/-- The headers of the rows of the clients, as they stand in the field. -/
def hdrs (w : World) (bd : Addr) (C : List Int) (k : Nat) : List Value := (C.take k).map fun i => cvAt (bd.add i.toNat) w
theorem hdrs_succ {w : World} {bd : Addr} {C : List Int} {k : Nat} (hk : k < C.length) : hdrs w bd C (k + 1) = hdrs w bd C k ++ [cvAt (bd.add (C[k]).toNat) w] := by
  unfold hdrs
  rw [List.take_succ_eq_append_getElem hk, List.map_append]; rfl
theorem hdrs_len (w : World) (bd : Addr) (C : List Int) (k : Nat) (hk : k ≤ C.length) : (hdrs w bd C k).length = k := by
  unfold hdrs; rw [List.length_map, List.length_take]; omega
/-- Behind the loop the headers are the new field's rows. -/
theorem hdrs_grid {w0 w : World} {bd : Addr} {F : Fld} {C : List Int} {base : Nat} {v : Value} (hB : C ≠ [] → GridAt w0 (some bd) F.di) (hk : Kp w0 w) (hc : ∀ x ∈ C, 0 ≤ x ∧ x < F.di.length) (hl : C.length ≤ 7) (h : w.ownsRow base 22 1 v C.length (hdrs w0 bd C C.length)) :
    ∃ A c, v = .slice A (partF F C).di.length c ∧ GridAt w A (partF F C).di := by
  have hlen : (partF F C).di.length = C.length := by simp [partF]
  rcases id h.2 with ⟨rfl, h0⟩ | ⟨g, cap, cur, rfl, _⟩
  · exact ⟨none, 0, by rw [hlen, h0], by rw [hlen]; omega, fun k hk => by rw [hlen, h0] at hk; omega⟩
  · refine ⟨_, cap, by rw [hlen], by rw [hlen]; omega, fun k hk2 => ?_⟩
    rw [hlen] at hk2
    have hm := hc _ (List.getElem_mem hk2)
    have hi : (C[k]).toNat < F.di.length := by omega
    obtain ⟨A, c, e1, e2⟩ := (hB (fun e => by subst e; simp at hk2)).some_ hi
    have e3 : (partF F C).di.getD k [] = F.di[(C[k]).toNat] := by simp [partF, List.getD, hk2, hi]
    have e4 : (hdrs w0 bd C C.length)[k]? = some (.slice A F.di[(C[k]).toNat].length c) := by
      unfold hdrs
      simp [hk2, cv_of e1]
    rw [e3]
    exact ⟨_, A, c, rfl, World.ownsRow.cells h (g := g) rfl k _ e4, e2.kp hk⟩
end Go.Proofs.YtbfmencamaicbaaGreat

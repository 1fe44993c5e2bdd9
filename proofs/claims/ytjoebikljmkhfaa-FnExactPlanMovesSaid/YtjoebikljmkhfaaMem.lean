/- Words for memory: a slice that reads as a list of integers, a slice of slices, what is kept when a call only makes new memory. No condition. -/
import Derived.WalkKit
import Derived.BigQuiet
import Derived.Lib.Hide
import Derived.Deep.Draws
import Derived.Deep.OwnRows
import Derived.Lib.QuietBelow
namespace Go.Proofs.Ytjoebikljmkhfaa
open Go.RowKit Go.Sort

theorem ret_bool {a b : Bool} (h : a = b) : Ending.returned (.bool a) = .returned (.bool b) := by rw [h]
theorem ret_int {k : IntKind} {a b : Int} (h : a = b) : Ending.returned (.int k a) = .returned (.int k b) := by rw [h]
theorem add0 (g k : Nat) : (⟨g, 0, none⟩ : Addr).add k = ⟨g, k, none⟩ := by
  unfold Addr.add
  by_cases h : k = 0
  · subst h; rfl
  · simp [h]
theorem blk_add (a : Addr) (n : Nat) : (a.add n).block = a.block := by unfold Addr.add; split <;> rfl

/-- Of what was there nothing has turned. -/
def Kp (w w' : World) : Prop := Below w.heap.size w w'
theorem Kp.refl (w : World) : Kp w w := Below.refl _ _
theorem Kp.trans {a b c : World} (h : Kp a b) (k : Kp b c) : Kp a c := Below.trans h (Below.mono k h.size)
theorem Kp.below {w w' : World} (h : Kp w w') : Below w.heap.size w w' := h
theorem Kp.of {w w' : World} (h : Below w.heap.size w w') : Kp w w' := h
theorem Kp.drewN {a w : World} (h : Kp a w) (n : Nat) : Kp a (w.drewN n) := ⟨h.os, h.tape, h.output, h.size, h.block⟩
theorem Kp.drew {a w : World} (h : Kp a w) : Kp a w.drew := ⟨h.os, h.tape, h.output, h.size, h.block⟩
theorem Kp.alloc {a w : World} (h : Kp a w) (o : Obj) : Kp a (w.alloc o) := Below.alloc h h.size o
theorem Kp.setCell {a w : World} (h : Kp a w) {p : Addr} (hp : a.heap.size ≤ p.block) (u : Value) : Kp a (w.setCell p u) := Below.setCell h hp u
theorem Kp.grown {a w w' : World} {row : Option Nat} (h : Kp a w) (hg : w.grownBy w' row) (hr : ∀ k, row = some k → a.heap.size ≤ k) : Kp a w' := Below.grown h hg h.size hr
theorem Kp.cell {w w' : World} (h : Kp w w') {p : Addr} (hp : p.block < w.heap.size) : w'.cell? p = w.cell? p := Below.cell h hp
theorem Kp.get {w w' : World} (h : Kp w w') {p : Addr} {v : Value} (hp : w.cell? p = some v) : w'.cell? p = some v := by
  rw [h.cell (World.block_lt_of_cell? _ _ hp)]; exact hp
theorem Kp.froz {w w' : World} (h : Kp w w') {p : Addr} {v : Value} (hp : w.cell? p = some v) : w'.frozen? p = w.frozen? p := Below.frozen h (World.block_lt_of_cell? _ _ hp)
theorem Kp.le {w w' : World} (h : Kp w w') : w.heap.size ≤ w'.heap.size := h.size
theorem Kp.row {w w' : World} (h : Kp w w') {b : Nat} {t : TypeId} {n : Nat} {f : Nat → Value} (hr : w.rowIs b t n f) : w'.rowIs b t n f := hr.of_block (h.block b hr.lt)
theorem Kp.own {w w' : World} (h : Kp w w') {base : Nat} {e : TypeId} {size : Nat} {v : Value} {n : Nat} {xs : List Value} (hr : w.ownsRow base e size v n xs) : w'.ownsRow base e size v n xs :=
  hr.kept (row := none) ⟨h.os, h.tape, h.output, h.size, fun i hi _ => h.block i hi⟩ (by
    cases hv : v.ownBlock with
    | none => exact .inl rfl
    | some k => exact .inr (by simp))

/-- Only draws. -/
def Dr (w w' : World) : Prop := ∃ j, w' = w.drewN j
theorem Dr.refl (w : World) : Dr w w := ⟨0, rfl⟩
theorem Dr.drewN {a w : World} (h : Dr a w) (n : Nat) : Dr a (w.drewN n) := by obtain ⟨j, rfl⟩ := h; exact ⟨j + n, by rw [World.drewN_drewN]⟩
theorem Dr.trans {a b c : World} (h : Dr a b) (k : Dr b c) : Dr a c := by obtain ⟨j, rfl⟩ := k; exact h.drewN j
theorem Dr.kp {w w' : World} (h : Dr w w') : Kp w w' := by obtain ⟨j, rfl⟩ := h; exact (Kp.refl w).drewN j
theorem Dr.size {w w' : World} (h : Dr w w') : w'.heap.size = w.heap.size := by obtain ⟨j, rfl⟩ := h; rfl
theorem Calls.dr_quiet {P : Program} {f : FuncId} {args : Array Value} {w : World} {n : Nat} {v : Value}
    (h : Calls P f args (w.drewN n) fun e w' => e = .returned v ∧ Dr (w.drewN n) w') : Calls P f args (w.drewN n) fun e w'' => e = .returned v ∧ ∃ m, w'' = w.drewN m :=
  h.mono fun _ _ ⟨he, m, hm⟩ => ⟨he, n + m, by rw [hm, World.drewN_drewN]⟩
theorem Calls.same_quiet {P : Program} {f : FuncId} {args : Array Value} {w : World} {n : Nat} {v : Value}
    (h : Calls P f args (w.drewN n) fun e w' => e = .returned v ∧ w.drewN n = w') : Calls P f args (w.drewN n) fun e w'' => e = .returned v ∧ ∃ m, w'' = w.drewN m :=
  h.mono fun _ _ ⟨he, hm⟩ => ⟨he, n, hm.symm⟩

theorem kp_rg (w : World) (d : Nat) (os : Array Obj) : Kp w (grow (redrawn w d) os) := below_regrown w d os
theorem kp_of_rg {w w' : World} (h : ∃ p : Regrown, w' = grow (redrawn w p.d) p.os) : Kp w w' := by obtain ⟨p, rfl⟩ := h; exact kp_rg w p.d p.os

/-- The slice of this address reads as these integers. -/
def IntsAt (w : World) (A : Option Addr) (xs : List Int) : Prop :=
  xs.length ≤ 9223372036854775807 ∧ ∀ k, k < xs.length → ∃ ad, A = some ad ∧ w.cell? (ad.add k) = some (.int .i64 (xs.getD k 0))
theorem IntsAt.at_ {w : World} {A : Option Addr} {xs : List Int} (h : IntsAt w A xs) {k : Nat} (hk : k < xs.length) : ∃ ad, A = some ad ∧ w.cell? (ad.add k) = some (.int .i64 xs[k]) := by
  obtain ⟨ad, h1, h3⟩ := h.2 k hk
  refine ⟨ad, h1, ?_⟩
  rw [h3]; simp [List.getD, hk]
theorem IntsAt.some_ {w : World} {ad : Addr} {xs : List Int} (h : IntsAt w (some ad) xs) {k : Nat} (hk : k < xs.length) : w.cell? (ad.add k) = some (.int .i64 xs[k]) := by
  obtain ⟨ad', h1, h3⟩ := h.at_ hk
  cases h1; exact h3
theorem IntsAt.kp {w w' : World} {A : Option Addr} {xs : List Int} (h : IntsAt w A xs) (hk : Kp w w') : IntsAt w' A xs :=
  ⟨h.1, fun k hlt => by obtain ⟨ad, e, hc⟩ := h.2 k hlt; exact ⟨ad, e, hk.get hc⟩⟩
theorem IntsAt.drewN {w : World} {A : Option Addr} {xs : List Int} (h : IntsAt w A xs) (n : Nat) : IntsAt (w.drewN n) A xs := h.kp ((Kp.refl w).drewN n)
theorem IntsAt.nil (w : World) (A : Option Addr) : IntsAt w A [] := ⟨by simp, fun k hk => absurd hk (by simp)⟩

/-- A slice of slices of integers. -/
def GridAt (w : World) (B : Option Addr) (rows : List (List Int)) : Prop :=
  rows.length ≤ 9223372036854775807 ∧ ∀ k, k < rows.length → ∃ bd A c, B = some bd ∧ w.cell? (bd.add k) = some (.slice A (rows.getD k []).length c) ∧ IntsAt w A (rows.getD k [])
theorem GridAt.at_ {w : World} {B : Option Addr} {rows : List (List Int)} (h : GridAt w B rows) {k : Nat} (hk : k < rows.length) :
    ∃ bd A c, B = some bd ∧ w.cell? (bd.add k) = some (.slice A rows[k].length c) ∧ IntsAt w A rows[k] := by
  obtain ⟨bd, A, c, h1, h2, h3⟩ := h.2 k hk
  have e : rows.getD k [] = rows[k] := by simp [List.getD, hk]
  exact ⟨bd, A, c, h1, by rw [h2, e], by rw [← e]; exact h3⟩
theorem GridAt.some_ {w : World} {bd : Addr} {rows : List (List Int)} (h : GridAt w (some bd) rows) {k : Nat} (hk : k < rows.length) :
    ∃ A c, w.cell? (bd.add k) = some (.slice A rows[k].length c) ∧ IntsAt w A rows[k] := by
  obtain ⟨bd', A, c, h1, h2, h3⟩ := h.at_ hk
  cases h1; exact ⟨A, c, h2, h3⟩
theorem GridAt.kp {w w' : World} {B : Option Addr} {rows : List (List Int)} (h : GridAt w B rows) (hk : Kp w w') : GridAt w' B rows :=
  ⟨h.1, fun k hlt => by obtain ⟨bd, A, c, e, hc, hi⟩ := h.2 k hlt; exact ⟨bd, A, c, e, hk.get hc, hi.kp hk⟩⟩
theorem GridAt.drewN {w : World} {B : Option Addr} {rows : List (List Int)} (h : GridAt w B rows) (n : Nat) : GridAt (w.drewN n) B rows := h.kp ((Kp.refl w).drewN n)

/-- A field: what the sites cost, and the rows of lengths. -/
structure Fld where
  op : List Int
  di : List (List Int)
def FldAt (w : World) (v : Value) (F : Fld) : Prop :=
  ∃ A c B d, v = .agg #[.slice A F.op.length c, .slice B F.di.length d] ∧ IntsAt w A F.op ∧ GridAt w B F.di
theorem FldAt.kp {w w' : World} {v : Value} {F : Fld} (h : FldAt w v F) (hk : Kp w w') : FldAt w' v F := by
  obtain ⟨A, c, B, d, e, h1, h2⟩ := h
  exact ⟨A, c, B, d, e, h1.kp hk, h2.kp hk⟩

/-- A block that the call made: it is just these integers. -/
def IntRow (w : World) (g : Nat) (xs : List Int) : Prop := w.rowIs g 3 xs.length fun i => .int .i64 (xs.getD i 0)
theorem IntRow.ints {w : World} {g : Nat} {xs : List Int} (h : IntRow w g xs) (hl : xs.length ≤ 9223372036854775807) : IntsAt w (some ⟨g, 0, none⟩) xs :=
  ⟨hl, fun k hk => ⟨_, rfl, by rw [add0]; exact World.rowIs.cell h hk⟩⟩
theorem IntRow.kp {w w' : World} {g : Nat} {xs : List Int} (h : IntRow w g xs) (hk : Kp w w') : IntRow w' g xs := hk.row h

/-- A slice of the call's own, grown by append. -/
def Own (w : World) (base : Nat) (v : Value) (xs : List Int) : Prop := w.ownsRow base 3 1 v xs.length (xs.map (Value.int .i64))
theorem Own.kp {w w' : World} {base : Nat} {v : Value} {xs : List Int} (h : Own w base v xs) (hk : Kp w w') : Own w' base v xs := hk.own h
theorem Own.lt {w : World} {base : Nat} {v : Value} {xs : List Int} (h : Own w base v xs) : ∀ k, v.ownBlock = some k → base ≤ k ∧ k < w.heap.size := World.ownsRow.lt h
theorem Own.ints {w : World} {base : Nat} {v : Value} {xs : List Int} (h : Own w base v xs) (hl : xs.length ≤ 9223372036854775807) : ∃ A c, v = .slice A xs.length c ∧ IntsAt w A xs := by
  rcases h.2 with ⟨rfl, h0⟩ | ⟨g, cap, cur, rfl, _, _, _⟩
  · have : xs = [] := by simpa using h0
    subst this
    exact ⟨none, 0, rfl, IntsAt.nil _ _⟩
  · refine ⟨_, cap, rfl, hl, fun k hk => ⟨_, rfl, ?_⟩⟩
    exact World.ownsRow.cells h (g := g) rfl k (.int .i64 (xs.getD k 0)) (by simp [List.getD, hk])
end Go.Proofs.Ytjoebikljmkhfaa

/- Words for memory: a slice that reads as a list of integers, a slice of slices, what is kept when a call only makes new memory; Contracts of the small helpers: bounds, copies and comparisons of lists of integers; The frame of a law's proof: a call that answers true and only makes new memory meets the given statement; Words for memory that a call made and that is written later: which blocks may turn; a slice and a slice of slices of the call's own; append of one number to a slice of the call's own; append of one number at a step of a region that draws; Contracts of the laws' helpers on fields: size, copy, comparison; Contracts of the laws' helpers that make and write memory: copies of fields, marks; Contracts of the laws' helpers that write marks, and of the comparison of fields; slices.ContainsFunc over lists of integers, for any test that only makes new memory; Tables of sets: which lists are tables, which tables are monotone, which are submodular: plain words. No condition. -/
import Derived.WalkKit
import Derived.BigQuiet
import Derived.Lib.Hide
import Derived.Deep.Draws
import Derived.Deep.OwnRows
import Derived.Lib.QuietBelow
import Derived.Test.YtpiijhfjliolfaaGreatProg
import Derived.Test.YtpiijhfjliolfaaGreatRows
import Derived.ProofKit
import Derived.OpenShut
import Derived.Carry
import Derived.Deep.Matrix
import Derived.ChangeSame
import Derived.OwnWalk
import Derived.Maps.AppendAt
import Derived.Deep.AppendLies
import Derived.Deep.RegionHeld3
namespace Go.Proofs.YtpiijhfjliolfaaGreat
open Go.RowKit Go.Sort

theorem ret_bool {a b : Bool} (h : a = b) : Ending.returned (.bool a) = .returned (.bool b) := by rw [h]
theorem ret_int {k : IntKind} {a b : Int} (h : a = b) : Ending.returned (.int k a) = .returned (.int k b) := by rw [h]
theorem add0 (g k : Nat) : (⟨g, 0, none⟩ : Addr).add k = ⟨g, k, none⟩ := by
  unfold Addr.add
  by_cases h : k = 0
  · subst h; rfl
  · simp [h]
theorem blk_add (a : Addr) (n : Nat) : (a.add n).block = a.block := by unfold Addr.add; split <;> rfl

/-- Of what was there nothing has turned. -/
def Kp (w w' : World) : Prop := Below w.heap.size w w'
theorem Kp.refl (w : World) : Kp w w := Below.refl _ _
theorem Kp.trans {a b c : World} (h : Kp a b) (k : Kp b c) : Kp a c := Below.trans h (Below.mono k h.size)
theorem Kp.below {w w' : World} (h : Kp w w') : Below w.heap.size w w' := h
theorem Kp.of {w w' : World} (h : Below w.heap.size w w') : Kp w w' := h
theorem Kp.drewN {a w : World} (h : Kp a w) (n : Nat) : Kp a (w.drewN n) := ⟨h.os, h.tape, h.output, h.size, h.block⟩
theorem Kp.drew {a w : World} (h : Kp a w) : Kp a w.drew := ⟨h.os, h.tape, h.output, h.size, h.block⟩
theorem Kp.alloc {a w : World} (h : Kp a w) (o : Obj) : Kp a (w.alloc o) := Below.alloc h h.size o
theorem Kp.setCell {a w : World} (h : Kp a w) {p : Addr} (hp : a.heap.size ≤ p.block) (u : Value) : Kp a (w.setCell p u) := Below.setCell h hp u
theorem Kp.grown {a w w' : World} {row : Option Nat} (h : Kp a w) (hg : w.grownBy w' row) (hr : ∀ k, row = some k → a.heap.size ≤ k) : Kp a w' := Below.grown h hg h.size hr
theorem Kp.cell {w w' : World} (h : Kp w w') {p : Addr} (hp : p.block < w.heap.size) : w'.cell? p = w.cell? p := Below.cell h hp
theorem Kp.get {w w' : World} (h : Kp w w') {p : Addr} {v : Value} (hp : w.cell? p = some v) : w'.cell? p = some v := by
  rw [h.cell (World.block_lt_of_cell? _ _ hp)]; exact hp
theorem Kp.froz {w w' : World} (h : Kp w w') {p : Addr} {v : Value} (hp : w.cell? p = some v) : w'.frozen? p = w.frozen? p := Below.frozen h (World.block_lt_of_cell? _ _ hp)
theorem Kp.le {w w' : World} (h : Kp w w') : w.heap.size ≤ w'.heap.size := h.size
theorem Kp.row {w w' : World} (h : Kp w w') {b : Nat} {t : TypeId} {n : Nat} {f : Nat → Value} (hr : w.rowIs b t n f) : w'.rowIs b t n f := hr.of_block (h.block b hr.lt)
theorem Kp.own {w w' : World} (h : Kp w w') {base : Nat} {e : TypeId} {size : Nat} {v : Value} {n : Nat} {xs : List Value} (hr : w.ownsRow base e size v n xs) : w'.ownsRow base e size v n xs :=
  hr.kept (row := none) ⟨h.os, h.tape, h.output, h.size, fun i hi _ => h.block i hi⟩ (by
    cases hv : v.ownBlock with
    | none => exact .inl rfl
    | some k => exact .inr (by simp))

/-- Only draws. -/
def Dr (w w' : World) : Prop := ∃ j, w' = w.drewN j
theorem Dr.refl (w : World) : Dr w w := ⟨0, rfl⟩
theorem Dr.drewN {a w : World} (h : Dr a w) (n : Nat) : Dr a (w.drewN n) := by obtain ⟨j, rfl⟩ := h; exact ⟨j + n, by rw [World.drewN_drewN]⟩
theorem Dr.trans {a b c : World} (h : Dr a b) (k : Dr b c) : Dr a c := by obtain ⟨j, rfl⟩ := k; exact h.drewN j
theorem Dr.kp {w w' : World} (h : Dr w w') : Kp w w' := by obtain ⟨j, rfl⟩ := h; exact (Kp.refl w).drewN j
theorem Dr.size {w w' : World} (h : Dr w w') : w'.heap.size = w.heap.size := by obtain ⟨j, rfl⟩ := h; rfl
theorem Calls.dr_quiet {P : Program} {f : FuncId} {args : Array Value} {w : World} {n : Nat} {v : Value}
    (h : Calls P f args (w.drewN n) fun e w' => e = .returned v ∧ Dr (w.drewN n) w') : Calls P f args (w.drewN n) fun e w'' => e = .returned v ∧ ∃ m, w'' = w.drewN m :=
  h.mono fun _ _ ⟨he, m, hm⟩ => ⟨he, n + m, by rw [hm, World.drewN_drewN]⟩
theorem Calls.same_quiet {P : Program} {f : FuncId} {args : Array Value} {w : World} {n : Nat} {v : Value}
    (h : Calls P f args (w.drewN n) fun e w' => e = .returned v ∧ w.drewN n = w') : Calls P f args (w.drewN n) fun e w'' => e = .returned v ∧ ∃ m, w'' = w.drewN m :=
  h.mono fun _ _ ⟨he, hm⟩ => ⟨he, n, hm.symm⟩

theorem kp_rg (w : World) (d : Nat) (os : Array Obj) : Kp w (grow (redrawn w d) os) := below_regrown w d os
theorem kp_of_rg {w w' : World} (h : ∃ p : Regrown, w' = grow (redrawn w p.d) p.os) : Kp w w' := by obtain ⟨p, rfl⟩ := h; exact kp_rg w p.d p.os

/-- The slice of this address reads as these integers. -/
def IntsAt (w : World) (A : Option Addr) (xs : List Int) : Prop :=
  xs.length ≤ 9223372036854775807 ∧ ∀ k, k < xs.length → ∃ ad, A = some ad ∧ w.cell? (ad.add k) = some (.int .i64 (xs.getD k 0))
theorem IntsAt.at_ {w : World} {A : Option Addr} {xs : List Int} (h : IntsAt w A xs) {k : Nat} (hk : k < xs.length) : ∃ ad, A = some ad ∧ w.cell? (ad.add k) = some (.int .i64 xs[k]) := by
  obtain ⟨ad, h1, h3⟩ := h.2 k hk
  refine ⟨ad, h1, ?_⟩
  rw [h3]; simp [List.getD, hk]
theorem IntsAt.some_ {w : World} {ad : Addr} {xs : List Int} (h : IntsAt w (some ad) xs) {k : Nat} (hk : k < xs.length) : w.cell? (ad.add k) = some (.int .i64 xs[k]) := by
  obtain ⟨ad', h1, h3⟩ := h.at_ hk
  cases h1; exact h3
theorem IntsAt.kp {w w' : World} {A : Option Addr} {xs : List Int} (h : IntsAt w A xs) (hk : Kp w w') : IntsAt w' A xs :=
  ⟨h.1, fun k hlt => by obtain ⟨ad, e, hc⟩ := h.2 k hlt; exact ⟨ad, e, hk.get hc⟩⟩
theorem IntsAt.drewN {w : World} {A : Option Addr} {xs : List Int} (h : IntsAt w A xs) (n : Nat) : IntsAt (w.drewN n) A xs := h.kp ((Kp.refl w).drewN n)
theorem IntsAt.nil (w : World) (A : Option Addr) : IntsAt w A [] := ⟨by simp, fun k hk => absurd hk (by simp)⟩

/-- A slice of slices of integers. -/
def GridAt (w : World) (B : Option Addr) (rows : List (List Int)) : Prop :=
  rows.length ≤ 9223372036854775807 ∧ ∀ k, k < rows.length → ∃ bd A c, B = some bd ∧ w.cell? (bd.add k) = some (.slice A (rows.getD k []).length c) ∧ IntsAt w A (rows.getD k [])
theorem GridAt.at_ {w : World} {B : Option Addr} {rows : List (List Int)} (h : GridAt w B rows) {k : Nat} (hk : k < rows.length) :
    ∃ bd A c, B = some bd ∧ w.cell? (bd.add k) = some (.slice A rows[k].length c) ∧ IntsAt w A rows[k] := by
  obtain ⟨bd, A, c, h1, h2, h3⟩ := h.2 k hk
  have e : rows.getD k [] = rows[k] := by simp [List.getD, hk]
  exact ⟨bd, A, c, h1, by rw [h2, e], by rw [← e]; exact h3⟩
theorem GridAt.some_ {w : World} {bd : Addr} {rows : List (List Int)} (h : GridAt w (some bd) rows) {k : Nat} (hk : k < rows.length) :
    ∃ A c, w.cell? (bd.add k) = some (.slice A rows[k].length c) ∧ IntsAt w A rows[k] := by
  obtain ⟨bd', A, c, h1, h2, h3⟩ := h.at_ hk
  cases h1; exact ⟨A, c, h2, h3⟩
theorem GridAt.kp {w w' : World} {B : Option Addr} {rows : List (List Int)} (h : GridAt w B rows) (hk : Kp w w') : GridAt w' B rows :=
  ⟨h.1, fun k hlt => by obtain ⟨bd, A, c, e, hc, hi⟩ := h.2 k hlt; exact ⟨bd, A, c, e, hk.get hc, hi.kp hk⟩⟩
theorem GridAt.drewN {w : World} {B : Option Addr} {rows : List (List Int)} (h : GridAt w B rows) (n : Nat) : GridAt (w.drewN n) B rows := h.kp ((Kp.refl w).drewN n)

/-- A field: what the sites cost, and the rows of lengths. -/
structure Fld where
  op : List Int
  di : List (List Int)
def FldAt (w : World) (v : Value) (F : Fld) : Prop :=
  ∃ A c B d, v = .agg #[.slice A F.op.length c, .slice B F.di.length d] ∧ IntsAt w A F.op ∧ GridAt w B F.di
theorem FldAt.kp {w w' : World} {v : Value} {F : Fld} (h : FldAt w v F) (hk : Kp w w') : FldAt w' v F := by
  obtain ⟨A, c, B, d, e, h1, h2⟩ := h
  exact ⟨A, c, B, d, e, h1.kp hk, h2.kp hk⟩

/-- A block that the call made: it is just these integers. -/
def IntRow (w : World) (g : Nat) (xs : List Int) : Prop := w.rowIs g 3 xs.length fun i => .int .i64 (xs.getD i 0)
theorem IntRow.ints {w : World} {g : Nat} {xs : List Int} (h : IntRow w g xs) (hl : xs.length ≤ 9223372036854775807) : IntsAt w (some ⟨g, 0, none⟩) xs :=
  ⟨hl, fun k hk => ⟨_, rfl, by rw [add0]; exact World.rowIs.cell h hk⟩⟩
theorem IntRow.kp {w w' : World} {g : Nat} {xs : List Int} (h : IntRow w g xs) (hk : Kp w w') : IntRow w' g xs := hk.row h

/-- A slice of the call's own, grown by append. -/
def Own (w : World) (base : Nat) (v : Value) (xs : List Int) : Prop := w.ownsRow base 3 1 v xs.length (xs.map (Value.int .i64))
theorem Own.kp {w w' : World} {base : Nat} {v : Value} {xs : List Int} (h : Own w base v xs) (hk : Kp w w') : Own w' base v xs := hk.own h
theorem Own.lt {w : World} {base : Nat} {v : Value} {xs : List Int} (h : Own w base v xs) : ∀ k, v.ownBlock = some k → base ≤ k ∧ k < w.heap.size := World.ownsRow.lt h
theorem Own.ints {w : World} {base : Nat} {v : Value} {xs : List Int} (h : Own w base v xs) (hl : xs.length ≤ 9223372036854775807) : ∃ A c, v = .slice A xs.length c ∧ IntsAt w A xs := by
  rcases h.2 with ⟨rfl, h0⟩ | ⟨g, cap, cur, rfl, _, _, _⟩
  · have : xs = [] := by simpa using h0
    subst this
    exact ⟨none, 0, rfl, IntsAt.nil _ _⟩
  · refine ⟨_, cap, rfl, hl, fun k hk => ⟨_, rfl, ?_⟩⟩
    exact World.ownsRow.cells h (g := g) rfl k (.int .i64 (xs.getD k 0)) (by simp [List.getD, hk])
end Go.Proofs.YtpiijhfjliolfaaGreat

namespace Go.Proofs.YtpiijhfjliolfaaGreat
open Go.RowKit

theorem infoInt : (Tryz.prog.info? 3).map (fun i => (i.zero, i.size, i.bytes)) = some (some (.int .i64 0), 1, 8) := by kernel_rfl

def inB (a b c : Int) : Bool := decide (b ≤ a) && decide (a ≤ c)
theorem inB_iff {a b c : Int} : inB a b c = true ↔ b ≤ a ∧ a ≤ c := by simp [inB]
theorem l1In_any (a b c : Int) (w : World) :
    Calls Tryz.prog 84 #[.int .i64 a, .int .i64 b, .int .i64 c] w fun e w' => e = .returned (.bool (inB a b c)) ∧ w = w' := by
  go_enter Tryz.func84, Tryz.ntmps84
  go_wp2
  all_goals go_ret
  all_goals refine ⟨ret_bool ?_, rfl⟩
  all_goals (simp [Array.getD, inB]; try omega)
theorem between_any (a b c : Int) (w : World) :
    Calls Tryz.prog 80 #[.int .i64 a, .int .i64 b, .int .i64 c] w fun e w' => e = .returned (.bool (inB a b c)) ∧ w = w' := by
  go_enter Tryz.func80, Tryz.ntmps80
  go_wp2
  all_goals go_ret
  all_goals refine ⟨ret_bool ?_, rfl⟩
  all_goals (simp [Array.getD, inB]; try omega)

theorem take_eq_succ {xs ys : List Int} {k : Nat} (h : xs.take k = ys.take k) (hx : k < xs.length) (hy : k < ys.length) (e : xs[k] = ys[k]) : xs.take (k + 1) = ys.take (k + 1) := by
  rw [List.take_succ_eq_append_getElem hx, List.take_succ_eq_append_getElem hy, h, e]

end Go.Proofs.YtpiijhfjliolfaaGreat

namespace Go.Proofs.YtpiijhfjliolfaaGreat
open Go.ChangeShapes Go.WideShapes Go.ChangeAt Go.RowKit Go.Deep

theorem ownKnobs : ownKnob Tryz.prog.godebug = none := by kernel_rfl
theorem laidOut : laidOutB Tryz.prog = true := by kernel_rfl
theorem cellsInt : Tryz.prog.cellsOf 3 = 1 := by kernel_rfl
theorem cellsInts : Tryz.prog.cellsOf 24 = 1 := by kernel_rfl

section
variable {H : Type} {enc : TypeId × Value → H} {P : Program}
theorem trodAll_stays (hl : laidOutB P = true) {W W' : World} {sp' : Nat → Bool} (hb : Kp W W') : ∀ (ts : List TypeId) (vs : List Value) (ds : List (DataW H)) (ps : List MemPlace),
    (∀ t ∈ ts, P.readableRec t = true ∧ t < P.types.size) → DataW.TrodAll enc P W 0 (fun _ => true) true ts vs ds ps → (∀ x ∈ ps, x.block < W.heap.size) → (∀ x ∈ ps, sp' x.block = true) → DataW.TrodAll enc P W' 0 sp' true ts vs ds ps
  | [], vs, ds, ps, _, h, _, _ => by
    obtain ⟨rfl, rfl, rfl⟩ := trodAll_nil h
    exact trodAll_mk0
  | t :: ts, vs, ds, ps, ht, h, h1, h2 => by
    obtain ⟨v, vs1, d, ds1, a, b, rfl, rfl, rfl, hd, hr⟩ := trodAll_cons h
    refine trodAll_cons_mk (WideElems.Trod_stays hl (ht t (by simp)).1 (ht t (by simp)).2 hd (fun x hx => Below.same hb (h1 x (by simp [hx]))) (fun x hx => h2 x (by simp [hx]))) ?_
    exact trodAll_stays hl hb ts vs1 ds1 b (fun t ht' => ht t (by simp [ht'])) hr (fun x hx => h1 x (by simp [hx])) (fun x hx => h2 x (by simp [hx]))

theorem post_of_kp {f : Func} {s : ChangeSpec} {W W' : World} {args : Array Value} {ds gs : List (DataW H)} {before : List MemPlace} {tb : TypeId} (hl : laidOutB P = true) (hvars : s.vars = [])
    (hp : (f.params.toList.all fun t => P.readableRec t && decide (t < P.types.size)) = true) (hr : f.resultTypes = #[tb]) (hb : P.underlying tb = some .bool)
    (hres : ∀ ds' : List (DataW H), ds'.length = f.params.size → s.fn H ds' = { results := [.lit (.bool true)], args := ds' }) (hlen : ds.length = f.params.size)
    (hW : DataW.Whole enc P f.params.toList s.vars false W args.toList ds gs before) (hk : Kp W W') :
    s.post enc P f false true false false W args (.bool true) W' := by
  have hlt : ∀ p ∈ before, p.block < W.heap.size := fun p hp => hW.lt p hp
  obtain ⟨p, q, hA, hV, hbf, hz, hn⟩ := id hW
  rw [hvars] at hV
  obtain ⟨rfl, rfl⟩ := trodVars_none hV
  have hpp : before = p := by simpa using hbf
  have hA' : DataW.TrodAll enc P W 0 (fun _ => true) true f.params.toList args.toList ds before := by rw [hpp]; exact hA
  have hspec := hres ds hlen
  have hold : ∀ p ∈ before, (fun b => decide (b < W.heap.size)) p.block = true := fun p hp => by simpa using hlt p hp
  have hps : ∀ t ∈ f.params.toList, P.readableRec t = true ∧ t < P.types.size := fun t ht => by
    have := List.all_eq_true.1 hp t ht
    simpa using this
  refine ⟨ds, [], before, [], before, [], hW, ?_, ?_, ?_, World.keptBut_mono (fun p hp => ⟨hp, ?_⟩) ((Kp.below hk).frame (· ∈ before)), fun h => by cases h⟩
  · rw [List.append_nil, hspec, hr]
    exact trodAll_mk1 (shut_bool hb true)
  · rw [List.append_nil, hspec]
    exact trodAll_stays hl hk _ _ _ _ hps hA' hlt hold
  · rw [List.append_nil, hspec, hvars]
    rfl
  · simpa using hp

/-- An argument that is a slice of integers. -/
theorem open_intsAt {W : World} {v : Value} {d : DataW H} {p : List MemPlace} {t e : TypeId} (ht : P.underlying t = some (.slice e)) (he : P.underlying e = some (.int .i64)) (hc : P.cellsOf e = 1)
    (hv : Value.okWide P W .any 0 t v) (h : DataW.Trod enc P W 0 (fun _ => true) true t v d p) : ∃ A xs c, v = .slice A xs.length c ∧ IntsAt W A xs := by
  obtain ⟨a, len, cap, rfl⟩ := okWide_slice ht hv
  obtain ⟨fuel, hf⟩ := h
  rcases open_ints ht he hc hf with ⟨hcs, _⟩ | ⟨a', len', cap', zs, hcs, _, hl, hm, hz, _, hcell, _⟩
  · simp [Value.cells] at hcs
    obtain ⟨rfl, rfl, rfl⟩ := hcs
    exact ⟨none, [], 0, rfl, IntsAt.nil _ _⟩
  · simp [Value.cells] at hcs
    obtain ⟨rfl, rfl, rfl⟩ := hcs
    simp only [if_true] at hz
    have hlen : (zs.take len).length = len := by rw [List.length_take]; omega
    refine ⟨some a', zs.take len, cap, by rw [hlen], by rw [hlen]; unfold maxLen at hm; omega, fun k hk => ⟨a', rfl, ?_⟩⟩
    rw [hlen] at hk
    rw [hcell k (by omega)]
    simp [List.getD, List.getElem?_take, hk]
end
end Go.Proofs.YtpiijhfjliolfaaGreat

namespace Go.Proofs.YtpiijhfjliolfaaGreat
open Go.RowKit

/-- Only blocks of S have turned, and new ones may have come. -/
structure Turn (S : Nat → Prop) (w w' : World) : Prop where
  os : w'.os = w.os
  tape : w'.tape = w.tape
  output : w'.output = w.output
  size : w.heap.size ≤ w'.heap.size
  block : ∀ k, k < w.heap.size → ¬ S k → w'.heap[k]? = w.heap[k]?
theorem Turn.refl (S : Nat → Prop) (w : World) : Turn S w w := ⟨rfl, rfl, rfl, Nat.le_refl _, fun _ _ _ => rfl⟩
theorem Turn.trans {S : Nat → Prop} {a b c : World} (h : Turn S a b) (k : Turn S b c) : Turn S a c :=
  ⟨k.os.trans h.os, k.tape.trans h.tape, k.output.trans h.output, Nat.le_trans h.size k.size, fun i hi hs => (k.block i (Nat.lt_of_lt_of_le hi h.size) hs).trans (h.block i hi hs)⟩
theorem Turn.mono {S S' : Nat → Prop} {a b : World} (h : Turn S a b) (hs : ∀ i, S i → S' i) : Turn S' a b :=
  ⟨h.os, h.tape, h.output, h.size, fun i hi hn => h.block i hi (fun hh => hn (hs i hh))⟩
theorem Turn.of_kp {S : Nat → Prop} {a b : World} (h : Kp a b) : Turn S a b := ⟨h.os, h.tape, h.output, h.size, fun i hi _ => h.block i hi⟩
theorem Turn.of_grown {w w' : World} {row : Option Nat} (h : w.grownBy w' row) : Turn (fun i => row = some i) w w' :=
  ⟨h.os, h.tape, h.output, h.size, fun i hi hn => h.block i hi (fun e => hn e.symm)⟩
theorem Turn.grown {w w' : World} {row : Option Nat} (h : Turn (fun i => row = some i) w w') : w.grownBy w' row :=
  ⟨h.os, h.tape, h.output, h.size, fun i hi hn => h.block i hi (fun e => hn e.symm)⟩
theorem Kp.turn {S : Nat → Prop} {a b c : World} (h : Kp a b) (ht : Turn S b c) (hs : ∀ i, S i → a.heap.size ≤ i) : Kp a c :=
  ⟨ht.os.trans h.os, ht.tape.trans h.tape, ht.output.trans h.output, Nat.le_trans h.size ht.size, fun i hi => (ht.block i (Nat.lt_of_lt_of_le hi h.size) (fun hh => by have := hs i hh; omega)).trans (h.block i hi)⟩
theorem own_turn {S : Nat → Prop} {w w' : World} {base : Nat} {e : TypeId} {size : Nat} {v : Value} {n : Nat} {xs : List Value} (h : w.ownsRow base e size v n xs) (ht : Turn S w w') (hn : ∀ g, v.ownBlock = some g → ¬ S g) : w'.ownsRow base e size v n xs := by
  refine ⟨h.1, ?_⟩
  rcases h.2 with hh | ⟨g, cap, cur, rfl, hb, hg, rest⟩
  · exact .inl hh
  · refine .inr ⟨g, cap, cur, rfl, hb, ?_, rest⟩
    rw [ht.block g (Array.getElem?_eq_some_iff.1 hg).1 (hn g rfl)]
    exact hg
theorem Own.turn {S : Nat → Prop} {w w' : World} {base : Nat} {v : Value} {xs : List Int} (h : Own w base v xs) (ht : Turn S w w') (hn : ∀ g, v.ownBlock = some g → ¬ S g) : Own w' base v xs := own_turn h ht hn
theorem Own.mono {w : World} {base base' : Nat} {v : Value} {xs : List Int} (h : Own w base v xs) (hb : base' ≤ base) : Own w base' v xs := by
  refine ⟨h.1, ?_⟩
  rcases h.2 with hh | ⟨g, cap, cur, e, hg, rest⟩
  · exact .inl hh
  · exact .inr ⟨g, cap, cur, e, Nat.le_trans hb hg, rest⟩
theorem Own.of_row {w : World} {base g : Nat} {xs : List Int} (h : IntRow w g xs) (hb : base ≤ g) (hl : xs.length ≤ 9223372036854775807) : Own w base (.slice (some ⟨g, 0, none⟩) xs.length xs.length) xs := by
  obtain ⟨c, hg, hs, hc⟩ := h
  refine ⟨by simp, .inr ⟨g, _, c, rfl, hb, hg, Nat.le_refl _, by unfold maxLen; omega, by rw [hs]; simp, ?_⟩⟩
  rw [List.take_of_length_le (by simp [hs])]
  apply List.ext_getElem?
  intro i
  by_cases hi : i < xs.length
  · have := hc i hi
    rw [Array.getElem?_toList, this]
    simp [List.getD, hi]
  · rw [List.getElem?_eq_none (by simp [hs]; omega), List.getElem?_eq_none (by simp; omega)]
theorem Own.nil (w : World) (base : Nat) : Own w base (.slice none 0 0) [] := World.ownsRow_nil _ _ _ _
theorem Own.shape {w : World} {base : Nat} {v : Value} {xs : List Int} (h : Own w base v xs) : ∃ A c, v = .slice A xs.length c := by
  rcases h.2 with ⟨rfl, h0⟩ | ⟨g, cap, cur, rfl, _⟩
  · exact ⟨none, 0, by rw [h0]⟩
  · exact ⟨_, _, rfl⟩

def seqF (k : Int) (n : Nat) : List Int := (List.range n).map fun (i : Nat) => k + (i : Int)
theorem seqF_len (k : Int) (n : Nat) : (seqF k n).length = n := by simp [seqF]

/-- A slice of n slices of the call's own, apart from each other; row j reads as R j. -/
def OwnGrid (w : World) (base : Nat) (v : Value) (n : Nat) (R : Nat → List Int) : Prop :=
  ∃ C : Nat → Value, w.ownsRow base 24 1 v n ((List.range n).map C) ∧ (∀ j, j < n → Own w base (C j) (R j)) ∧
    ∀ i j g, i < j → j < n → (C i).ownBlock = some g → (C j).ownBlock ≠ some g
theorem own_blocks_ne {w : World} {base base' : Nat} {v u : Value} {n m s s' : Nat} {xs ys : List Value} {e e' : TypeId} (h : w.ownsRow base e s v n xs) (h' : w.ownsRow base' e' s' u m ys) (hne : e ≠ e') {g : Nat} (hv : v.ownBlock = some g) : u.ownBlock ≠ some g := by
  rcases h.2 with ⟨rfl, _⟩ | ⟨g1, _, cur, rfl, _, hg, _⟩
  · simp [Value.ownBlock] at hv
  rcases h'.2 with ⟨rfl, _⟩ | ⟨g2, _, cur2, rfl, _, hg2, _⟩
  · simp [Value.ownBlock]
  intro e2
  simp only [Value.ownBlock, Option.some.injEq] at hv e2
  subst hv
  subst e2
  rw [hg] at hg2
  simp at hg2
  exact hne hg2.2
theorem OwnGrid.lt {w : World} {base : Nat} {v : Value} {n : Nat} {R : Nat → List Int} (h : OwnGrid w base v n R) : ∀ k, v.ownBlock = some k → base ≤ k ∧ k < w.heap.size := by
  obtain ⟨C, h1, _⟩ := h
  exact h1.lt
theorem OwnGrid.shape {w : World} {base : Nat} {v : Value} {n : Nat} {R : Nat → List Int} (h : OwnGrid w base v n R) : ∃ A c, v = .slice A n c := by
  obtain ⟨C, h1, _⟩ := h
  rcases h1.2 with ⟨rfl, h0⟩ | ⟨g, cap, cur, rfl, _⟩
  · exact ⟨none, 0, by rw [h0]⟩
  · exact ⟨_, _, rfl⟩
theorem OwnGrid.kp {w w' : World} {base : Nat} {v : Value} {n : Nat} {R : Nat → List Int} (h : OwnGrid w base v n R) (hk : Kp w w') : OwnGrid w' base v n R := by
  obtain ⟨C, h1, h2, h3⟩ := h
  exact ⟨C, hk.own h1, fun j hj => (h2 j hj).kp hk, h3⟩
theorem OwnGrid.turn {S : Nat → Prop} {w w' : World} {base : Nat} {v : Value} {n : Nat} {R : Nat → List Int} (h : OwnGrid w base v n R) (ht : Turn S w w') (hS : ∀ i, base ≤ i → i < w.heap.size → ¬ S i) : OwnGrid w' base v n R := by
  obtain ⟨C, h1, h2, h3⟩ := h
  exact ⟨C, own_turn h1 ht (fun g hg => hS g (h1.lt g hg).1 (h1.lt g hg).2), fun j hj => (h2 j hj).turn ht (fun g hg => hS g ((h2 j hj).lt g hg).1 ((h2 j hj).lt g hg).2), h3⟩
theorem OwnGrid.congr {w : World} {base : Nat} {v : Value} {n : Nat} {R R' : Nat → List Int} (h : OwnGrid w base v n R) (e : ∀ j, j < n → R j = R' j) : OwnGrid w base v n R' := by
  obtain ⟨C, h1, h2, h3⟩ := h
  exact ⟨C, h1, fun j hj => by rw [← e j hj]; exact h2 j hj, h3⟩
theorem OwnGrid.mono {w : World} {base base' : Nat} {v : Value} {n : Nat} {R : Nat → List Int} (h : OwnGrid w base v n R) (hb : base' ≤ base) : OwnGrid w base' v n R := by
  obtain ⟨C, h1, h2, h3⟩ := h
  refine ⟨C, ⟨h1.1, ?_⟩, fun j hj => (h2 j hj).mono hb, h3⟩
  rcases h1.2 with hh | ⟨g, cap, cur, e, hg, rest⟩
  · exact .inl hh
  · exact .inr ⟨g, cap, cur, e, Nat.le_trans hb hg, rest⟩
/-- As a slice of slices that is read. -/
theorem OwnGrid.grid {w : World} {base : Nat} {v : Value} {n : Nat} {R : Nat → List Int} {rows : List (List Int)} (h : OwnGrid w base v n R) (hn : rows.length = n) (hR : ∀ j, j < n → R j = rows.getD j []) (hl : n ≤ 9223372036854775807)
    (hr : ∀ j, j < n → (R j).length ≤ 9223372036854775807) : ∃ A c, v = .slice A n c ∧ GridAt w A rows := by
  obtain ⟨C, h1, h2, h3⟩ := h
  have hcell := fun g hg => World.ownsRow.cells h1 (g := g) hg
  rcases h1.2 with ⟨rfl, h0⟩ | ⟨g, cap, cur, rfl, _⟩
  · refine ⟨none, 0, by rw [h0], by omega, fun k hk => ?_⟩
    omega
  · refine ⟨_, cap, rfl, by omega, fun k hk => ?_⟩
    rw [hn] at hk
    obtain ⟨A, c, e, hi⟩ := (h2 k hk).ints (hr k hk)
    refine ⟨_, A, c, rfl, ?_, by rw [← hR k hk]; exact hi⟩
    rw [hcell g rfl k (C k) (by simp [hk]), e, hR k hk]
/-- Row j has been written. -/
theorem OwnGrid.row {w w' : World} {base : Nat} {v : Value} {n : Nat} {R : Nat → List Int} {C : Nat → Value} {j : Nat} {ys : List Int} (h1 : w.ownsRow base 24 1 v n ((List.range n).map C)) (h2 : ∀ j, j < n → Own w base (C j) (R j))
    (h3 : ∀ i j g, i < j → j < n → (C i).ownBlock = some g → (C j).ownBlock ≠ some g) (hj : j < n) (ht : Turn (fun i => (C j).ownBlock = some i) w w') (ho : Own w' base (C j) ys) :
    w'.ownsRow base 24 1 v n ((List.range n).map C) ∧ ∀ i, i < n → Own w' base (C i) (if i = j then ys else R i) := by
  refine ⟨own_turn h1 ht (fun g hg hc => own_blocks_ne (h2 j hj) h1 (by decide) hc hg), fun i hi => ?_⟩
  by_cases e : i = j
  · subst e; rw [if_pos rfl]; exact ho
  · rw [if_neg e]
    refine (h2 i hi).turn ht (fun g hg hc => ?_)
    rcases Nat.lt_or_gt_of_ne e with hlt | hgt
    · exact h3 i j g hlt hj hg hc
    · exact h3 j i g hgt hi hc hg
/-- A field of the call's own: first what the sites cost, then, in later blocks, the lengths. -/
def OwnFld (w : World) (base : Nat) (v : Value) (F : Fld) : Prop :=
  ∃ a b mid, v = .agg #[a, b] ∧ base ≤ mid ∧ Own w base a F.op ∧ (∀ g, a.ownBlock = some g → g < mid) ∧ OwnGrid w mid b F.di.length (fun j => F.di.getD j [])
theorem OwnFld.kp {w w' : World} {base : Nat} {v : Value} {F : Fld} (h : OwnFld w base v F) (hk : Kp w w') : OwnFld w' base v F := by
  obtain ⟨a, b, mid, e, hm, h1, h2, h3⟩ := h
  exact ⟨a, b, mid, e, hm, h1.kp hk, h2, h3.kp hk⟩
theorem Fld.rows_le {F : Fld} (h : ∀ r ∈ F.di, r.length ≤ 9223372036854775807) : ∀ j, j < F.di.length → (F.di.getD j []).length ≤ 9223372036854775807 := fun j hj => by
  have : F.di.getD j [] = F.di[j] := by simp [List.getD, hj]
  rw [this]; exact h _ (List.getElem_mem hj)
theorem OwnFld.fld {w : World} {base : Nat} {v : Value} {F : Fld} (h : OwnFld w base v F) (h1 : F.op.length ≤ 9223372036854775807) (h2 : F.di.length ≤ 9223372036854775807) (h3 : ∀ r ∈ F.di, r.length ≤ 9223372036854775807) : FldAt w v F := by
  obtain ⟨a, b, mid, rfl, hm, ha, _, hb⟩ := h
  obtain ⟨A, c, rfl, hA⟩ := ha.ints h1
  obtain ⟨B, d, rfl, hB⟩ := hb.grid rfl (fun _ _ => rfl) h2 (Fld.rows_le h3)
  exact ⟨A, c, B, d, rfl, hA, hB⟩
end Go.Proofs.YtpiijhfjliolfaaGreat

namespace Go.Proofs.YtpiijhfjliolfaaGreat
open Go.RowKit

theorem wpl_app {ops : Array Oper} {rest : List Oper} {o : Oper} {a : Act} {Q : Exit → Act → World → Prop} {W : World} (hgd : o.guard = none) (s x : Operand)
    (ho : o.op = .call { callee := .builtin .append, args := #[s, x], argTypes := #[24, 24] }) (base : Nat) (v : Value) (xs : List Int) (z : Int)
    (hs : a.eval s = v) (hx : a.eval x = .slice (some ⟨W.heap.size, 0, none⟩) 1 1) (hown : Own W base v xs) (hbase : base ≤ W.heap.size) (hlen : xs.length < 1048576)
    (h : ∀ v' w', Own w' base v' (xs ++ [z]) → Turn (fun i => v.ownBlock = some i) W w' → (v'.ownBlock = v.ownBlock ∨ ∀ g, v'.ownBlock = some g → W.heap.size ≤ g) → wpList Tryz.prog ops Q rest (a.put o.dst v') w') :
    wpList Tryz.prog ops Q (o :: rest) a (W.alloc (.cells #[.int .i64 z] 3)) := by
  obtain ⟨i0, hi, hz0, hz1, hz2⟩ := info_parts infoInt
  have hal : Own (W.alloc (.cells #[.int .i64 z] 3)) base v xs := hown.kp ((Kp.refl W).alloc _)
  refine wpList_append_own_at _ hgd s x 24 ho base 3 i0 (.int .i64 0) 1 8 Tryz.underlying24 hi hz0 hz1 hz2 rfl (by decide) v xs.length (xs.map (Value.int .i64)) hs hal ⟨W.heap.size, 0, none⟩ 1 1 [.int .i64 z] hx rfl ?_ ?_ ?_ ?_ ?_ ?_
  · intro j u hj
    cases j with
    | zero =>
      simp at hj; subst hj
      rw [add0, World.cell?_alloc_at _ _ _ _ rfl]; rfl
    | succ j => simp at hj
  · intro u hu; simp at hu; subst hu; rfl
  · unfold maxLen; omega
  · omega
  · simp; omega
  · intro v' w' h2 h3 _ h4
    refine h v' w' ?_ ((Turn.of_kp ((Kp.refl W).alloc _)).trans (Turn.of_grown h3)) ?_
    · unfold Own
      rw [List.length_append, List.map_append]
      exact h2
    · rcases h4 with e | e
      · exact .inl e
      · refine .inr (fun g hg => ?_)
        rw [e] at hg
        simp at hg
        omega
theorem own_new0 (w : World) (base : Nat) (hb : base ≤ w.heap.size) : Own (w.alloc (.cells #[] 3)) base (.slice (some ⟨w.heap.size, 0, none⟩) 0 0) [] :=
  World.ownsRow_lit w #[] 0 hb (by unfold maxLen; omega) (by simp)
theorem Own.kp_turn {a w w' : World} {base : Nat} {v : Value} {xs : List Int} (h : Own w base v xs) (hk : Kp a w) (hb : a.heap.size ≤ base) (ht : Turn (fun i => v.ownBlock = some i) w w') : Kp a w' :=
  hk.turn ht (fun i hi => Nat.le_trans hb (h.lt i hi).1)
/-- Two slices of the call's own lie in different blocks. -/
def Apart (v u : Value) : Prop := ∀ g, v.ownBlock = some g → u.ownBlock ≠ some g
theorem Apart.grow {v v' u : Value} {W : World} {base : Nat} {xs : List Int} (h : Apart v u) (hu : Own W base u xs) (h4 : v'.ownBlock = v.ownBlock ∨ ∀ g, v'.ownBlock = some g → W.heap.size ≤ g) : Apart v' u := by
  intro g hg e
  rcases h4 with h4 | h4
  · exact h g (h4 ▸ hg) e
  · have := h4 g hg
    have := (hu.lt g e).2
    omega
theorem Own.apart_turn {v u : Value} {w w' : World} {base : Nat} {xs : List Int} (h : Own w base u xs) (ha : Apart v u) (ht : Turn (fun i => v.ownBlock = some i) w w') : Own w' base u xs := h.turn ht (fun g hg hv => ha g hv hg)
end Go.Proofs.YtpiijhfjliolfaaGreat

namespace Go.Proofs.YtpiijhfjliolfaaGreat
open Go.RowKit

theorem step_app {ops : Array Oper} {o : Oper} {a : Act} {K : Act → World → Prop} {Q : Exit → Act → World → Prop} {E : Prop} {W : World} (hgd : o.guard = none) (s x : Operand)
    (ho : o.op = .call { callee := .builtin .append, args := #[s, x], argTypes := #[24, 24] }) (base : Nat) (v : Value) (xs : List Int) (z : Int) (H : Nat) (hH : W.heap.size = H)
    (hs : a.eval s = v) (hx : a.eval x = .slice (some ⟨H, 0, none⟩) 1 1) (hown : Own W base v xs) (hbase : base ≤ W.heap.size) (hlen : xs.length < 1048576)
    (h : ∀ v' w', Own w' base v' (xs ++ [z]) → Turn (fun i => v.ownBlock = some i) W w' → (v'.ownBlock = v.ownBlock ∨ ∀ g, v'.ownBlock = some g → W.heap.size ≤ g) → K (a.put o.dst v') w') :
    if Region.wanted o (yielded ops a.tmps) = true then Oper.wp Tryz.prog o a (W.alloc (.cells #[.int .i64 z] 3)) K Q else E := by
  subst hH
  obtain ⟨i0, hi, hz0, hz1, hz2⟩ := info_parts infoInt
  have hal : Own (W.alloc (.cells #[.int .i64 z] 3)) base v xs := hown.kp ((Kp.refl W).alloc _)
  refine step_append_lies _ hgd s x 24 ho base 3 i0 (.int .i64 0) 1 8 Tryz.underlying24 hi hz0 hz1 hz2 rfl (by decide) v xs.length (xs.map (Value.int .i64)) hs hal ⟨W.heap.size, 0, none⟩ 1 1 [.int .i64 z] hx rfl ?_ ?_ (by decide) ?_ ?_ ?_ (W.heap.size + 1) (by simp) ?_
  · intro j u hj
    cases j with
    | zero =>
      simp at hj; subst hj
      rw [add0, World.cell?_alloc_at _ _ _ _ rfl]; rfl
    | succ j => simp at hj
  · intro u hu; simp at hu; subst hu; rfl
  · unfold maxLen; omega
  · omega
  · simp; omega
  · intro g cap w' h2 h3 h4 _
    refine h _ w' ?_ ((Turn.of_kp ((Kp.refl W).alloc _)).trans (Turn.of_grown h3)) ?_
    · unfold Own
      rw [List.length_append, List.map_append]
      exact h2
    · rcases h4 with e | e
      · left; rw [e]; rfl
      · refine .inr (fun g' hg => ?_)
        simp [Value.ownBlock] at hg
        omega
theorem keep2 {wv w' : World} {p q : Addr} {a b : Value} (h1 : wv.cell? p = some a) (h2 : wv.cell? q = some b) (h : Kp wv w') : w'.cell? p = some a ∧ w'.cell? q = some b ∧ Kp wv w' := ⟨h.get h1, h.get h2, h⟩
end Go.Proofs.YtpiijhfjliolfaaGreat

namespace Go.Proofs.YtpiijhfjliolfaaGreat
open Go.RowKit

theorem infoInts : (Tryz.prog.info? 24).map (fun i => (i.zero, i.size, i.bytes)) = some (some (.slice none 0 0), 1, 24) := by kernel_rfl

/-- What is left of a budget. -/
def left1 (n : Nat) (l : Int) : Int := if (n : Int) ≤ l then l - n else -1
def rowSum : List (List Int) → Nat
  | [] => 0
  | r :: rs => r.length + rowSum rs
theorem rowSum_append (a b : List (List Int)) : rowSum (a ++ b) = rowSum a + rowSum b := by
  induction a with
  | nil => simp [rowSum]
  | cons r rs ih => simp [rowSum, ih]; omega
theorem rowSum_take_succ {rows : List (List Int)} {k : Nat} (hk : k < rows.length) : rowSum (rows.take (k + 1)) = rowSum (rows.take k) + rows[k].length := by
  rw [List.take_succ_eq_append_getElem hk, rowSum_append]; simp [rowSum]
theorem rowSum_take_le (rows : List (List Int)) (k : Nat) : rowSum (rows.take k) ≤ rowSum rows := by
  have := rowSum_append (rows.take k) (rows.drop k)
  rw [List.take_append_drop] at this; omega
theorem rowSum_mem {rows : List (List Int)} {k : Nat} (hk : k < rows.length) : rows[k].length ≤ rowSum rows := by
  have h1 := rowSum_take_succ hk
  have h2 := rowSum_take_le rows (k + 1)
  omega

/-- How many numbers and rows a field holds. -/
def Fld.bulk (F : Fld) : Nat := F.op.length + F.di.length + rowSum F.di
end Go.Proofs.YtpiijhfjliolfaaGreat

namespace Go.Proofs.YtpiijhfjliolfaaGreat
open Go.RowKit

/-- What the copy of a slice of slices holds after k rounds. -/
structure GridTo (w wr : World) (b m k : Nat) (R : Nat → List Int) (G : Nat → Nat) : Prop where
  kp : Kp w wr
  row : wr.rowIs b 24 m (fun j => if j < k then .slice (some ⟨G j, 0, none⟩) (R j).length (R j).length else .slice none 0 0)
  hb : w.heap.size ≤ b
  own : ∀ j, j < k → Own wr w.heap.size (.slice (some ⟨G j, 0, none⟩) (R j).length (R j).length) (R j)
  ord : ∀ i j, i < j → j < k → G i < G j
  bd : ∀ j, j < k → b < G j
theorem GridTo.step {w wr w1 : World} {b m k g : Nat} {R : Nat → List Int} {G : Nat → Nat} (h : GridTo w wr b m k R G) (hg1 : wr.heap.size ≤ g) (hk1 : Kp wr w1) (ho : Own w1 wr.heap.size (.slice (some ⟨g, 0, none⟩) (R k).length (R k).length) (R k)) :
    GridTo w (w1.setCell ⟨b, k, none⟩ (.slice (some ⟨g, 0, none⟩) (R k).length (R k).length)) b m (k + 1) R (fun j => if j = k then g else G j) := by
  have hlb : b < wr.heap.size := h.row.lt
  have hle := h.kp.le
  refine ⟨(h.kp.trans hk1).setCell h.hb _, ((hk1.row h.row).set k _).congr (fun j hj => ?_), h.hb, fun j hj => ?_, fun i j hij hj => ?_, fun j hj => ?_⟩
  · by_cases e : j = k
    · subst e; simp
    · rw [if_neg e]
      by_cases h2 : j < k
      · rw [if_pos h2, if_pos (by omega), if_neg e]
      · rw [if_neg h2, if_neg (by omega)]
  · have ht : Turn (fun i => i = b) w1 (w1.setCell ⟨b, k, none⟩ (.slice (some ⟨g, 0, none⟩) (R k).length (R k).length)) :=
      ⟨rfl, rfl, rfl, by simp [World.setCell], fun i hi hn => Below.heap_setCell _ _ _ _ hn⟩
    by_cases e : j = k
    · subst e
      simp only [if_true]
      refine (ho.mono hle).turn ht (fun g' hg' e' => ?_)
      simp [Value.ownBlock] at hg'
      omega
    · have hj' : j < k := by omega
      simp only [if_neg e]
      refine ((h.own j hj').kp hk1).turn ht (fun g' hg' e' => ?_)
      have := h.bd j hj'
      simp [Value.ownBlock] at hg'
      omega
  · have hGk : ∀ i, i < k → G i < wr.heap.size := fun i hi => (((h.own i hi).lt) (G i) rfl).2
    by_cases e : j = k
    · subst e
      rw [if_pos rfl, if_neg (by omega)]
      have := hGk i hij; omega
    · rw [if_neg e, if_neg (by omega)]
      exact h.ord i j hij (by omega)
  · by_cases e : j = k
    · subst e; rw [if_pos rfl]; omega
    · rw [if_neg e]; exact h.bd j (by omega)
theorem GridTo.done {w wr : World} {b m : Nat} {R : Nat → List Int} {G : Nat → Nat} (h : GridTo w wr b m m R G) (hm : m ≤ 1048576) : OwnGrid wr w.heap.size (.slice (some ⟨b, 0, none⟩) m m) m R := by
  obtain ⟨c, hg, hs, hc⟩ := h.row
  refine ⟨fun j => .slice (some ⟨G j, 0, none⟩) (R j).length (R j).length, ⟨by simp, .inr ⟨b, m, c, rfl, h.hb, hg, Nat.le_refl _, by unfold maxLen; omega, by omega, ?_⟩⟩, h.own, fun i j g hij hj e1 e2 => ?_⟩
  · rw [List.take_of_length_le (by simp [hs])]
    apply List.ext_getElem?
    intro i
    by_cases hi : i < m
    · rw [Array.getElem?_toList, hc i hi]; simp [hi]
    · rw [List.getElem?_eq_none (by simp [hs]; omega), List.getElem?_eq_none (by simp; omega)]
  · have := h.ord i j hij hj
    simp [Value.ownBlock] at e1 e2
    omega

theorem row2 (w : World) (a b : Value) (t : TypeId) : (w.alloc (.cells #[a, b] t)).rowIs w.heap.size t 2 (fun j => if j = 0 then a else b) :=
  World.rowIs_alloc w #[a, b] t _ (fun i hi => by
    have : i = 0 ∨ i = 1 := by simp at hi; omega
    rcases this with rfl | rfl <;> rfl)
end Go.Proofs.YtpiijhfjliolfaaGreat

namespace Go.Proofs.YtpiijhfjliolfaaGreat
open Go.RowKit

theorem seq_set {k : Int} {xs : List Int} {i : Nat} (hi : i < xs.length) : (seqF k i ++ xs.drop i).set i (k + i) = seqF k (i + 1) ++ xs.drop (i + 1) := by
  have e : seqF k (i + 1) = seqF k i ++ [k + (i : Int)] := by simp [seqF, List.range_succ]
  have e2 : xs.drop i = xs[i] :: xs.drop (i + 1) := List.drop_eq_getElem_cons hi
  rw [List.set_append_right _ _ (by simp [seqF_len]), seqF_len, Nat.sub_self, e2, e, List.set_cons_zero, List.append_assoc]
  rfl
theorem seq_get {k : Int} {xs : List Int} {i : Nat} (hi : i < xs.length) : (seqF k i ++ xs.drop i)[i]? = some xs[i] := by
  rw [List.getElem?_append_right (by simp [seqF_len]), seqF_len, Nat.sub_self]
  simp [hi]

/-- A slice of slices of the call's own, its rows in blocks below hi. -/
def OwnGridB (w : World) (base hi : Nat) (v : Value) (n : Nat) (R : Nat → List Int) : Prop :=
  ∃ C : Nat → Value, w.ownsRow base 24 1 v n ((List.range n).map C) ∧ (∀ j, j < n → Own w base (C j) (R j)) ∧
    (∀ i j g, i < j → j < n → (C i).ownBlock = some g → (C j).ownBlock ≠ some g) ∧ ∀ j, j < n → ∀ g, (C j).ownBlock = some g → g < hi
theorem OwnGrid.bounded {w : World} {base : Nat} {v : Value} {n : Nat} {R : Nat → List Int} (h : OwnGrid w base v n R) : OwnGridB w base w.heap.size v n R := by
  obtain ⟨C, h1, h2, h3⟩ := h
  exact ⟨C, h1, h2, h3, fun j hj g hg => ((h2 j hj).lt g hg).2⟩
theorem OwnGridB.kp {w w' : World} {base hi : Nat} {v : Value} {n : Nat} {R : Nat → List Int} (h : OwnGridB w base hi v n R) (hk : Kp w w') : OwnGridB w' base hi v n R := by
  obtain ⟨C, h1, h2, h3, h4⟩ := h
  exact ⟨C, hk.own h1, fun j hj => (h2 j hj).kp hk, h3, h4⟩
theorem OwnGridB.turn {S : Nat → Prop} {w w' : World} {base hi : Nat} {v : Value} {n : Nat} {R : Nat → List Int} (h : OwnGridB w base hi v n R) (ht : Turn S w w') (hS : ∀ i, base ≤ i → i < w.heap.size → ¬ S i) : OwnGridB w' base hi v n R := by
  obtain ⟨C, h1, h2, h3, h4⟩ := h
  exact ⟨C, own_turn h1 ht (fun g hg => hS g (h1.lt g hg).1 (h1.lt g hg).2), fun j hj => (h2 j hj).turn ht (fun g hg => hS g ((h2 j hj).lt g hg).1 ((h2 j hj).lt g hg).2), h3, h4⟩

/-- Where the marks of row j begin. -/
def startAt (R : Nat → List Int) : Nat → Nat
  | 0 => 0
  | j + 1 => startAt R j + (R j).length
theorem startAt_rows (rows : List (List Int)) : ∀ j, j ≤ rows.length → startAt (fun j => rows.getD j []) j = rowSum (rows.take j)
  | 0, _ => by simp [startAt, rowSum]
  | j + 1, h => by
    have hj : j < rows.length := by omega
    rw [startAt, startAt_rows rows j (by omega), rowSum_take_succ hj]
    simp [List.getD, hj]
theorem seq_getD {k : Int} {n i : Nat} (hi : i < n) : (seqF k n)[i]? = some (k + (i : Int)) := by simp [seqF, hi]
end Go.Proofs.YtpiijhfjliolfaaGreat

namespace Go.Proofs.YtpiijhfjliolfaaGreat
open Go.RowKit

theorem callFunc_of {P : Program} {F : FuncId} {fn : Func} (hf : P.funcs[F]? = some fn) (hn : (fn.name == "runtime.NumGoroutine") = false) (hb : fn.body.isNone = false) (args : Array Value) (w : World) :
    Sem.run P (callFunc F args) w = .ok (.enter F args) w := by
  have hn' : ¬ fn.name = "runtime.NumGoroutine" := by simpa using hn
  have hb' : ¬ fn.body = none := fun h => by rw [h] at hb; simp at hb
  simp [callFunc, go_sem, hf, hn', hb']
theorem any_take_succ {α : Type} {p : α → Bool} {xs : List α} {k : Nat} (h : (xs.take k).any p = false) (hk : k < xs.length) (e : p xs[k] = false) : (xs.take (k + 1)).any p = false := by
  rw [List.take_succ_eq_append_getElem hk, List.any_append, h]; simp [e]
theorem any_of {α : Type} {p : α → Bool} {xs : List α} {k : Nat} (hk : k < xs.length) (e : p xs[k] = true) : xs.any p = true := by
  rw [List.any_eq_true]; exact ⟨_, List.getElem_mem hk, e⟩

set_option maxHeartbeats 400000 in
theorem indexFunc_any (F : FuncId) (caps : Array Value) (p : Int → Bool) (A : Option Addr) (xs : List Int) (n c : Nat) (w : World) (hx : IntsAt w A xs) (hnx : xs.length = n)
    (hF : ∀ (args : Array Value) (w : World), Sem.run Tryz.prog (callFunc F args) w = .ok (.enter F args) w)
    (hf : ∀ k (hk : k < xs.length) (w' : World), Kp w w' → Calls Tryz.prog F (#[.int .i64 xs[k]] ++ caps) w' fun e w'' => e = .returned (.bool (p xs[k])) ∧ Kp w' w'') :
    Calls Tryz.prog 79 #[.slice A n c, .func (.func F) #[] caps] w fun e w' => ∃ r : Int, e = .returned (.int .i64 r) ∧ decide (0 ≤ r) = xs.any p ∧ Kp w w' := by
  have hn : n ≤ 9223372036854775807 := hnx ▸ hx.1
  have Hx := Lib.hid hnx; clear hnx
  have Hf := Lib.hid hf; clear hf
  go_enter Tryz.func79, Tryz.ntmps79
  go_wp2
  go_loopw [8] (fun i wr => ∃ k : Nat, k ≤ n ∧ i = .int .i64 k ∧ Hid ((xs.take k).any p = false) ∧ Kp w wr) (fun i _ => n - (intOf i).toNat)
  case atStart => exact ⟨0, by omega, rfl, rfl, Kp.refl w⟩
  case round =>
    obtain ⟨k, hk, rfl, Hp, hkp⟩ := hrel
    by_cases hlt : k < n
    · have lx : k < xs.length := by rw [Hx.out]; exact hlt
      obtain ⟨ad, rfl, hc⟩ := (hx.kp hkp).at_ lx
      go_wp2_with fail
      refine (Hf.out k lx wr hkp).mono ?_
      rintro e w1 ⟨rfl, hk1⟩
      cases hpk : p xs[k]
      · go_wp2
        go_roundw
        case rel => exact ⟨k + 1, by omega, by go_num, any_take_succ Hp.out lx hpk, hkp.trans hk1⟩
        case measure => simp [intOf]; omega
      · go_wp2
        go_ret
        exact ⟨k, rfl, by rw [any_of lx hpk]; simp, hkp.trans hk1⟩
    · go_wp2
      go_ret
      refine ⟨-1, rfl, ?_, hkp⟩
      have hp := Hp.out
      rw [List.take_of_length_le (by rw [Hx.out]; omega)] at hp
      rw [hp]; rfl

theorem containsFunc_any (F : FuncId) (caps : Array Value) (p : Int → Bool) (A : Option Addr) (xs : List Int) (n c : Nat) (w : World) (hx : IntsAt w A xs) (hnx : xs.length = n)
    (hF : ∀ (args : Array Value) (w : World), Sem.run Tryz.prog (callFunc F args) w = .ok (.enter F args) w)
    (hf : ∀ k (hk : k < xs.length) (w' : World), Kp w w' → Calls Tryz.prog F (#[.int .i64 xs[k]] ++ caps) w' fun e w'' => e = .returned (.bool (p xs[k])) ∧ Kp w' w'') :
    Calls Tryz.prog 30 #[.slice A n c, .func (.func F) #[] caps] w fun e w' => e = .returned (.bool (xs.any p)) ∧ Kp w w' := by
  have Hx := Lib.hid hnx; clear hnx
  have Hf := Lib.hid hf; clear hf
  go_enter Tryz.func30, Tryz.ntmps30
  go_wp2_with fail
  refine (indexFunc_any F caps p A xs n c w hx Hx.out hF Hf.out).mono ?_
  rintro e w1 ⟨r, rfl, hr, hk1⟩
  have Hr := Lib.hid hr; clear hr
  go_wp2
  go_ret
  exact ⟨ret_bool Hr.out, hk1⟩

/-- All within bounds. -/
def allB (xs : List Int) (lo hi : Int) : Bool := xs.all fun x => inB x lo hi
theorem allB_iff {xs : List Int} {lo hi : Int} : allB xs lo hi = true ↔ ∀ x ∈ xs, lo ≤ x ∧ x ≤ hi := by simp [allB, inB]

theorem areBetween_clo (a : Int) (p q : Addr) (lo hi : Int) (w : World) (h1 : w.cell? p = some (.int .i64 lo)) (h2 : w.cell? q = some (.int .i64 hi)) :
    Calls Tryz.prog 116 #[.int .i64 a, .pointer (some p), .pointer (some q)] w fun e w' => e = .returned (.bool (!inB a lo hi)) ∧ Kp w w' := by
  go_enter Tryz.func116, Tryz.ntmps116
  go_wp2_with (go_at_call 80; refine (between_any _ _ _ _).mono ?_; rintro e w' ⟨rfl, rfl⟩)
  go_ret
  exact ⟨rfl, Kp.refl _⟩

theorem areBetween_any (A : Option Addr) (xs : List Int) (n c : Nat) (lo hi : Int) (w : World) (hx : IntsAt w A xs) (hnx : xs.length = n) :
    Calls Tryz.prog 81 #[.slice A n c, .int .i64 lo, .int .i64 hi] w fun e w' => e = .returned (.bool (allB xs lo hi)) ∧ Kp w w' := by
  have Hx := Lib.hid hnx; clear hnx
  have hmf : ∀ (fn : Fn) (first cap : Array Value) (w : World), (Instr.makeFunc fn first cap).run Tryz.prog w = .ok (.func fn first cap) w := fun _ _ _ _ => rfl
  have hk2 : Kp w ((w.alloc (.cells #[.int .i64 lo] 3)).alloc (.cells #[.int .i64 hi] 3)) := ((Kp.refl w).alloc _).alloc _
  have c1 : ((w.alloc (.cells #[.int .i64 lo] 3)).alloc (.cells #[.int .i64 hi] 3)).cell? ⟨w.heap.size, 0, none⟩ = some (.int .i64 lo) := by
    rw [World.cell?_alloc_past _ _ _ (by simp), World.cell?_alloc_at _ _ _ _ rfl]; rfl
  have c2 : ((w.alloc (.cells #[.int .i64 lo] 3)).alloc (.cells #[.int .i64 hi] 3)).cell? ⟨w.heap.size + 1, 0, none⟩ = some (.int .i64 hi) := by
    rw [World.cell?_alloc_at _ _ _ _ (by simp)]; rfl
  go_enter Tryz.func81, Tryz.ntmps81
  go_wp2_with fail
  refine (containsFunc_any _ _ (fun x => !inB x lo hi) A xs n c _ (hx.kp hk2) Hx.out (callFunc_of Tryz.func116 (by kernel_rfl) (by kernel_rfl)) ?_).mono ?_
  · intro k hk w' hk'
    exact areBetween_clo _ _ _ lo hi w' (hk'.get c1) (hk'.get c2)
  rintro e w1 ⟨rfl, hk1⟩
  go_wp2
  go_ret
  refine ⟨ret_bool ?_, hk2.trans hk1⟩
  show (!xs.any fun x => !inB x lo hi) = xs.all fun x => inB x lo hi
  rw [List.all_eq_not_any_not]
end Go.Proofs.YtpiijhfjliolfaaGreat

namespace Go.Proofs.YtpiijhfjliolfaaGreat
open Go.RowKit

theorem all_range_succ {p : Nat → Bool} {k : Nat} : (List.range (k + 1)).all p = ((List.range k).all p && p k) := by
  rw [List.range_succ, List.all_append]; simp
theorem all_range_false {p : Nat → Bool} {k n : Nat} (hk : k < n) (h : p k = false) : (List.range n).all p = false := by
  rw [List.all_eq_false]; exact ⟨k, by simpa using hk, by simp [h]⟩
theorem all_take_succ {α : Type} {p : α → Bool} {xs : List α} {k : Nat} (h : (xs.take k).all p = true) (hk : k < xs.length) (e : p xs[k] = true) : (xs.take (k + 1)).all p = true := by
  rw [List.take_succ_eq_append_getElem hk, List.all_append, h]; simp [e]
theorem all_false_of {α : Type} {p : α → Bool} {xs : List α} {k : Nat} (hk : k < xs.length) (e : p xs[k] = false) : xs.all p = false := by
  rw [List.all_eq_false]; exact ⟨_, List.getElem_mem hk, by simp [e]⟩
theorem ofInt_i64 (a : Nat) (ha : a < 9223372036854775808) : (BitVec.ofInt 64 (a : Int)).toNat = a := by
  rw [BitVec.ofInt_natCast, BitVec.toNat_ofNat]; exact Nat.mod_eq_of_lt (by omega)
theorem i64_and_nat (a b : Nat) (ha : a < 9223372036854775808) (hb : b < 9223372036854775808) : bits .and .i64 (a : Int) (b : Int) = ((a &&& b : Nat) : Int) := by
  have hx : a &&& b < 2 ^ 63 := Nat.and_lt_two_pow _ (by omega)
  show IntKind.i64.wrap ((BitVec.ofInt 64 (a : Int) &&& BitVec.ofInt 64 (b : Int)).toNat : Int) = _
  rw [BitVec.toNat_and, ofInt_i64 a ha, ofInt_i64 b hb, IntKind.wrap_i64]
  omega
theorem i64_or_nat (a b : Nat) (ha : a < 9223372036854775808) (hb : b < 9223372036854775808) : bits .or .i64 (a : Int) (b : Int) = ((a ||| b : Nat) : Int) := by
  have hx : a ||| b < 2 ^ 63 := Nat.or_lt_two_pow (by omega) (by omega)
  show IntKind.i64.wrap ((BitVec.ofInt 64 (a : Int) ||| BitVec.ofInt 64 (b : Int)).toNat : Int) = _
  rw [BitVec.toNat_or, ofInt_i64 a ha, ofInt_i64 b hb, IntKind.wrap_i64]
  omega

theorem count_take_succ {α : Type} {p : α → Bool} {xs : List α} {k : Nat} (hk : k < xs.length) : (xs.take (k + 1)).countP p = (xs.take k).countP p + if p xs[k] then 1 else 0 := by
  rw [List.take_succ_eq_append_getElem hk, List.countP_append]; simp [List.countP_cons]
theorem count_le_len {α : Type} (p : α → Bool) (xs : List α) (k : Nat) : (xs.take k).countP p ≤ k := Nat.le_trans List.countP_le_length (by rw [List.length_take]; omega)
/-- A table for n. -/
def isTab (n : Int) (xs : List Int) : Bool := inB n 0 7 && (xs.length == 2 ^ n.toNat) && allB xs (-1000000) 1000000

theorem pow_wrap (n : Int) (h0 : 0 ≤ n) (h7 : n ≤ 7) : ∃ P : Nat, Hid (P = 2 ^ n.toNat) ∧ wrap64 (2 ^ n.toNat) = (P : Int) ∧ P ≤ 128 := by
  have h : 2 ^ n.toNat ≤ 2 ^ 7 := Nat.pow_le_pow_right (by omega) (by omega)
  have h2 : ((2 ^ n.toNat : Nat) : Int) = 2 ^ n.toNat := by simp
  refine ⟨2 ^ n.toNat, rfl, ?_, by omega⟩
  rw [← h2]
  generalize 2 ^ n.toNat = q at h
  unfold wrap64
  omega

theorem isTab_no_n {n : Int} {xs : List Int} (h : inB n 0 7 = false) : isTab n xs = false := by simp [isTab, h]
theorem isTab_no_len {n : Int} {xs : List Int} {m P : Nat} (hx : xs.length = m) (hP : P = 2 ^ n.toNat) (h : m ≠ P) : isTab n xs = false := by
  have : (xs.length == 2 ^ n.toNat) = false := by rw [beq_eq_false_iff_ne]; omega
  simp [isTab, this]
theorem isTab_eq {n : Int} {xs : List Int} {m P : Nat} (hx : xs.length = m) (hP : P = 2 ^ n.toNat) (h : m = P) (hB : inB n 0 7 = true) : isTab n xs = allB xs (-1000000) 1000000 := by
  have : (xs.length == 2 ^ n.toNat) = true := by rw [beq_iff_eq]; omega
  simp [isTab, this, hB]
theorem isTab_len {n : Int} {xs : List Int} (h : isTab n xs = true) : xs.length ≤ 128 := by
  simp only [isTab, Bool.and_eq_true, beq_iff_eq, inB_iff] at h
  have : 2 ^ n.toNat ≤ 2 ^ 7 := Nat.pow_le_pow_right (by omega) (by omega)
  omega
theorem isTab_mem {n : Int} {xs : List Int} (h : isTab n xs = true) : ∀ x ∈ xs, -1000000 ≤ x ∧ x ≤ 1000000 := by
  simp only [isTab, Bool.and_eq_true] at h
  exact allB_iff.1 h.2

end Go.Proofs.YtpiijhfjliolfaaGreat

/- The reference's labels in memory: what a store does; one pass. No condition. -/
import Derived.Test.YtibbjgbbclmfnaaWaAk
namespace Go.Proofs.Ytibbjgbbclmfnaa
open Go.RowKit Go.Sort

/-- The labels and the struct that holds them. -/
structure LSt (wb wr : World) (bp gc gs gb gf J M : Nat) (cl si be fr : List Int) : Prop where
  lab : LabM wr wb.heap.size gc gs gb gf J M cl si be fr
  rng : wr.rangeAt bp 0 [.slice (some ⟨gc, 0, none⟩) J J, .slice (some ⟨gs, 0, none⟩) M M, .slice (some ⟨gb, 0, none⟩) J J, .slice (some ⟨gf, 0, none⟩) M M]
  bne : bp ≠ gc ∧ bp ≠ gs ∧ bp ≠ gb ∧ bp ≠ gf
  kp : Kp wb wr
theorem range_set {w : World} {b o : Nat} {cs : List Value} (h : w.rangeAt b o cs) {p : Addr} (hne : b ≠ p.block) (v : Value) : (w.setCell p v).rangeAt b o cs := fun j v' hv => by
  rw [World.cell?_setCell_other _ _ _ _ (fun e => hne (by rw [e]))]; exact h j v' hv
theorem LSt.fld {wb wr : World} {bp gc gs gb gf J M : Nat} {cl si be fr : List Int} (h : LSt wb wr bp gc gs gb gf J M cl si be fr) :
    wr.cell? ⟨bp, 0, none⟩ = some (.slice (some ⟨gc, 0, none⟩) J J) ∧ wr.cell? ⟨bp, 1, none⟩ = some (.slice (some ⟨gs, 0, none⟩) M M) ∧ wr.cell? ⟨bp, 2, none⟩ = some (.slice (some ⟨gb, 0, none⟩) J J) ∧ wr.cell? ⟨bp, 3, none⟩ = some (.slice (some ⟨gf, 0, none⟩) M M) :=
  ⟨h.rng 0 _ rfl, h.rng 1 _ rfl, h.rng 2 _ rfl, h.rng 3 _ rfl⟩
theorem LSt.go {wb wr wr' : World} {bp gc gs gb gf J M : Nat} {cl si be fr : List Int} (h : LSt wb wr bp gc gs gb gf J M cl si be fr) (hk : Kp wr wr') : LSt wb wr' bp gc gs gb gf J M cl si be fr :=
  ⟨h.lab.kp hk, range_kp h.rng hk, h.bne, h.kp.trans hk⟩
theorem LSt.setC {wb wr : World} {bp gc gs gb gf J M : Nat} {cl si be fr : List Int} (h : LSt wb wr bp gc gs gb gf J M cl si be fr) (hl : cl.length = J) {j : Nat} (hj : j < J) :
    wr.cell? ⟨gc, j, none⟩ = some (.int .i64 (lget cl j)) ∧ wr.frozen? ⟨gc, j, none⟩ = false ∧ ∀ z : Int, LSt wb (wr.setCell ⟨gc, j, none⟩ (.int .i64 z)) bp gc gs gb gf J M (cl.set j z) si be fr := by
  obtain ⟨c1, c2, c3⟩ := h.lab.oc.slotL hl hj
  obtain ⟨n1, n2, n3, n4, n5, n6⟩ := h.lab.ne
  refine ⟨c1, c2, fun z => ?_⟩
  obtain ⟨o1, t1⟩ := c3 z
  have hb := (h.lab.oc.lt gc rfl).1
  exact ⟨⟨o1, h.lab.os.other t1 (Ne.symm n1), h.lab.ob.other t1 (Ne.symm n2), h.lab.of.other t1 (Ne.symm n3), h.lab.ne⟩, range_set h.rng h.bne.1 _, h.bne, h.kp.turn t1 (fun k e => by subst e; exact hb)⟩
theorem LSt.setS {wb wr : World} {bp gc gs gb gf J M : Nat} {cl si be fr : List Int} (h : LSt wb wr bp gc gs gb gf J M cl si be fr) (hl : si.length = M) {j : Nat} (hj : j < M) :
    wr.cell? ⟨gs, j, none⟩ = some (.int .i64 (lget si j)) ∧ wr.frozen? ⟨gs, j, none⟩ = false ∧ ∀ z : Int, LSt wb (wr.setCell ⟨gs, j, none⟩ (.int .i64 z)) bp gc gs gb gf J M cl (si.set j z) be fr := by
  obtain ⟨c1, c2, c3⟩ := h.lab.os.slotL hl hj
  obtain ⟨n1, n2, n3, n4, n5, n6⟩ := h.lab.ne
  refine ⟨c1, c2, fun z => ?_⟩
  obtain ⟨o1, t1⟩ := c3 z
  have hb := (h.lab.os.lt gs rfl).1
  exact ⟨⟨h.lab.oc.other t1 n1, o1, h.lab.ob.other t1 (Ne.symm n4), h.lab.of.other t1 (Ne.symm n5), h.lab.ne⟩, range_set h.rng h.bne.2.1 _, h.bne, h.kp.turn t1 (fun k e => by subst e; exact hb)⟩
theorem LSt.setB {wb wr : World} {bp gc gs gb gf J M : Nat} {cl si be fr : List Int} (h : LSt wb wr bp gc gs gb gf J M cl si be fr) (hl : be.length = J) {j : Nat} (hj : j < J) :
    wr.cell? ⟨gb, j, none⟩ = some (.int .i64 (lget be j)) ∧ wr.frozen? ⟨gb, j, none⟩ = false ∧ ∀ z : Int, LSt wb (wr.setCell ⟨gb, j, none⟩ (.int .i64 z)) bp gc gs gb gf J M cl si (be.set j z) fr := by
  obtain ⟨c1, c2, c3⟩ := h.lab.ob.slotL hl hj
  obtain ⟨n1, n2, n3, n4, n5, n6⟩ := h.lab.ne
  refine ⟨c1, c2, fun z => ?_⟩
  obtain ⟨o1, t1⟩ := c3 z
  have hb := (h.lab.ob.lt gb rfl).1
  exact ⟨⟨h.lab.oc.other t1 n2, h.lab.os.other t1 n4, o1, h.lab.of.other t1 (Ne.symm n6), h.lab.ne⟩, range_set h.rng h.bne.2.2.1 _, h.bne, h.kp.turn t1 (fun k e => by subst e; exact hb)⟩
theorem LSt.setF {wb wr : World} {bp gc gs gb gf J M : Nat} {cl si be fr : List Int} (h : LSt wb wr bp gc gs gb gf J M cl si be fr) (hl : fr.length = M) {j : Nat} (hj : j < M) :
    wr.cell? ⟨gf, j, none⟩ = some (.int .i64 (lget fr j)) ∧ wr.frozen? ⟨gf, j, none⟩ = false ∧ ∀ z : Int, LSt wb (wr.setCell ⟨gf, j, none⟩ (.int .i64 z)) bp gc gs gb gf J M cl si be (fr.set j z) := by
  obtain ⟨c1, c2, c3⟩ := h.lab.of.slotL hl hj
  obtain ⟨n1, n2, n3, n4, n5, n6⟩ := h.lab.ne
  refine ⟨c1, c2, fun z => ?_⟩
  obtain ⟨o1, t1⟩ := c3 z
  have hb := (h.lab.of.lt gf rfl).1
  exact ⟨⟨h.lab.oc.other t1 n3, h.lab.os.other t1 n5, h.lab.ob.other t1 n6, o1, h.lab.ne⟩, range_set h.rng h.bne.2.2.2 _, h.bne, h.kp.turn t1 (fun k e => by subst e; exact hb)⟩
theorem LSt.sum {wb wr : World} {bp gc gs gb gf J M : Nat} {cl si be fr : List Int} (h : LSt wb wr bp gc gs gb gf J M cl si be fr) (hc : cl.length = J) (hs : si.length = M) (hJ : J ≤ 1000) (hM : M ≤ 1000) : memSum wr gc J + memSum wr gs M = sumTo (lget cl) J + sumTo (lget si) M := by
  obtain ⟨A, c, e, hi⟩ := h.lab.oc.ints (by omega)
  simp only [Value.slice.injEq] at e
  obtain ⟨e, _, _⟩ := e
  rw [← e] at hi
  obtain ⟨A2, c2, e2, hi2⟩ := h.lab.os.ints (by omega)
  simp only [Value.slice.injEq] at e2
  obtain ⟨e2, _, _⟩ := e2
  rw [← e2] at hi2
  rw [memSum_ints hi hc, memSum_ints hi2 hs]
theorem LabM.mono {w : World} {base base' gc gs gb gf J M : Nat} {cl si be fr : List Int} (h : LabM w base gc gs gb gf J M cl si be fr) (hb : base' ≤ base) : LabM w base' gc gs gb gf J M cl si be fr :=
  ⟨h.oc.mono hb, h.os.mono hb, h.ob.mono hb, h.of.mono hb, h.ne⟩
theorem LabM.turn {w w' : World} {base gc gs gb gf J M : Nat} {cl si be fr : List Int} {b : Nat} (h : LabM w base gc gs gb gf J M cl si be fr) (ht : Turn (fun i => i = b) w w') (hb : ∀ k, base ≤ k → k ≠ b) : LabM w' base gc gs gb gf J M cl si be fr :=
  ⟨h.oc.other ht (hb _ (h.oc.lt gc rfl).1), h.os.other ht (hb _ (h.os.lt gs rfl).1), h.ob.other ht (hb _ (h.ob.lt gb rfl).1), h.of.other ht (hb _ (h.of.lt gf rfl).1), h.ne⟩
/-- One pass over all pairs, as far as it has come. -/
def PassS (J M : Nat) (d : Nat → Nat → Int) (may : Nat → Nat → Bool) (f : Nat → Nat → Int) (cl si : List Int) (ch : Bool) (j a : Nat) : Prop :=
  ch = false → ∀ j' a', j' < J → a' < M → (j' < j ∨ (j' = j ∧ a' < a)) → (may j' a' = true → lget cl j' < farN → lget si a' ≤ lget cl j' + d j' a') ∧ (0 < f j' a' → lget si a' < farN → lget cl j' ≤ lget si a' - d j' a')
/-- .. and the first half of the next one. -/
def PassH (J M : Nat) (d : Nat → Nat → Int) (may : Nat → Nat → Bool) (f : Nat → Nat → Int) (cl si : List Int) (ch : Bool) (j a : Nat) : Prop :=
  PassS J M d may f cl si ch j a ∧ (ch = false → may j a = true → lget cl j < farN → lget si a ≤ lget cl j + d j a)
theorem PassS.start {J M : Nat} {d : Nat → Nat → Int} {may : Nat → Nat → Bool} {f : Nat → Nat → Int} {cl si : List Int} : PassS J M d may f cl si false 0 0 := fun _ j a _ _ h => by omega
theorem PassS.yes {J M : Nat} {d : Nat → Nat → Int} {may : Nat → Nat → Bool} {f : Nat → Nat → Int} {cl si : List Int} {j a : Nat} : PassS J M d may f cl si true j a := fun h => by cases h
theorem PassH.yes {J M : Nat} {d : Nat → Nat → Int} {may : Nat → Nat → Bool} {f : Nat → Nat → Int} {cl si : List Int} {j a : Nat} : PassH J M d may f cl si true j a := ⟨PassS.yes, fun h => by cases h⟩
theorem PassS.done {J M : Nat} {d : Nat → Nat → Int} {may : Nat → Nat → Bool} {f : Nat → Nat → Int} {cl si : List Int} (h : PassS J M d may f cl si false J 0) : StopS J M d may f cl si :=
  ⟨fun j a hj ha hm hr => (h rfl j a hj ha (.inl hj)).1 hm hr, fun j a hj ha hf hr => (h rfl j a hj ha (.inl hj)).2 hf hr⟩
theorem PassS.row {J M : Nat} {d : Nat → Nat → Int} {may : Nat → Nat → Bool} {f : Nat → Nat → Int} {cl si : List Int} {ch : Bool} {j : Nat} (h : PassS J M d may f cl si ch j M) : PassS J M d may f cl si ch (j + 1) 0 :=
  fun hc j' a' h1 h2 h3 => h hc j' a' h1 h2 (by omega)
theorem PassS.half {J M : Nat} {d : Nat → Nat → Int} {may : Nat → Nat → Bool} {f : Nat → Nat → Int} {cl si : List Int} {ch : Bool} {j a : Nat} (h : PassS J M d may f cl si ch j a) (hs : may j a = true → lget cl j < farN → lget si a ≤ lget cl j + d j a) : PassH J M d may f cl si ch j a := ⟨h, fun _ => hs⟩
theorem PassH.full {J M : Nat} {d : Nat → Nat → Int} {may : Nat → Nat → Bool} {f : Nat → Nat → Int} {cl si : List Int} {ch : Bool} {j a : Nat} (h : PassH J M d may f cl si ch j a) (hs : 0 < f j a → lget si a < farN → lget cl j ≤ lget si a - d j a) : PassS J M d may f cl si ch j (a + 1) :=
  fun hc j' a' h1 h2 h3 => by
    by_cases e : j' = j ∧ a' = a
    · obtain ⟨rfl, rfl⟩ := e; exact ⟨h.2 hc, hs⟩
    · exact h.1 hc j' a' h1 h2 (by omega)
/-- The labels' sum since the pass began. -/
def FellS (J M : Nat) (s0 : Int) (cl si : List Int) (ch : Bool) : Prop := sumTo (lget cl) J + sumTo (lget si) M ≤ s0 ∧ (ch = true → sumTo (lget cl) J + sumTo (lget si) M < s0)
theorem sumTo_set {xs : List Int} {n j : Nat} (hl : xs.length = n) (hj : j < n) (z : Int) : sumTo (lget (xs.set j z)) n = sumTo (lget xs) n + (z - lget xs j) := by
  have e : sumTo (lget (xs.set j z)) n = sumTo (upd (lget xs) j z) n := sumTo_congr (fun i _ => by rw [lget_set (by omega)]; rfl)
  rw [e, sumTo_upd, if_pos hj]
theorem FellS.setS {J M : Nat} {s0 : Int} {cl si : List Int} {ch : Bool} (h : FellS J M s0 cl si ch) (hl : si.length = M) {a : Nat} (ha : a < M) {z : Int} (hz : z < lget si a) : FellS J M s0 cl (si.set a z) true := by
  unfold FellS
  rw [sumTo_set hl ha]
  have := h.1
  exact ⟨by omega, fun _ => by omega⟩
theorem FellS.setC {J M : Nat} {s0 : Int} {cl si : List Int} {ch : Bool} (h : FellS J M s0 cl si ch) (hl : cl.length = J) {j : Nat} (hj : j < J) {z : Int} (hz : z < lget cl j) : FellS J M s0 (cl.set j z) si true := by
  unfold FellS
  rw [sumTo_set hl hj]
  have := h.1
  exact ⟨by omega, fun _ => by omega⟩
theorem Turn.get {S : Nat → Prop} {w w' : World} (ht : Turn S w w') {p : Addr} {v : Value} (hp : w.cell? p = some v) (hs : ¬ S p.block) : w'.cell? p = some v := by
  rw [World.cell?_of_block (w := w) (ht.block _ (World.block_lt_of_cell? _ _ hp) hs)]; exact hp
theorem Turn.range {S : Nat → Prop} {w w' : World} (ht : Turn S w w') {b o : Nat} {cs : List Value} (h : w.rangeAt b o cs) (hs : ¬ S b) : w'.rangeAt b o cs := fun j v hv => ht.get (h j v hv) hs
theorem Turn.there {S : Nat → Prop} {w w' : World} (ht : Turn S w w') {b n : Nat} (h : w.there b 0 n) (hs : ¬ S b) : w'.there b 0 n := fun j hj => by
  obtain ⟨h1, h2⟩ := h j hj
  obtain ⟨v, hv⟩ := Option.isSome_iff_exists.1 h1
  exact ⟨by rw [ht.get hv hs]; rfl, by rw [World.frozen?_of_block (w := w) (ht.block _ (World.block_lt_of_cell? _ _ hv) hs)]; exact h2⟩
theorem LabM.turnS {S : Nat → Prop} {w w' : World} {base gc gs gb gf J M : Nat} {cl si be fr : List Int} (h : LabM w base gc gs gb gf J M cl si be fr) (ht : Turn S w w') (hb : ∀ k, base ≤ k → ¬ S k) : LabM w' base gc gs gb gf J M cl si be fr := by
  have one : ∀ {g n c : Nat} {xs : List Int}, Own w base (.slice (some ⟨g, 0, none⟩) n c) xs → Own w' base (.slice (some ⟨g, 0, none⟩) n c) xs := fun {g n c xs} o => o.turn ht (fun k hk => hb k (o.lt k hk).1)
  exact ⟨one h.oc, one h.os, one h.ob, one h.of, h.ne⟩
/-- All that a net writes lies below. -/
def NetLt (L : NetL) (J bl : Nat) : Prop := (0 < J → L.gn < bl) ∧ L.gr < bl ∧ ∀ j, j < J → L.Bk j < bl
theorem NetS.below {w : World} {base : Nat} {L : NetL} {J M : Nat} {nl lf : Nat → Int} {fl : Nat → Nat → Int} {may : Nat → Nat → Bool} (h : NetS w base L J M nl lf fl may) {bl : Nat} (hb : w.heap.size ≤ bl) : NetLt L J bl :=
  ⟨fun hj => Nat.lt_of_lt_of_le ((h.nd hj).lt L.gn rfl).2 hb, Nat.lt_of_lt_of_le (h.rm.lt L.gr rfl).2 hb, fun j hj => Nat.lt_of_lt_of_le ((h.fl (by omega)).lt hj).2 hb⟩
theorem low_sum' {n : Nat} {xs : List Int} (B : Int) (h : ∀ a, a < n → -B ≤ lget xs a) : -(n * B : Int) ≤ sumTo (lget xs) n := by
  have h1 : sumTo (fun _ => -B) n ≤ sumTo (lget xs) n := sumTo_mono' h
  have h2 : ∀ k : Nat, sumTo (fun _ => -B) k = -(k * B : Int) := fun k => by
    induction k with
    | zero => show (0 : Int) = _; simp
    | succ k ih => rw [sumTo_succ, ih]; push_cast; rw [Int.add_mul]; omega
  rw [h2] at h1; exact h1
end Go.Proofs.Ytibbjgbbclmfnaa

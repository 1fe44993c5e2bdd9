/- One more unit of a client: the program's labels; The sum of a list: the reference's walk; slices.Clone, slices.Min over lists of integers; Flows: the reference's walks of a row, of a flow and of its cost; Flows: the reference's walks of a flow and of its cost; Flows: what a flow costs, by reference and program; the program's walk of a flow. No condition. -/
import Derived.Test.YtbfmencamaicbaaGreatQAf
import Derived.Test.YtbfmencamaicbaaGreatQAa
import Derived.Test.YtbfmencamaicbaaGreatQAb
import Derived.WalkSpells
import Derived.Test.YtbfmencamaicbaaGreatQAc
namespace Go.Proofs.YtbfmencamaicbaaGreat
open Go.RowKit Go.Sort

/-- Labels in memory. -/
structure PSt (w0 wr : World) (gc gf gb J M : Nat) (d : Nat → Nat → Int) (may : Nat → Nat → Bool) (f : Nat → Nat → Int) (ps : Nat → Int) (first : Nat) (co fr b : List Int) : Prop where
  oc : Own wr w0.heap.size (.slice (some ⟨gc, 0, none⟩) M M) co
  of : Own wr w0.heap.size (.slice (some ⟨gf, 0, none⟩) M M) fr
  ob : Own wr w0.heap.size (.slice (some ⟨gb, 0, none⟩) M M) b
  ne : gc ≠ gf ∧ gc ≠ gb ∧ gf ≠ gb
  bf : Bfs J M d may f ps first co fr b
  kp : Kp w0 wr
theorem Own.other {w w' : World} {base g g' n cap : Nat} {xs : List Int} (h : Own w base (.slice (some ⟨g, 0, none⟩) n cap) xs) (ht : Turn (fun i => i = g') w w') (hne : g ≠ g') : Own w' base (.slice (some ⟨g, 0, none⟩) n cap) xs :=
  h.turn ht (fun k hk e => hne (by have : g = k := by simpa [Value.ownBlock] using hk
                                   omega))
theorem PSt.go {w0 wr wr' : World} {gc gf gb J M : Nat} {d : Nat → Nat → Int} {may : Nat → Nat → Bool} {f : Nat → Nat → Int} {ps : Nat → Int} {first : Nat} {co fr b : List Int} (h : PSt w0 wr gc gf gb J M d may f ps first co fr b) (hk : Kp wr wr') : PSt w0 wr' gc gf gb J M d may f ps first co fr b :=
  ⟨h.oc.kp hk, h.of.kp hk, h.ob.kp hk, h.ne, h.bf, h.kp.trans hk⟩
theorem PSt.cells {w0 wr : World} {gc gf gb J M : Nat} {d : Nat → Nat → Int} {may : Nat → Nat → Bool} {f : Nat → Nat → Int} {ps : Nat → Int} {first : Nat} {co fr b : List Int} (h : PSt w0 wr gc gf gb J M d may f ps first co fr b) {a : Nat} (ha : a < M) :
    wr.cell? ⟨gc, a, none⟩ = some (.int .i64 (lget co a)) ∧ wr.cell? ⟨gf, a, none⟩ = some (.int .i64 (lget fr a)) ∧ wr.cell? ⟨gb, a, none⟩ = some (.int .i64 (lget b a)) :=
  ⟨(h.oc.slotL h.bf.lc ha).1, (h.of.slotL h.bf.lfr ha).1, (h.ob.slotL h.bf.lb ha).1⟩
theorem PSt.sum {w0 wr : World} {gc gf gb J M : Nat} {d : Nat → Nat → Int} {may : Nat → Nat → Bool} {f : Nat → Nat → Int} {ps : Nat → Int} {first : Nat} {co fr b : List Int} (h : PSt w0 wr gc gf gb J M d may f ps first co fr b) (hM : M ≤ 1000) : memSum wr gc M = sumTo (lget co) M := by
  obtain ⟨A, c, e, hi⟩ := h.oc.ints (by rw [h.bf.lc]; omega)
  simp only [Value.slice.injEq] at e
  obtain ⟨e, _, _⟩ := e
  rw [← e] at hi
  exact memSum_ints hi h.bf.lc
/-- A label falls: three numbers are written. -/
theorem PSt.relax {w0 wr : World} {gc gf gb J M : Nat} {d : Nat → Nat → Int} {may : Nat → Nat → Bool} {f : Nat → Nat → Int} {lf pc ps : Nat → Int} {T : Int} {first : Nat} {co fr b : List Int} (h : PSt w0 wr gc gf gb J M d may f ps first co fr b) (hp : Pot J M d may f lf pc ps T)
    {i a x : Nat} (hi : i < J) (ha : a < M) (hx : x < M) (hf : 0 < f i a) (hm : may i x = true) (hr : lget co a < farN) (hlt : lget co a - d i a + d i x < lget co x) :
    PSt w0 (((wr.setCell ⟨gc, x, none⟩ (.int .i64 (lget co a - d i a + d i x))).setCell ⟨gf, x, none⟩ (.int .i64 (a : Int))).setCell ⟨gb, x, none⟩ (.int .i64 (i : Int))) gc gf gb J M d may f ps first
      (co.set x (lget co a - d i a + d i x)) (fr.set x (a : Int)) (b.set x (i : Int)) ∧
    wr.frozen? ⟨gc, x, none⟩ = false ∧ (wr.setCell ⟨gc, x, none⟩ (.int .i64 (lget co a - d i a + d i x))).frozen? ⟨gf, x, none⟩ = false ∧ (wr.setCell ⟨gc, x, none⟩ (.int .i64 (lget co a - d i a + d i x))).cell? ⟨gf, x, none⟩ = some (.int .i64 (lget fr x)) ∧
    ((wr.setCell ⟨gc, x, none⟩ (.int .i64 (lget co a - d i a + d i x))).setCell ⟨gf, x, none⟩ (.int .i64 (a : Int))).frozen? ⟨gb, x, none⟩ = false ∧ ((wr.setCell ⟨gc, x, none⟩ (.int .i64 (lget co a - d i a + d i x))).setCell ⟨gf, x, none⟩ (.int .i64 (a : Int))).cell? ⟨gb, x, none⟩ = some (.int .i64 (lget b x)) := by
  obtain ⟨n1, n2, n3⟩ := h.ne
  obtain ⟨c1, c2, c3⟩ := h.oc.slotL h.bf.lc hx
  obtain ⟨o1, t1⟩ := c3 (lget co a - d i a + d i x)
  have f1 := h.of.other t1 (Ne.symm n1)
  have b1 := h.ob.other t1 (Ne.symm n2)
  obtain ⟨e1, e2, e3⟩ := f1.slotL h.bf.lfr hx
  obtain ⟨o2, t2⟩ := e3 (a : Int)
  have o12 := o1.other t2 n1
  have b2 := b1.other t2 (Ne.symm n3)
  obtain ⟨g1, g2, g3⟩ := b2.slotL h.bf.lb hx
  obtain ⟨o3, t3⟩ := g3 (i : Int)
  have hc := (h.oc.lt gc rfl).1; have hf' := (h.of.lt gf rfl).1; have hb' := (h.ob.lt gb rfl).1
  exact ⟨⟨o12.other t3 n2, o2.other t3 n3, o3, h.ne, h.bf.relax hp hi ha hx hf hm hr hlt,
    ((h.kp.turn t1 (fun k e => by subst e; exact hc)).turn t2 (fun k e => by subst e; exact hf')).turn t3 (fun k e => by subst e; exact hb')⟩, c2, e2, e1, g2, g1⟩
/-- One pass over all steps, as far as it has come. -/
def PassI (J M : Nat) (d : Nat → Nat → Int) (may : Nat → Nat → Bool) (f : Nat → Nat → Int) (co : List Int) (ch : Bool) (i a x : Nat) : Prop :=
  ch = false → ∀ i' a' x', i' < J → a' < M → x' < M → (i' < i ∨ (i' = i ∧ (a' < a ∨ (a' = a ∧ x' < x)))) → 0 < f i' a' → lget co a' < farN → may i' x' = true → lget co x' ≤ lget co a' - d i' a' + d i' x'
theorem PassI.done {J M : Nat} {d : Nat → Nat → Int} {may : Nat → Nat → Bool} {f : Nat → Nat → Int} {co : List Int} (h : PassI J M d may f co false J 0 0) : StopI J M d may f co :=
  fun i a x hi ha hx hf hr hm => h rfl i a x hi ha hx (.inl hi) hf hr hm
theorem PassI.start {J M : Nat} {d : Nat → Nat → Int} {may : Nat → Nat → Bool} {f : Nat → Nat → Int} {co : List Int} : PassI J M d may f co false 0 0 0 := fun _ i' a' x' _ _ _ h => by omega
theorem PassI.yes {J M : Nat} {d : Nat → Nat → Int} {may : Nat → Nat → Bool} {f : Nat → Nat → Int} {co : List Int} {i a x : Nat} : PassI J M d may f co true i a x := fun h => by cases h
theorem PassI.next {J M : Nat} {d : Nat → Nat → Int} {may : Nat → Nat → Bool} {f : Nat → Nat → Int} {co : List Int} {ch : Bool} {i a x : Nat} (h : PassI J M d may f co ch i a x) (hs : may i x = true → lget co x ≤ lget co a - d i a + d i x) : PassI J M d may f co ch i a (x + 1) :=
  fun hc i' a' x' h1 h2 h3 h4 h5 h6 h7 => by
    by_cases e : i' = i ∧ a' = a ∧ x' = x
    · obtain ⟨rfl, rfl, rfl⟩ := e; exact hs h7
    · exact h hc i' a' x' h1 h2 h3 (by omega) h5 h6 h7
theorem PassI.site {J M : Nat} {d : Nat → Nat → Int} {may : Nat → Nat → Bool} {f : Nat → Nat → Int} {co : List Int} {ch : Bool} {i a : Nat} (h : PassI J M d may f co ch i a M) : PassI J M d may f co ch i (a + 1) 0 :=
  fun hc i' a' x' h1 h2 h3 h4 h5 h6 h7 => h hc i' a' x' h1 h2 h3 (by omega) h5 h6 h7
theorem PassI.skip {J M : Nat} {d : Nat → Nat → Int} {may : Nat → Nat → Bool} {f : Nat → Nat → Int} {co : List Int} {ch : Bool} {i a : Nat} (h : PassI J M d may f co ch i a 0) (hs : ¬ (0 < f i a ∧ lget co a < farN)) : PassI J M d may f co ch i (a + 1) 0 :=
  fun hc i' a' x' h1 h2 h3 h4 h5 h6 h7 => by
    by_cases e : i' = i ∧ a' = a
    · obtain ⟨rfl, rfl⟩ := e; exact absurd ⟨h5, h6⟩ hs
    · exact h hc i' a' x' h1 h2 h3 (by omega) h5 h6 h7
theorem PassI.row {J M : Nat} {d : Nat → Nat → Int} {may : Nat → Nat → Bool} {f : Nat → Nat → Int} {co : List Int} {ch : Bool} {i : Nat} (h : PassI J M d may f co ch i M 0) : PassI J M d may f co ch (i + 1) 0 0 :=
  fun hc i' a' x' h1 h2 h3 h4 h5 h6 h7 => h hc i' a' x' h1 h2 h3 (by omega) h5 h6 h7
/-- The labels' sum since the pass began. -/
def Fell (M : Nat) (s0 : Int) (co : List Int) (ch : Bool) : Prop := sumTo (lget co) M ≤ s0 ∧ (ch = true → sumTo (lget co) M < s0)
end Go.Proofs.YtbfmencamaicbaaGreat

namespace Go.Proofs.YtbfmencamaicbaaGreat
open Go.RowKit Go.Sort

set_option maxHeartbeats 400000 in
theorem l3Sum_any (A0 : Option Addr) (L : List Int) (n c0 : Nat) (w : World) (hL : IntsAt w A0 L) (hn : L.length = n) (hb : ∀ k, k ≤ n → -1000000000 ≤ (L.take k).sum ∧ (L.take k).sum ≤ 1000000000) (he : ∀ x ∈ L, -1000000000 ≤ x ∧ x ≤ 1000000000) :
    Calls Tryz.prog 33 #[.slice A0 n c0] w fun e w' => e = .returned (.int .i64 L.sum) ∧ w = w' := by
  have hm : n ≤ 9223372036854775807 := hn ▸ hL.1
  have Hn := Lib.hid hn; have Hb := Lib.hid hb; have He := Lib.hid he
  clear hn hb he
  go_enter Tryz.func33, Tryz.ntmps33
  go_wp2_with fail
  go_loop [3, 4] (fun sv iv => ∃ k : Nat, k ≤ n ∧ iv = .int .i64 k ∧ sv = .int .i64 (L.take k).sum) (fun _ iv => n - (intOf iv).toNat)
  case atStart => exact ⟨0, by omega, rfl, rfl⟩
  case round =>
    obtain ⟨k, hk, rfl, rfl⟩ := hrel
    by_cases hlt : k < n
    · have lx : k < L.length := by rw [Hn.out]; exact hlt
      obtain ⟨ad, rfl, hc⟩ := hL.at_ lx
      obtain ⟨b1, b2⟩ := Hb.out k hk
      obtain ⟨b3, b4⟩ := He.out _ (List.getElem_mem lx)
      have hsu : Hid ((L.take (k + 1)).sum = (L.take k).sum + L[k]) := by show _ = _; rw [List.take_succ_eq_append_getElem lx, List.sum_append]; simp
      generalize (L.take k).sum = q at *
      go_wp2_with fail
      go_round
      case rel => exact ⟨k + 1, by omega, by go_num, by rw [hsu.out]⟩
      case measure => simp [intOf]; omega
    · have htk := Lib.hid (show (L.take k).sum = L.sum from by rw [List.take_of_length_le (by rw [Hn.out]; omega)])
      go_wp2_with fail
      go_ret
      exact ⟨ret_int htk.out, rfl⟩
end Go.Proofs.YtbfmencamaicbaaGreat

namespace Go.Proofs.YtbfmencamaicbaaGreat
open Go.RowKit Go.Sort

/-- append of a whole list of numbers to a slice of the call's own. -/
theorem wpl_appAll {ops : Array Oper} {rest : List Oper} {o : Oper} {a : Act} {Q : Exit → Act → World → Prop} {W : World} (hgd : o.guard = none) (s x : Operand)
    (ho : o.op = .call { callee := .builtin .append, args := #[s, x], argTypes := #[22, 22] }) (base : Nat) (v : Value) (xs ys : List Int) (ad : Addr) (m c : Nat)
    (hs : a.eval s = v) (hx : a.eval x = .slice (some ad) m c) (hown : Own W base v xs) (hy : IntsAt W (some ad) ys) (hym : ys.length = m) (hbase : base ≤ W.heap.size) (hlen : xs.length + ys.length ≤ 4194304)
    (h : ∀ v' w', Own w' base v' (xs ++ ys) → Turn (fun i => v.ownBlock = some i) W w' → (v'.ownBlock = v.ownBlock ∨ ∀ g, v'.ownBlock = some g → W.heap.size ≤ g) → wpList Tryz.prog ops Q rest (a.put o.dst v') w') :
    wpList Tryz.prog ops Q (o :: rest) a W := by
  obtain ⟨i0, hi, hz0, hz1, hz2⟩ := info_parts infoInt
  refine wpList_append_own_at _ hgd s x 22 ho base 3 i0 (.int .i64 0) 1 8 Tryz.underlying22 hi hz0 hz1 hz2 rfl (by decide) v xs.length (xs.map (Value.int .i64)) hs hown ad m c (ys.map (Value.int .i64)) hx (by simp [hym]) ?_ (ints_oneCell _ _) ?_ ?_ hbase ?_
  · intro j u hj
    by_cases hlt : j < ys.length
    · rw [List.getElem?_map, List.getElem?_eq_getElem hlt] at hj
      have e : u = .int .i64 ys[j] := by simpa using hj.symm
      rw [e]; exact hy.some_ hlt
    · rw [List.getElem?_eq_none (by simpa using hlt)] at hj; cases hj
  · unfold maxLen; omega
  · omega
  · intro v' w' h2 h3 _ h4
    refine h v' w' ?_ (Turn.of_grown h3) ?_
    · unfold Own
      rw [List.length_append, List.map_append, hym]
      exact h2
    · rcases h4 with e | e
      · exact .inl e
      · exact .inr (fun g hg => by rw [e] at hg; simp at hg; omega)

theorem clone_some (ad : Addr) (xs : List Int) (n c : Nat) (w : World) (hx : IntsAt w (some ad) xs) (hn : xs.length = n) (hb : n ≤ 1048576) :
    Calls Tryz.prog 65 #[.slice (some ad) n c] w fun e w' => ∃ v, e = .returned v ∧ Own w' w.heap.size v xs ∧ Kp w w' := by
  have Hn := Lib.hid hn; clear hn
  have hq := fun (w : World) (a : Option Addr) (n c : Nat) => Lib.run_eql_slice_nil (P := Tryz.prog) w 22 3 a n c 0 0 Tryz.underlying22
  have hlen : ([] : List Int).length + xs.length ≤ 4194304 := by rw [Hn.out]; simp; omega
  have ho0 := own_new0 w w.heap.size (Nat.le_refl _)
  have hk0 := (Kp.refl w).alloc (.cells #[] 3)
  go_enter Tryz.func65, Tryz.ntmps65
  go_wp2_with (at_builtin; refine wpl_appAll rfl (.tmp 5) (.tmp 6) rfl w.heap.size _ [] xs ad n c rfl rfl ho0 (hx.kp hk0) Hn.out hk0.le hlen ?_; intro v' w' ho' ht' _; have hk4 := ho0.kp_turn hk0 (Nat.le_refl _) ht')
  go_ret
  exact ⟨_, rfl, by simpa using ho', hk4⟩

end Go.Proofs.YtbfmencamaicbaaGreat

namespace Go.Proofs.YtbfmencamaicbaaGreat
open Go.RowKit Go.Sort

theorem flRow_cell {n : Nat} {need : Int} {S row : List Int} {k : Nat} (hk : k < row.length) (h : flCell need S row[k] k = false) : flRow n need S row = false := by
  have e : flCells need S row row.length = false := by
    cases hc : flCells need S row row.length
    · rfl
    · have := flCell_iff.2 (flCells_iff.1 hc k hk)
      rw [lget_at hk, h] at this; exact absurd this (by simp)
  rw [flRow, e]; rfl
theorem flRow_end {n : Nat} {need : Int} {S row : List Int} {k : Nat} (hk : row.length ≤ k) (hk2 : k ≤ row.length) (h : flCells need S row k = true) : flRow n need S row = (decide (row.length = n) && decide (row.sum = need)) := by
  obtain rfl : k = row.length := by omega
  rw [flRow, h]; rfl
theorem flCells_mem {need : Int} {S row : List Int} (h : flCells need S row row.length = true) : ∀ x ∈ row, 0 ≤ x ∧ x ≤ need := by
  intro x hx
  obtain ⟨i, hi, rfl⟩ := List.mem_iff_getElem.1 hx
  have := flCells_iff.1 h i hi
  rw [lget_at hi] at this
  exact ⟨this.1, this.2.1⟩
theorem flCells_next {need : Int} {S row : List Int} {k : Nat} (hp : flCells need S row k = true) (hk : k < row.length) (h : flCell need S row[k] k = true) : flCells need S row (k + 1) = true := by
  rw [flCells_succ, hp, lget_at hk, h]; rfl
end Go.Proofs.YtbfmencamaicbaaGreat

namespace Go.Proofs.YtbfmencamaicbaaGreat
open Go.RowKit Go.Sort

theorem flow_getD {flow : List (List Int)} {j : Nat} (h : j < flow.length) : flow.getD j [] = flow[j] := by simp [List.getD, h]
theorem flAt_at {flow : List (List Int)} {j a : Nat} (h : j < flow.length) (ha : a < flow[j].length) : flow[j][a] = flAt flow j a := by
  rw [flAt, flow_getD h, lget_at ha]
end Go.Proofs.YtbfmencamaicbaaGreat

namespace Go.Proofs.YtbfmencamaicbaaGreat
open Go.RowKit Go.Sort

theorem dAt_at {F : Fld} {j a : Nat} (h : j < F.di.length) (ha : a < F.di[j].length) : F.di[j][a] = dAt F j (a : Int) := by
  simp [dAt, List.getD, h, ha]
theorem costRow_succ (F : Fld) (flow : List (List Int)) (j a : Nat) : costRow F flow j (a + 1) = costRow F flow j a + flAt flow j a * dAt F j (a : Int) := sumTo_succ _ _
theorem costFl_succ (F : Fld) (flow : List (List Int)) (j : Nat) : costFl F flow (j + 1) = costFl F flow j + costRow F flow j F.op.length := sumTo_succ _ _
theorem costRow_zero (F : Fld) (flow : List (List Int)) (j : Nat) : costRow F flow j 0 = 0 := rfl
theorem fl_bag {S : List Int} (h : ∀ y ∈ S, 0 ≤ y) (a : Nat) : (bagN S).testBit a = flHas S a := by
  rw [bagN_bit h, Bool.eq_iff_iff, decide_eq_true_eq, flHas, List.any_eq_true]
  constructor
  · intro hx; exact ⟨_, hx, by simp⟩
  · rintro ⟨y, hy, e⟩
    have : y = (a : Int) := by simpa using e
    exact this ▸ hy
end Go.Proofs.YtbfmencamaicbaaGreat

/- One more unit of a client: the program's labels; The sum of a list: the reference's walk; slices.Clone, slices.Min over lists of integers; Flows: the reference's walks of a row, of a flow and of its cost; Flows: the reference's walks of a flow and of its cost; Flows: what a flow costs, by reference and program; the program's walk of a flow. No condition. -/
import Derived.Test.YtgdicmeabppngaaQAg
import Derived.Test.YtgdicmeabppngaaQAa
import Derived.Test.YtgdicmeabppngaaQAb
import Derived.WalkSpells
import Derived.Test.YtgdicmeabppngaaQAc
namespace Go.Proofs.Ytgdicmeabppngaa
open Go.RowKit Go.Sort

/-- Labels in memory. -/
structure PSt (w0 wr : World) (gc gf gb J M : Nat) (d : Nat → Nat → Int) (may : Nat → Nat → Bool) (f : Nat → Nat → Int) (ps : Nat → Int) (first : Nat) (co fr b : List Int) : Prop where
  oc : Own wr w0.heap.size (.slice (some ⟨gc, 0, none⟩) M M) co
  of : Own wr w0.heap.size (.slice (some ⟨gf, 0, none⟩) M M) fr
  ob : Own wr w0.heap.size (.slice (some ⟨gb, 0, none⟩) M M) b
  ne : gc ≠ gf ∧ gc ≠ gb ∧ gf ≠ gb
  bf : Bfs J M d may f ps first co fr b
  kp : Kp w0 wr
theorem Own.other {w w' : World} {base g g' n cap : Nat} {xs : List Int} (h : Own w base (.slice (some ⟨g, 0, none⟩) n cap) xs) (ht : Turn (fun i => i = g') w w') (hne : g ≠ g') : Own w' base (.slice (some ⟨g, 0, none⟩) n cap) xs :=
  h.turn ht (fun k hk e => hne (by have : g = k := by simpa [Value.ownBlock] using hk
                                   omega))
theorem PSt.go {w0 wr wr' : World} {gc gf gb J M : Nat} {d : Nat → Nat → Int} {may : Nat → Nat → Bool} {f : Nat → Nat → Int} {ps : Nat → Int} {first : Nat} {co fr b : List Int} (h : PSt w0 wr gc gf gb J M d may f ps first co fr b) (hk : Kp wr wr') : PSt w0 wr' gc gf gb J M d may f ps first co fr b :=
  ⟨h.oc.kp hk, h.of.kp hk, h.ob.kp hk, h.ne, h.bf, h.kp.trans hk⟩
theorem PSt.cells {w0 wr : World} {gc gf gb J M : Nat} {d : Nat → Nat → Int} {may : Nat → Nat → Bool} {f : Nat → Nat → Int} {ps : Nat → Int} {first : Nat} {co fr b : List Int} (h : PSt w0 wr gc gf gb J M d may f ps first co fr b) {a : Nat} (ha : a < M) :
    wr.cell? ⟨gc, a, none⟩ = some (.int .i64 (lget co a)) ∧ wr.cell? ⟨gf, a, none⟩ = some (.int .i64 (lget fr a)) ∧ wr.cell? ⟨gb, a, none⟩ = some (.int .i64 (lget b a)) :=
  ⟨(h.oc.slotL h.bf.lc ha).1, (h.of.slotL h.bf.lfr ha).1, (h.ob.slotL h.bf.lb ha).1⟩
theorem PSt.sum {w0 wr : World} {gc gf gb J M : Nat} {d : Nat → Nat → Int} {may : Nat → Nat → Bool} {f : Nat → Nat → Int} {ps : Nat → Int} {first : Nat} {co fr b : List Int} (h : PSt w0 wr gc gf gb J M d may f ps first co fr b) (hM : M ≤ 1000) : memSum wr gc M = sumTo (lget co) M := by
  obtain ⟨A, c, e, hi⟩ := h.oc.ints (by rw [h.bf.lc]; omega)
  simp only [Value.slice.injEq] at e
  obtain ⟨e, _, _⟩ := e
  rw [← e] at hi
  exact memSum_ints hi h.bf.lc
/-- A label falls: three numbers are written. -/
theorem PSt.relax {w0 wr : World} {gc gf gb J M : Nat} {d : Nat → Nat → Int} {may : Nat → Nat → Bool} {f : Nat → Nat → Int} {lf pc ps : Nat → Int} {T : Int} {first : Nat} {co fr b : List Int} (h : PSt w0 wr gc gf gb J M d may f ps first co fr b) (hp : Pot J M d may f lf pc ps T)
    {i a x : Nat} (hi : i < J) (ha : a < M) (hx : x < M) (hf : 0 < f i a) (hm : may i x = true) (hr : lget co a < farN) (hlt : lget co a - d i a + d i x < lget co x) :
    PSt w0 (((wr.setCell ⟨gc, x, none⟩ (.int .i64 (lget co a - d i a + d i x))).setCell ⟨gf, x, none⟩ (.int .i64 (a : Int))).setCell ⟨gb, x, none⟩ (.int .i64 (i : Int))) gc gf gb J M d may f ps first
      (co.set x (lget co a - d i a + d i x)) (fr.set x (a : Int)) (b.set x (i : Int)) ∧
    wr.frozen? ⟨gc, x, none⟩ = false ∧ (wr.setCell ⟨gc, x, none⟩ (.int .i64 (lget co a - d i a + d i x))).frozen? ⟨gf, x, none⟩ = false ∧ (wr.setCell ⟨gc, x, none⟩ (.int .i64 (lget co a - d i a + d i x))).cell? ⟨gf, x, none⟩ = some (.int .i64 (lget fr x)) ∧
    ((wr.setCell ⟨gc, x, none⟩ (.int .i64 (lget co a - d i a + d i x))).setCell ⟨gf, x, none⟩ (.int .i64 (a : Int))).frozen? ⟨gb, x, none⟩ = false ∧ ((wr.setCell ⟨gc, x, none⟩ (.int .i64 (lget co a - d i a + d i x))).setCell ⟨gf, x, none⟩ (.int .i64 (a : Int))).cell? ⟨gb, x, none⟩ = some (.int .i64 (lget b x)) := by
  obtain ⟨n1, n2, n3⟩ := h.ne
  obtain ⟨c1, c2, c3⟩ := h.oc.slotL h.bf.lc hx
  obtain ⟨o1, t1⟩ := c3 (lget co a - d i a + d i x)
  have f1 := h.of.other t1 (Ne.symm n1)
  have b1 := h.ob.other t1 (Ne.symm n2)
  obtain ⟨e1, e2, e3⟩ := f1.slotL h.bf.lfr hx
  obtain ⟨o2, t2⟩ := e3 (a : Int)
  have o12 := o1.other t2 n1
  have b2 := b1.other t2 (Ne.symm n3)
  obtain ⟨g1, g2, g3⟩ := b2.slotL h.bf.lb hx
  obtain ⟨o3, t3⟩ := g3 (i : Int)
  have hc := (h.oc.lt gc rfl).1; have hf' := (h.of.lt gf rfl).1; have hb' := (h.ob.lt gb rfl).1
  exact ⟨⟨o12.other t3 n2, o2.other t3 n3, o3, h.ne, h.bf.relax hp hi ha hx hf hm hr hlt,
    ((h.kp.turn t1 (fun k e => by subst e; exact hc)).turn t2 (fun k e => by subst e; exact hf')).turn t3 (fun k e => by subst e; exact hb')⟩, c2, e2, e1, g2, g1⟩
/-- One pass over all steps, as far as it has come. -/
def PassI (J M : Nat) (d : Nat → Nat → Int) (may : Nat → Nat → Bool) (f : Nat → Nat → Int) (co : List Int) (ch : Bool) (i a x : Nat) : Prop :=
  ch = false → ∀ i' a' x', i' < J → a' < M → x' < M → (i' < i ∨ (i' = i ∧ (a' < a ∨ (a' = a ∧ x' < x)))) → 0 < f i' a' → lget co a' < farN → may i' x' = true → lget co x' ≤ lget co a' - d i' a' + d i' x'
theorem PassI.done {J M : Nat} {d : Nat → Nat → Int} {may : Nat → Nat → Bool} {f : Nat → Nat → Int} {co : List Int} (h : PassI J M d may f co false J 0 0) : StopI J M d may f co :=
  fun i a x hi ha hx hf hr hm => h rfl i a x hi ha hx (.inl hi) hf hr hm
theorem PassI.start {J M : Nat} {d : Nat → Nat → Int} {may : Nat → Nat → Bool} {f : Nat → Nat → Int} {co : List Int} : PassI J M d may f co false 0 0 0 := fun _ i' a' x' _ _ _ h => by omega
theorem PassI.yes {J M : Nat} {d : Nat → Nat → Int} {may : Nat → Nat → Bool} {f : Nat → Nat → Int} {co : List Int} {i a x : Nat} : PassI J M d may f co true i a x := fun h => by cases h
theorem PassI.next {J M : Nat} {d : Nat → Nat → Int} {may : Nat → Nat → Bool} {f : Nat → Nat → Int} {co : List Int} {ch : Bool} {i a x : Nat} (h : PassI J M d may f co ch i a x) (hs : may i x = true → lget co x ≤ lget co a - d i a + d i x) : PassI J M d may f co ch i a (x + 1) :=
  fun hc i' a' x' h1 h2 h3 h4 h5 h6 h7 => by
    by_cases e : i' = i ∧ a' = a ∧ x' = x
    · obtain ⟨rfl, rfl, rfl⟩ := e; exact hs h7
    · exact h hc i' a' x' h1 h2 h3 (by omega) h5 h6 h7
theorem PassI.site {J M : Nat} {d : Nat → Nat → Int} {may : Nat → Nat → Bool} {f : Nat → Nat → Int} {co : List Int} {ch : Bool} {i a : Nat} (h : PassI J M d may f co ch i a M) : PassI J M d may f co ch i (a + 1) 0 :=
  fun hc i' a' x' h1 h2 h3 h4 h5 h6 h7 => h hc i' a' x' h1 h2 h3 (by omega) h5 h6 h7
theorem PassI.skip {J M : Nat} {d : Nat → Nat → Int} {may : Nat → Nat → Bool} {f : Nat → Nat → Int} {co : List Int} {ch : Bool} {i a : Nat} (h : PassI J M d may f co ch i a 0) (hs : ¬ (0 < f i a ∧ lget co a < farN)) : PassI J M d may f co ch i (a + 1) 0 :=
  fun hc i' a' x' h1 h2 h3 h4 h5 h6 h7 => by
    by_cases e : i' = i ∧ a' = a
    · obtain ⟨rfl, rfl⟩ := e; exact absurd ⟨h5, h6⟩ hs
    · exact h hc i' a' x' h1 h2 h3 (by omega) h5 h6 h7
theorem PassI.row {J M : Nat} {d : Nat → Nat → Int} {may : Nat → Nat → Bool} {f : Nat → Nat → Int} {co : List Int} {ch : Bool} {i : Nat} (h : PassI J M d may f co ch i M 0) : PassI J M d may f co ch (i + 1) 0 0 :=
  fun hc i' a' x' h1 h2 h3 h4 h5 h6 h7 => h hc i' a' x' h1 h2 h3 (by omega) h5 h6 h7
/-- The labels' sum since the pass began. -/
def Fell (M : Nat) (s0 : Int) (co : List Int) (ch : Bool) : Prop := sumTo (lget co) M ≤ s0 ∧ (ch = true → sumTo (lget co) M < s0)
end Go.Proofs.Ytgdicmeabppngaa

namespace Go.Proofs.Ytgdicmeabppngaa
open Go.RowKit Go.Sort

set_option maxHeartbeats 400000 in
theorem l3Sum_any (A0 : Option Addr) (L : List Int) (n c0 : Nat) (w : World) (hL : IntsAt w A0 L) (hn : L.length = n) (hb : ∀ k, k ≤ n → -1000000000 ≤ (L.take k).sum ∧ (L.take k).sum ≤ 1000000000) (he : ∀ x ∈ L, -1000000000 ≤ x ∧ x ≤ 1000000000) :
    Calls Try.prog 45 #[.slice A0 n c0] w fun e w' => e = .returned (.int .i64 L.sum) ∧ w = w' := by
  have hm : n ≤ 9223372036854775807 := hn ▸ hL.1
  have Hn := Lib.hid hn; have Hb := Lib.hid hb; have He := Lib.hid he
  clear hn hb he
  go_enter Try.func45, Try.ntmps45
  go_wp2_with fail
  go_loop [3, 4] (fun sv iv => ∃ k : Nat, k ≤ n ∧ iv = .int .i64 k ∧ sv = .int .i64 (L.take k).sum) (fun _ iv => n - (intOf iv).toNat)
  case atStart => exact ⟨0, by omega, rfl, rfl⟩
  case round =>
    obtain ⟨k, hk, rfl, rfl⟩ := hrel
    by_cases hlt : k < n
    · have lx : k < L.length := by rw [Hn.out]; exact hlt
      obtain ⟨ad, rfl, hc⟩ := hL.at_ lx
      obtain ⟨b1, b2⟩ := Hb.out k hk
      obtain ⟨b3, b4⟩ := He.out _ (List.getElem_mem lx)
      have hsu : Hid ((L.take (k + 1)).sum = (L.take k).sum + L[k]) := by show _ = _; rw [List.take_succ_eq_append_getElem lx, List.sum_append]; simp
      generalize (L.take k).sum = q at *
      go_wp2_with fail
      go_round
      case rel => exact ⟨k + 1, by omega, by go_num, by rw [hsu.out]⟩
      case measure => simp [intOf]; omega
    · have htk := Lib.hid (show (L.take k).sum = L.sum from by rw [List.take_of_length_le (by rw [Hn.out]; omega)])
      go_wp2_with fail
      go_ret
      exact ⟨ret_int htk.out, rfl⟩
end Go.Proofs.Ytgdicmeabppngaa

namespace Go.Proofs.Ytgdicmeabppngaa
open Go.RowKit Go.Sort

/-- append of a whole list of numbers to a slice of the call's own. -/
theorem wpl_appAll {ops : Array Oper} {rest : List Oper} {o : Oper} {a : Act} {Q : Exit → Act → World → Prop} {W : World} (hgd : o.guard = none) (s x : Operand)
    (ho : o.op = .call { callee := .builtin .append, args := #[s, x], argTypes := #[24, 24] }) (base : Nat) (v : Value) (xs ys : List Int) (ad : Addr) (m c : Nat)
    (hs : a.eval s = v) (hx : a.eval x = .slice (some ad) m c) (hown : Own W base v xs) (hy : IntsAt W (some ad) ys) (hym : ys.length = m) (hbase : base ≤ W.heap.size) (hlen : xs.length + ys.length ≤ 4194304)
    (h : ∀ v' w', Own w' base v' (xs ++ ys) → Turn (fun i => v.ownBlock = some i) W w' → (v'.ownBlock = v.ownBlock ∨ ∀ g, v'.ownBlock = some g → W.heap.size ≤ g) → wpList Try.prog ops Q rest (a.put o.dst v') w') :
    wpList Try.prog ops Q (o :: rest) a W := by
  obtain ⟨i0, hi, hz0, hz1, hz2⟩ := info_parts infoInt
  refine wpList_append_own_at _ hgd s x 24 ho base 3 i0 (.int .i64 0) 1 8 Try.underlying24 hi hz0 hz1 hz2 rfl (by decide) v xs.length (xs.map (Value.int .i64)) hs hown ad m c (ys.map (Value.int .i64)) hx (by simp [hym]) ?_ (ints_oneCell _ _) ?_ ?_ hbase ?_
  · intro j u hj
    by_cases hlt : j < ys.length
    · rw [List.getElem?_map, List.getElem?_eq_getElem hlt] at hj
      have e : u = .int .i64 ys[j] := by simpa using hj.symm
      rw [e]; exact hy.some_ hlt
    · rw [List.getElem?_eq_none (by simpa using hlt)] at hj; cases hj
  · unfold maxLen; omega
  · omega
  · intro v' w' h2 h3 _ h4
    refine h v' w' ?_ (Turn.of_grown h3) ?_
    · unfold Own
      rw [List.length_append, List.map_append, hym]
      exact h2
    · rcases h4 with e | e
      · exact .inl e
      · exact .inr (fun g hg => by rw [e] at hg; simp at hg; omega)

theorem clone_some (ad : Addr) (xs : List Int) (n c : Nat) (w : World) (hx : IntsAt w (some ad) xs) (hn : xs.length = n) (hb : n ≤ 1048576) :
    Calls Try.prog 24 #[.slice (some ad) n c] w fun e w' => ∃ v, e = .returned v ∧ Own w' w.heap.size v xs ∧ Kp w w' := by
  have Hn := Lib.hid hn; clear hn
  have hq := fun (w : World) (a : Option Addr) (n c : Nat) => Lib.run_eql_slice_nil (P := Try.prog) w 24 3 a n c 0 0 Try.underlying24
  have hlen : ([] : List Int).length + xs.length ≤ 4194304 := by rw [Hn.out]; simp; omega
  have ho0 := own_new0 w w.heap.size (Nat.le_refl _)
  have hk0 := (Kp.refl w).alloc (.cells #[] 3)
  go_enter Try.func24, Try.ntmps24
  go_wp2_with (at_builtin; refine wpl_appAll rfl (.tmp 5) (.tmp 6) rfl w.heap.size _ [] xs ad n c rfl rfl ho0 (hx.kp hk0) Hn.out hk0.le hlen ?_; intro v' w' ho' ht' _; have hk4 := ho0.kp_turn hk0 (Nat.le_refl _) ht')
  go_ret
  exact ⟨_, rfl, by simpa using ho', hk4⟩

end Go.Proofs.Ytgdicmeabppngaa

namespace Go.Proofs.Ytgdicmeabppngaa
open Go.RowKit Go.Sort

theorem flRow_cell {n : Nat} {need : Int} {S row : List Int} {k : Nat} (hk : k < row.length) (h : flCell need S row[k] k = false) : flRow n need S row = false := by
  have e : flCells need S row row.length = false := by
    cases hc : flCells need S row row.length
    · rfl
    · have := flCell_iff.2 (flCells_iff.1 hc k hk)
      rw [lget_at hk, h] at this; exact absurd this (by simp)
  rw [flRow, e]; rfl
theorem flRow_end {n : Nat} {need : Int} {S row : List Int} {k : Nat} (hk : row.length ≤ k) (hk2 : k ≤ row.length) (h : flCells need S row k = true) : flRow n need S row = (decide (row.length = n) && decide (row.sum = need)) := by
  obtain rfl : k = row.length := by omega
  rw [flRow, h]; rfl
theorem flCells_mem {need : Int} {S row : List Int} (h : flCells need S row row.length = true) : ∀ x ∈ row, 0 ≤ x ∧ x ≤ need := by
  intro x hx
  obtain ⟨i, hi, rfl⟩ := List.mem_iff_getElem.1 hx
  have := flCells_iff.1 h i hi
  rw [lget_at hi] at this
  exact ⟨this.1, this.2.1⟩
theorem flCells_next {need : Int} {S row : List Int} {k : Nat} (hp : flCells need S row k = true) (hk : k < row.length) (h : flCell need S row[k] k = true) : flCells need S row (k + 1) = true := by
  rw [flCells_succ, hp, lget_at hk, h]; rfl
end Go.Proofs.Ytgdicmeabppngaa

namespace Go.Proofs.Ytgdicmeabppngaa
open Go.RowKit Go.Sort

theorem flow_getD {flow : List (List Int)} {j : Nat} (h : j < flow.length) : flow.getD j [] = flow[j] := by simp [List.getD, h]
theorem flAt_at {flow : List (List Int)} {j a : Nat} (h : j < flow.length) (ha : a < flow[j].length) : flow[j][a] = flAt flow j a := by
  rw [flAt, flow_getD h, lget_at ha]
end Go.Proofs.Ytgdicmeabppngaa

namespace Go.Proofs.Ytgdicmeabppngaa
open Go.RowKit Go.Sort

theorem dAt_at {F : Fld} {j a : Nat} (h : j < F.di.length) (ha : a < F.di[j].length) : F.di[j][a] = dAt F j (a : Int) := by
  simp [dAt, List.getD, h, ha]
theorem costRow_succ (F : Fld) (flow : List (List Int)) (j a : Nat) : costRow F flow j (a + 1) = costRow F flow j a + flAt flow j a * dAt F j (a : Int) := sumTo_succ _ _
theorem costFl_succ (F : Fld) (flow : List (List Int)) (j : Nat) : costFl F flow (j + 1) = costFl F flow j + costRow F flow j F.op.length := sumTo_succ _ _
theorem costRow_zero (F : Fld) (flow : List (List Int)) (j : Nat) : costRow F flow j 0 = 0 := rfl
set_option maxRecDepth 100000 in
set_option maxHeartbeats 2000000 in
theorem l7Cost_any (f : Value) (F : Fld) (rooms needs S : List Int) (P0 : Option Addr) (flow : List (List Int)) (m cm : Nat) (w : World) (hf : FldAt w f F) (hP : GridAt w P0 flow) (hm : flow.length = m) (hh : haulB F rooms needs S = true) (hfl : flowB F rooms needs S flow = true) :
    Calls Try.prog 52 #[f, .slice P0 m cm] w fun e w' => e = .returned (.int .i64 (costFl F flow F.di.length)) ∧ Kp w w' := by
  obtain ⟨A, c, B, d, rfl, hA, hB⟩ := hf
  have hk0 : Kp w (w.alloc (.cells #[.slice A F.op.length c, .slice B F.di.length d] 27)) := (Kp.refl w).alloc _
  obtain ⟨d0, d1⟩ := box2 w (.slice A F.op.length c) (.slice B F.di.length d) 27
  have hFA := FldAt.kp (show FldAt w (.agg #[.slice A F.op.length c, .slice B F.di.length d]) F from ⟨A, c, B, d, rfl, hA, hB⟩) hk0
  replace hP := hP.kp hk0
  replace hB := hB.kp hk0
  have HH := Lib.hid (haulB_iff.1 hh)
  have HG := Lib.hid (openedB_parts HH.out.1).1
  have HF := Lib.hid (goodF_iff.1 HG.out)
  have h1n := HF.out.1.1
  have h7n := HF.out.1.2
  have h7d := HF.out.2.2.1
  have HN5 := Lib.hid (fun j => (lget_all (M := 5) (by omega) HH.out.2.2.1 j).2)
  have HP := Lib.hid (flow_parts hfl)
  have Hm := Lib.hid hm
  have hmd : m = F.di.length := by rw [← hm]; exact HP.out.1
  have HR : Hid (∀ j, j < m → flRow F.op.length (lget needs j) S (flow.getD j []) = true) := fun j hj => HP.out.2.1 j (by rw [Hm.out]; exact hj)
  have HC := Lib.hid (costFl_bd HG.out HN5.out (S := S) (flow := flow) (fun j hj => HR.out j (by omega)))
  have HD := Lib.hid (fun j (hj : j < m) => costRow_bd HG.out (show j < F.di.length by omega) HN5.out (HR.out j hj))
  have Hmd := Lib.hid hmd
  have hm7 : m ≤ 7 := by omega
  clear hA hm hh hfl hmd
  go_enter Try.func52, Try.ntmps52
  go_wp2_with fail
  have hsz : Hid ((w.alloc (.cells #[.slice A F.op.length c, .slice B F.di.length d] 27)).heap.size = w.heap.size + 1) := by show _ = _; simp
  generalize w.alloc (.cells #[.slice A F.op.length c, .slice B F.di.length d] 27) = wb at *
  have hkb : Kp wb wb := Kp.refl _
  have hkw := hk0
  have q_d0 := hkb.get d0
  have q_d1 := hkb.get d1
  go_wp2_with fail
  go_loopw [5, 6] (fun sv iv wr => ∃ j : Nat, j ≤ m ∧ iv = .int .i64 j ∧ sv = .int .i64 (costFl F flow j) ∧ Kp wb wr) (fun _ iv _ => m - (intOf iv).toNat)
  case atStart => exact ⟨0, by omega, rfl, rfl, hkb⟩
  case round =>
    clear hkb
    obtain ⟨j, hj, rfl, rfl, hkb⟩ := hrel
    obtain ⟨wo, rfl⟩ : ∃ wo : World, wo = wr := ⟨_, rfl⟩
    obtain ⟨p1, p2⟩ := HC.out j (by rw [← Hmd.out]; exact hj)
    by_cases hlt : j < m
    · have lx : j < flow.length := by rw [Hm.out]; exact hlt
      have ld : j < F.di.length := by rw [← Hmd.out]; exact hlt
      obtain ⟨pd, A4, ca, hPe, hcp, hrp⟩ := hP.at_ lx
      obtain ⟨bd, A5, cb, hBe, hcr, hrr⟩ := hB.at_ ld
      subst hPe hBe
      have HRj := Lib.hid (flRow_iff.1 (HR.out j hlt))
      have Hrl : Hid (flow[j].length = F.op.length) := by show _ = _; rw [← flow_getD lx]; exact HRj.out.1
      have Hdl := Lib.hid (goodRow HG.out ld)
      have hs2 := costFl_succ F flow j
      have hz := costRow_zero F flow j
      have q_2 := hkb.get hcp
      clear q_d0 q_d1
      have q_d0 := hkb.get d0
      have q_d1 := hkb.get d1
      go_wp2_with fail
      go_loopw [5, 7] (fun sv iv wr => ∃ a : Nat, a ≤ F.op.length ∧ iv = .int .i64 a ∧ sv = .int .i64 (costFl F flow j + costRow F flow j a) ∧ Kp wb wr) (fun _ iv _ => F.op.length - (intOf iv).toNat)
      case atStart => exact ⟨0, by omega, rfl, by rw [hz]; go_num, hkb⟩
      case round =>
        clear hkb q_2
        obtain ⟨a, ha, rfl, rfl, hkb⟩ := hrel
        obtain ⟨p3, p4⟩ := HD.out j hlt a ha
        have q_2 := hkb.get hcp
        have hl9 : flow[j].length = F.op.length := Hrl.out
        by_cases hla : a < F.op.length
        · have lr : a < flow[j].length := by rw [Hrl.out]; exact hla
          have lr2 : a < F.di[j].length := by rw [Hdl.out]; exact hla
          obtain ⟨rd, rfl, hrc⟩ := hrp.at_ lr
          obtain ⟨ed, rfl, hec⟩ := hrr.at_ lr2
          rw [flAt_at lx lr] at hrc
          rw [dAt_at ld lr2] at hec
          obtain ⟨z1, z2⟩ := HRj.out.2.1 a hla
          rw [show lget (flow.getD j []) a = flAt flow j a from rfl] at z1 z2
          obtain ⟨z3, z4⟩ := dAt_bd HG.out ld (a : Int)
          have z5 := HN5.out j
          obtain ⟨z6, z7⟩ := prod_bd z1 (by omega) z3 z4
          have hsu := Lib.hid (costRow_succ F flow j a)
          clear z2 hs2 hz
          have q_3 := hkb.get hrc
          have q_4 := hkb.get hcr
          have q_5 := hkb.get hec
          clear q_d0 q_d1
          have q_d0 := hkb.get d0
          have q_d1 := hkb.get d1
          go_wp2_with fail
          go_quiet (fail)
          go_wp2_with fail
          go_roundw
          case rel => exact ⟨a + 1, by omega, by go_num, by rw [hsu.out]; go_num, hkb.drewN _⟩
          case measure => simp [intOf]; omega
        · obtain rfl : a = F.op.length := by omega
          clear q_d0 q_d1
          have q_d0 := hkb.get d0
          have q_d1 := hkb.get d1
          go_wp2_with fail
          go_roundw
          case rel => exact ⟨j + 1, by omega, by go_num, by rw [hs2], hkb⟩
          case measure => simp [intOf]; omega
    · obtain rfl : j = m := by omega
      clear q_d0 q_d1
      have q_d0 := hkb.get d0
      have q_d1 := hkb.get d1
      go_wp2_with fail
      go_ret
      exact ⟨ret_int (by rw [← Hmd.out]), hkw.trans hkb⟩
set_option maxRecDepth 100000 in
set_option maxHeartbeats 2000000 in
theorem flowCost_any (f : Value) (F : Fld) (rooms needs S : List Int) (P0 : Option Addr) (flow : List (List Int)) (m cm : Nat) (w : World) (hf : FldAt w f F) (hP : GridAt w P0 flow) (hm : flow.length = m) (hh : haulB F rooms needs S = true) (hfl : flowB F rooms needs S flow = true) :
    Calls Try.prog 27 #[f, .slice P0 m cm] w fun e w' => e = .returned (.int .i64 (costFl F flow F.di.length)) ∧ Kp w w' := by
  obtain ⟨A, c, B, d, rfl, hA, hB⟩ := hf
  have hk0 : Kp w (w.alloc (.cells #[.slice A F.op.length c, .slice B F.di.length d] 27)) := (Kp.refl w).alloc _
  obtain ⟨d0, d1⟩ := box2 w (.slice A F.op.length c) (.slice B F.di.length d) 27
  have hFA := FldAt.kp (show FldAt w (.agg #[.slice A F.op.length c, .slice B F.di.length d]) F from ⟨A, c, B, d, rfl, hA, hB⟩) hk0
  replace hP := hP.kp hk0
  replace hB := hB.kp hk0
  have HH := Lib.hid (haulB_iff.1 hh)
  have HG := Lib.hid (openedB_parts HH.out.1).1
  have HF := Lib.hid (goodF_iff.1 HG.out)
  have h1n := HF.out.1.1
  have h7n := HF.out.1.2
  have h7d := HF.out.2.2.1
  have HN5 := Lib.hid (fun j => (lget_all (M := 5) (by omega) HH.out.2.2.1 j).2)
  have HP := Lib.hid (flow_parts hfl)
  have Hm := Lib.hid hm
  have hmd : m = F.di.length := by rw [← hm]; exact HP.out.1
  have HR : Hid (∀ j, j < m → flRow F.op.length (lget needs j) S (flow.getD j []) = true) := fun j hj => HP.out.2.1 j (by rw [Hm.out]; exact hj)
  have HC := Lib.hid (costFl_bd HG.out HN5.out (S := S) (flow := flow) (fun j hj => HR.out j (by omega)))
  have HD := Lib.hid (fun j (hj : j < m) => costRow_bd HG.out (show j < F.di.length by omega) HN5.out (HR.out j hj))
  have Hmd := Lib.hid hmd
  have hm7 : m ≤ 7 := by omega
  clear hA hm hh hfl hmd
  go_enter Try.func27, Try.ntmps27
  go_wp2_with fail
  have hsz : Hid ((w.alloc (.cells #[.slice A F.op.length c, .slice B F.di.length d] 27)).heap.size = w.heap.size + 1) := by show _ = _; simp
  generalize w.alloc (.cells #[.slice A F.op.length c, .slice B F.di.length d] 27) = wb at *
  have hkb : Kp wb wb := Kp.refl _
  have hkw := hk0
  have q_d0 := hkb.get d0
  have q_d1 := hkb.get d1
  go_wp2_with fail
  go_loopw [5, 12] (fun sv iv wr => ∃ j : Nat, j ≤ m ∧ iv = .int .i64 j ∧ sv = .int .i64 (costFl F flow j) ∧ Kp wb wr) (fun _ iv _ => m - (intOf iv).toNat)
  case atStart => exact ⟨0, by omega, rfl, rfl, hkb⟩
  case round =>
    clear hkb
    obtain ⟨j, hj, rfl, rfl, hkb⟩ := hrel
    obtain ⟨wo, rfl⟩ : ∃ wo : World, wo = wr := ⟨_, rfl⟩
    obtain ⟨p1, p2⟩ := HC.out j (by rw [← Hmd.out]; exact hj)
    by_cases hlt : j < m
    · have lx : j < flow.length := by rw [Hm.out]; exact hlt
      have ld : j < F.di.length := by rw [← Hmd.out]; exact hlt
      obtain ⟨pd, A4, ca, hPe, hcp, hrp⟩ := hP.at_ lx
      obtain ⟨bd, A5, cb, hBe, hcr, hrr⟩ := hB.at_ ld
      subst hPe hBe
      have HRj := Lib.hid (flRow_iff.1 (HR.out j hlt))
      have Hrl : Hid (flow[j].length = F.op.length) := by show _ = _; rw [← flow_getD lx]; exact HRj.out.1
      have Hdl := Lib.hid (goodRow HG.out ld)
      have hs2 := costFl_succ F flow j
      have hz := costRow_zero F flow j
      have q_2 := hkb.get hcp
      clear q_d0 q_d1
      have q_d0 := hkb.get d0
      have q_d1 := hkb.get d1
      go_wp2_with fail
      go_loopw [5, 19] (fun sv iv wr => ∃ a : Nat, a ≤ F.op.length ∧ iv = .int .i64 a ∧ sv = .int .i64 (costFl F flow j + costRow F flow j a) ∧ Kp wb wr) (fun _ iv _ => F.op.length - (intOf iv).toNat)
      case atStart => exact ⟨0, by omega, rfl, by rw [hz]; go_num, hkb⟩
      case round =>
        clear hkb q_2
        obtain ⟨a, ha, rfl, rfl, hkb⟩ := hrel
        obtain ⟨p3, p4⟩ := HD.out j hlt a ha
        have q_2 := hkb.get hcp
        have hl9 : flow[j].length = F.op.length := Hrl.out
        by_cases hla : a < F.op.length
        · have lr : a < flow[j].length := by rw [Hrl.out]; exact hla
          have lr2 : a < F.di[j].length := by rw [Hdl.out]; exact hla
          obtain ⟨rd, rfl, hrc⟩ := hrp.at_ lr
          obtain ⟨ed, rfl, hec⟩ := hrr.at_ lr2
          rw [flAt_at lx lr] at hrc
          rw [dAt_at ld lr2] at hec
          obtain ⟨z1, z2⟩ := HRj.out.2.1 a hla
          rw [show lget (flow.getD j []) a = flAt flow j a from rfl] at z1 z2
          obtain ⟨z3, z4⟩ := dAt_bd HG.out ld (a : Int)
          have z5 := HN5.out j
          obtain ⟨z6, z7⟩ := prod_bd z1 (by omega) z3 z4
          have hsu := Lib.hid (costRow_succ F flow j a)
          clear z2 hs2 hz
          have q_3 := hkb.get hrc
          have q_4 := hkb.get hcr
          have q_5 := hkb.get hec
          clear q_d0 q_d1
          have q_d0 := hkb.get d0
          have q_d1 := hkb.get d1
          go_wp2_with fail
          go_roundw
          case rel => exact ⟨a + 1, by omega, by go_num, by rw [hsu.out]; go_num, hkb⟩
          case measure => simp [intOf]; omega
        · obtain rfl : a = F.op.length := by omega
          clear q_d0 q_d1
          have q_d0 := hkb.get d0
          have q_d1 := hkb.get d1
          go_wp2_with fail
          go_roundw
          case rel => exact ⟨j + 1, by omega, by go_num, by rw [hs2], hkb⟩
          case measure => simp [intOf]; omega
    · obtain rfl : j = m := by omega
      clear q_d0 q_d1
      have q_d0 := hkb.get d0
      have q_d1 := hkb.get d1
      go_wp2_with fail
      go_ret
      exact ⟨ret_int (by rw [← Hmd.out]), hkw.trans hkb⟩
theorem fl_bag {S : List Int} (h : ∀ y ∈ S, 0 ≤ y) (a : Nat) : (bagN S).testBit a = flHas S a := by
  rw [bagN_bit h, Bool.eq_iff_iff, decide_eq_true_eq, flHas, List.any_eq_true]
  constructor
  · intro hx; exact ⟨_, hx, by simp⟩
  · rintro ⟨y, hy, e⟩
    have : y = (a : Int) := by simpa using e
    exact this ▸ hy
set_option maxRecDepth 100000 in
set_option maxHeartbeats 2000000 in
theorem isFlow_any (f : Value) (F : Fld) (A1 : Option Addr) (rooms : List Int) (n1 c1 : Nat) (A2 : Option Addr) (needs : List Int) (n2 c2 : Nat) (A3 : Option Addr) (S : List Int) (n3 c3 : Nat) (P0 : Option Addr) (flow : List (List Int)) (m cm : Nat) (w : World) (hf : FldAt w f F) (h1 : IntsAt w A1 rooms) (hn1 : rooms.length = n1) (h2 : IntsAt w A2 needs) (hn2 : needs.length = n2) (h3 : IntsAt w A3 S) (hn3 : S.length = n3) (hP : GridAt w P0 flow) (hm : flow.length = m) (hh : haulB F rooms needs S = true) :
    Calls Try.prog 60 #[f, .slice A1 n1 c1, .slice A2 n2 c2, .slice A3 n3 c3, .slice P0 m cm] w fun e w' => e = .returned (.bool (flowB F rooms needs S flow)) ∧ Kp w w' := by
  have hmm : m ≤ 9223372036854775807 := hm ▸ hP.1
  obtain ⟨A, c, B, d, rfl, hA, hB⟩ := hf
  have hk0 : Kp w (w.alloc (.cells #[.slice A F.op.length c, .slice B F.di.length d] 27)) := (Kp.refl w).alloc _
  obtain ⟨d0, d1⟩ := box2 w (.slice A F.op.length c) (.slice B F.di.length d) 27
  have hFA := FldAt.kp (show FldAt w (.agg #[.slice A F.op.length c, .slice B F.di.length d]) F from ⟨A, c, B, d, rfl, hA, hB⟩) hk0
  replace h1 := h1.kp hk0
  replace h2 := h2.kp hk0
  replace h3 := h3.kp hk0
  replace hP := hP.kp hk0
  have Hn1 := Lib.hid hn1; have Hn2 := Lib.hid hn2; have Hn3 := Lib.hid hn3; have Hm := Lib.hid hm
  have HH := Lib.hid (haulB_iff.1 hh)
  have HF := Lib.hid (goodF_iff.1 (openedB_parts HH.out.1).1)
  have HS := Lib.hid (set_mem (openedB_parts HH.out.1).2.1)
  have h1n := HF.out.1.1
  have h7n := HF.out.1.2
  have h7d := HF.out.2.2.1
  have HN5 := Lib.hid (lget_all (M := 5) (by omega) HH.out.2.2.1)
  have HR20 := Lib.hid (lget_all (M := 20) (by omega) HH.out.2.1.1)
  have Hd2 : Hid (n2 = F.di.length) := by show _ = _; rw [← Hn2.out]; exact HH.out.2.2.2
  have hd1 : n1 = F.op.length := by rw [← hn1]; exact HH.out.2.1.2
  have hbs : Hid (bagN S < 128) := Nat.lt_of_lt_of_le (bagN_lt HS.out) (Nat.pow_le_pow_right (n := 2) (by omega) h7n)
  clear hA hB hn1 hn2 hn3 hm hh d0 d1 hFA
  subst hd1
  by_cases hmd : m = n2
  case neg =>
    have hne : ((m : Int) != (n2 : Int)) = true := by simp; omega
    have Hno : Hid (flowB F rooms needs S flow = false) := flow_len (by rw [Hm.out, ← Hd2.out]; exact hmd)
    go_enter Try.func60, Try.ntmps60
    go_wp2_with fail
    go_ret
    exact ⟨ret_bool Hno.out.symm, hk0⟩
  have hne : ((m : Int) != (n2 : Int)) = false := by simp; omega
  have Hmd := Lib.hid hmd
  have hd2' := Hd2.out
  have hm7 : m ≤ 7 := by omega
  clear hmd hd2'
  have l0 : 0 < rooms.length := by rw [Hn1.out]; exact h1n
  obtain ⟨rd, hAe, _⟩ := h1.at_ l0
  subst hAe
  go_enter Try.func60, Try.ntmps60
  go_wp2_with fail
  generalize w.alloc (.cells #[.slice A F.op.length c, .slice B F.di.length d] 27) = wb at *
  have hkb : Kp wb wb := Kp.refl _
  have hkw := hk0
  have CC := Lib.hid (clone_some rd rooms F.op.length c1 wb h1 Hn1.out (by omega))
  with_reducible refine Calls.mono CC.out ?_
  rintro e w1 ⟨vl, rfl, hov, hk1⟩
  clear CC
  replace hkb := hkb.trans hk1
  obtain ⟨Al, cl, hve⟩ := hov.shape
  rw [Hn1.out] at hve
  subst hve
  obtain ⟨g, cap, e⟩ := hov.at0 Hn1.out h1n
  simp only [Value.slice.injEq] at e
  obtain ⟨rfl, _, rfl⟩ := e
  go_wp2_with fail
  have CC := Lib.hid (bagOf_any A3 S n3 c3 _ (h3.kp hkb) Hn3.out (fun x hx => by have := HS.out x hx; omega))
  with_reducible refine Calls.mono CC.out ?_
  rintro e w2 ⟨rfl, hw⟩
  obtain rfl := hw
  clear CC
  go_wp2_with fail
  have hkr := hkb
  have hst := flSt_first (F := F) (S := S) (flow := flow) (fun a => (HR20.out a).1) (fun a => (HN5.out a).1)
  rw [← leftL_zero (flow := flow) Hn1.out] at hov
  go_loopw [29] (fun iv wr => ∃ j : Nat, j ≤ m ∧ iv = .int .i64 j ∧ flSt F rooms needs S flow j 0 ∧ Own wr wb.heap.size (.slice (some ⟨g, 0, none⟩) F.op.length cl) (leftL rooms flow F.op.length j 0) ∧ Kp wb wr) (fun iv _ => m - (intOf iv).toNat)
  case atStart => exact ⟨0, by omega, rfl, hst, hov, hkr⟩
  case round =>
    clear hov hkr hst hkb
    obtain ⟨j, hj, rfl, hst, hown, hkr⟩ := hrel
    have Hst := Lib.hid hst
    clear hst
    obtain ⟨wo, rfl⟩ : ∃ wo : World, wo = wr := ⟨_, rfl⟩
    by_cases hlt : j < m
    · have lx : j < flow.length := by rw [Hm.out]; exact hlt
      obtain ⟨pd, A4, ca, hPe, hcp, hrp⟩ := hP.at_ lx
      subst hPe
      have hjn : j < n2 := by rw [← Hmd.out]; exact hlt
      have ly : j < needs.length := by rw [Hn2.out]; exact hjn
      obtain ⟨nd, rfl, hnc⟩ := h2.at_ ly
      rw [← lget_at ly] at hnc
      have q2 := hkr.get hcp
      have q3 := hkr.get hnc
      have e1 : Hid (flow.getD j [] = flow[j]) := flow_getD lx
      by_cases hrl : flow[j].length = F.op.length
      case neg =>
        have hne2 : ((flow[j].length : Int) != (F.op.length : Int)) = true := by simp; omega
        have Hno : Hid (flowB F rooms needs S flow = false) := flow_rowlen lx (by rw [e1.out]; exact hrl)
        clear hrl
        go_wp2_with fail
        go_ret
        exact ⟨ret_bool Hno.out.symm, hkw.trans hkr⟩
      have hne2 : ((flow[j].length : Int) != (F.op.length : Int)) = false := by simp; omega
      have Hcb := Lib.hid (fun a (ha : a < F.op.length) => col_bd (fun j => (HN5.out j).2) ha j Hst.out.rows)
      have Hrl := Lib.hid hrl
      have hrl2 : flow[j].length ≤ 7 := by omega
      obtain ⟨y1, y2⟩ := HN5.out j
      clear hrl
      go_wp2_with fail
      go_loopw [15, 45] (fun nv iv wr => ∃ a : Nat, a ≤ F.op.length ∧ iv = .int .i64 a ∧ nv = .int .i64 (lget needs j - sumTo (flAt flow j) a) ∧ flSt F rooms needs S flow j a ∧ Own wr wb.heap.size (.slice (some ⟨g, 0, none⟩) F.op.length cl) (leftL rooms flow F.op.length j a) ∧ Kp wb wr) (fun _ iv _ => F.op.length - (intOf iv).toNat)
      case atStart => exact ⟨0, by omega, rfl, by rw [sumTo_zero]; go_num, Hst.out, hown, hkr⟩
      case round =>
        clear hown hkr q2 q3
        obtain ⟨a, ha, rfl, rfl, hst2, hown, hkr⟩ := hrel
        have Hs2 := Lib.hid hst2
        have p1 := hst2.pos
        have p2 := hst2.sum
        clear hst2
        by_cases hla : a < F.op.length
        · have lr : a < flow[j].length := by rw [Hrl.out]; exact hla
          obtain ⟨ed, rfl, hec⟩ := hrp.at_ lr
          rw [flAt_at lx lr] at hec
          obtain ⟨t1, t1f, t1p⟩ := hown.slotL (leftL_len _ _ _ _ _) hla
          rw [leftL_at rooms flow hla] at t1
          have Hbad := Lib.hid (fun h => flSt.bad (F := F) (rooms := rooms) (needs := needs) (S := S) lx hla h)
          have Hnx := Lib.hid (fun h0 h1 h2 h3 => Hs2.out.next hla h0 h1 h2 h3)
          have Hss := Lib.hid (sumTo_succ (flAt flow j) a)
          obtain ⟨b1, b2⟩ := Hcb.out a hla
          obtain ⟨b3, b4⟩ := HR20.out a
          obtain ⟨s1, s2⟩ := t1p (lget rooms a - colS flow a j - flAt flow j a)
          rw [leftL_set] at s1
          have Hs1 := Lib.hid s1
          have Hk2 := Lib.hid (hkr.setCell (p := ⟨g, a, none⟩) (hown.lt g rfl).1 (.int .i64 (lget rooms a - colS flow a j - flAt flow j a)))
          clear t1p s2 s1
          have q4 := hkr.get hec
          have Hhb := Lib.hid (fl_bag (fun y hy => (HS.out y hy).1) a)
          have hbs' := hbs.out
          by_cases hmn : lget rooms a - colS flow a j < lget needs j - sumTo (flAt flow j) a
          · go_wp2_with fail
            have CC := Lib.hid (between_any (flAt flow j a) 0 (lget rooms a - colS flow a j) wr)
            with_reducible refine Calls.mono CC.out ?_
            rintro e wz ⟨rfl, hwz⟩
            obtain rfl := hwz
            clear CC
            cases hin : inB (flAt flow j a) 0 (lget rooms a - colS flow a j)
            · have Hno : Hid (flowB F rooms needs S flow = false) := Hbad.out (fun h => by
                have : inB (flAt flow j a) 0 (lget rooms a - colS flow a j) = true := inB_iff.2 ⟨h.1, by omega⟩
                rw [hin] at this; cases this)
              clear hin
              go_wp2_with fail
              go_ret
              exact ⟨ret_bool Hno.out.symm, hkw.trans hkr⟩
            · obtain ⟨x1, x2⟩ := inB_iff.1 hin
              have x3 : flAt flow j a ≤ lget needs j - sumTo (flAt flow j) a := by omega
              have x4 : flAt flow j a ≤ lget rooms a - colS flow a j := by omega
              clear hin
              by_cases hp : 0 < flAt flow j a
              · go_wp2_with fail
                have CC := Lib.hid (has_any (bagN S) a wr (by omega) (by omega))
                with_reducible refine Calls.mono CC.out ?_
                rintro e wz ⟨rfl, hwz⟩
                obtain rfl := hwz
                rw [Hhb.out]
                clear CC
                cases hh : flHas S a
                · have Hno : Hid (flowB F rooms needs S flow = false) := Hbad.out (fun h => by
                    have := h.2.2.2 hp
                    rw [hh] at this; cases this)
                  clear hh
                  go_wp2_with fail
                  go_ret
                  exact ⟨ret_bool Hno.out.symm, hkw.trans hkr⟩
                · have Hn := Lib.hid (Hnx.out x1 x3 x4 (fun _ => hh))
                  clear hh
                  go_wp2_with fail
                  go_roundw
                  case rel => exact ⟨a + 1, by omega, by go_num, by rw [Hss.out]; go_num, Hn.out, Hs1.out, Hk2.out⟩
                  case measure => simp [intOf]; omega
              · have Hn := Lib.hid (Hnx.out x1 x3 x4 (fun h => absurd h hp))
                go_wp2_with fail
                go_roundw
                case rel => exact ⟨a + 1, by omega, by go_num, by rw [Hss.out]; go_num, Hn.out, Hs1.out, Hk2.out⟩
                case measure => simp [intOf]; omega
          · go_wp2_with fail
            have CC := Lib.hid (between_any (flAt flow j a) 0 (lget needs j - sumTo (flAt flow j) a) wr)
            with_reducible refine Calls.mono CC.out ?_
            rintro e wz ⟨rfl, hwz⟩
            obtain rfl := hwz
            clear CC
            cases hin : inB (flAt flow j a) 0 (lget needs j - sumTo (flAt flow j) a)
            · have Hno : Hid (flowB F rooms needs S flow = false) := Hbad.out (fun h => by
                have : inB (flAt flow j a) 0 (lget needs j - sumTo (flAt flow j) a) = true := inB_iff.2 ⟨h.1, by omega⟩
                rw [hin] at this; cases this)
              clear hin
              go_wp2_with fail
              go_ret
              exact ⟨ret_bool Hno.out.symm, hkw.trans hkr⟩
            · obtain ⟨x1, x2⟩ := inB_iff.1 hin
              have x3 : flAt flow j a ≤ lget needs j - sumTo (flAt flow j) a := by omega
              have x4 : flAt flow j a ≤ lget rooms a - colS flow a j := by omega
              clear hin
              by_cases hp : 0 < flAt flow j a
              · go_wp2_with fail
                have CC := Lib.hid (has_any (bagN S) a wr (by omega) (by omega))
                with_reducible refine Calls.mono CC.out ?_
                rintro e wz ⟨rfl, hwz⟩
                obtain rfl := hwz
                rw [Hhb.out]
                clear CC
                cases hh : flHas S a
                · have Hno : Hid (flowB F rooms needs S flow = false) := Hbad.out (fun h => by
                    have := h.2.2.2 hp
                    rw [hh] at this; cases this)
                  clear hh
                  go_wp2_with fail
                  go_ret
                  exact ⟨ret_bool Hno.out.symm, hkw.trans hkr⟩
                · have Hn := Lib.hid (Hnx.out x1 x3 x4 (fun _ => hh))
                  clear hh
                  go_wp2_with fail
                  go_roundw
                  case rel => exact ⟨a + 1, by omega, by go_num, by rw [Hss.out]; go_num, Hn.out, Hs1.out, Hk2.out⟩
                  case measure => simp [intOf]; omega
              · have Hn := Lib.hid (Hnx.out x1 x3 x4 (fun h => absurd h hp))
                go_wp2_with fail
                go_roundw
                case rel => exact ⟨a + 1, by omega, by go_num, by rw [Hss.out]; go_num, Hn.out, Hs1.out, Hk2.out⟩
                case measure => simp [intOf]; omega
        · obtain rfl : a = F.op.length := by omega
          have hend : ¬ F.op.length < flow[j].length := by rw [Hrl.out]; omega
          by_cases hz : sumTo (flAt flow j) F.op.length = lget needs j
          · have Hn := Lib.hid (Hs2.out.row (by rw [e1.out]; exact Hrl.out) hz (fun a => (HN5.out a).1))
            have hz2 : ((lget needs j - sumTo (flAt flow j) F.op.length) != 0) = false := by simp; omega
            rw [leftL_end] at hown
            clear hz
            go_wp2_with fail
            go_roundw
            case rel => exact ⟨j + 1, by omega, by go_num, Hn.out, hown, hkr⟩
            case measure => simp [intOf]; omega
          · have Hno : Hid (flowB F rooms needs S flow = false) := flSt.short lx hz
            have hz2 : ((lget needs j - sumTo (flAt flow j) F.op.length) != 0) = true := by simp; omega
            clear hz
            go_wp2_with fail
            go_ret
            exact ⟨ret_bool Hno.out.symm, hkw.trans hkr⟩
    · have Hyes : Hid (flowB F rooms needs S flow = true) := Hst.out.done (by rw [Hm.out]; omega) (by rw [Hm.out, Hmd.out]; exact Hd2.out)
      go_wp2_with fail
      go_ret
      exact ⟨ret_bool Hyes.out.symm, hkw.trans hkr⟩
end Go.Proofs.Ytgdicmeabppngaa

/- The drawing of arguments for the laws on gains; The drawing of arguments for the law on the core; Bytes of the call's own: append of bytes; Small functions of the laws on costs: too many bytes, equal lists, a sum, a part of the bytes; Small functions of the law on least flows: a copy of a list, the greatest number, equal tables. No condition. -/
import Derived.Test.YtffpdebjjcbenaaGreatQAs
import Derived.Test.YtffpdebjjcbenaaGreatQAt
import Derived.Test.YtffpdebjjcbenaaGreatQAb
import Derived.Test.YtffpdebjjcbenaaGreatQAc
import Derived.Test.YtffpdebjjcbenaaGreatQAa
import Derived.Test.YtffpdebjjcbenaaGreatQAe
namespace Go.Proofs.YtffpdebjjcbenaaGreat
open Go.RowKit Go.Sort

/-- A new cursor. -/
theorem cur_new {w : World} {A : Option Addr} {n c : Nat} {t : TypeId} (hb : BytesAt w A n) : Cur (w.alloc (.cells #[.slice A n c, .int .i64 0, .int .u64 0] t)) w.heap.size 0 := by
  have hk : Kp w (w.alloc (.cells #[.slice A n c, .int .i64 0, .int .u64 0] t)) := (Kp.refl w).alloc _
  refine ⟨⟨A, n, c, 0, 0, ?_, ?_, ?_, Nat.le_refl _, hb.kp hk, fun ad e h0 => ?_⟩, there_newD w [.slice A n c, .int .i64 0, .int .u64 0] t⟩
  · rw [World.cell?_alloc_at _ _ _ _ rfl]; rfl
  · rw [World.cell?_alloc_at _ _ _ _ rfl]; rfl
  · rw [World.cell?_alloc_at _ _ _ _ rfl]; rfl
  · obtain ⟨ad', b, e', hc, _⟩ := hb.2 0 h0
    rw [e] at e'
    cases e'
    have := World.block_lt_of_cell? _ _ hc
    rwa [blk_add] at this
theorem BytesAt.kpD {w w' : World} {A : Option Addr} {n : Nat} (h : BytesAt w A n) (hk : Kp w w') : BytesAt w' A n := h.kp hk
/-- The results of a draw whose first one is a field. -/
theorem drw_ret {w w2 : World} {rb b : Nat} {x y : Value} (hf : DFld w2 b (.agg #[x, y])) (hb : rb < b) (ht : w2.there rb 0 2) (k : Kp w w2) (hr : w.heap.size ≤ rb) : (w2.setCells rb 0 [x, y]).cell? ⟨rb, 0, none⟩ = some x ∧ (w2.setCells rb 0 [x, y]).cell? ⟨rb, 1, none⟩ = some y ∧ DFld (w2.setCells rb 0 [x, y]) w.heap.size (.agg #[x, y]) ∧ Kp w (w2.setCells rb 0 [x, y]) ∧ Turn (fun i => i = rb) w2 (w2.setCells rb 0 [x, y]) := by
  have ts := turn_setCellsD rb [x, y] 0 w2
  have hg := World.rangeAt_setCells_same w2 rb 0 [x, y] ht
  exact ⟨hg 0 _ rfl, hg 1 _ rfl, (hf.turn ts (fun i hi => by omega)).mono (by omega), k.turn ts (fun i hi => by omega), ts⟩
def MgPost (w : World) (e : Ending) (w' : World) : Prop := ∃ v r l a, e = .returned (.tuple #[v, .int .i64 r, l, .int .i64 a]) ∧ DFld w' w.heap.size v ∧ DInts w' w.heap.size l ∧ Kp w w'
def WrPost (w : World) (e : Ending) (w' : World) : Prop := ∃ v l a, e = .returned (.tuple #[v, l, .int .i64 a]) ∧ DFld w' w.heap.size v ∧ DInts w' w.heap.size l ∧ Kp w w'
end Go.Proofs.YtffpdebjjcbenaaGreat

namespace Go.Proofs.YtffpdebjjcbenaaGreat
open Go.RowKit Go.Sort

def FlPostC (w : World) (e : Ending) (w' : World) : Prop := ∃ v l, e = .returned (.tuple #[v, l]) ∧ DFld w' w.heap.size v ∧ DInts w' w.heap.size l ∧ Kp w w'
theorem DInts.cutC {w : World} {b : Nat} {v : Value} (h : DInts w b v) : ∃ A n c, v = .slice A n c := by
  obtain ⟨A, c, xs, e, _⟩ := h.ints
  exact ⟨A, _, c, e⟩
set_option maxRecDepth 100000 in
set_option maxHeartbeats 2000000 in
theorem drawIsCoreShare_any (A : Option Addr) (n c : Nat) (w : World) (hb : BytesAt w A n) :
    Calls Tryz.prog 5 #[.slice A n c] w (FlPostC w) := by
  have t0 := there_newD w [.slice none 0 0, .slice none 0 0] 27
  simp only [List.length_cons, List.length_nil, Nat.zero_add, Nat.reduceAdd] at t0
  have k1 : Kp w (w.alloc (.cells #[.slice none 0 0, .slice none 0 0] 27)) := (Kp.refl w).alloc _
  have k2 : Kp _ ((w.alloc (.cells #[.slice none 0 0, .slice none 0 0] 27)).alloc (.cells #[.slice A n c, .int .i64 0, .int .u64 0] 42)) := (Kp.refl _).alloc _
  have cu := cur_new (c := c) (t := 42) (hb.kp k1)
  have ta := turn_thereD (Turn.of_kp (S := fun _ => False) k2) t0 (fun h => h)
  have hz : Hid (((w.alloc (.cells #[.slice none 0 0, .slice none 0 0] 27)).alloc (.cells #[.slice A n c, .int .i64 0, .int .u64 0] 42)).heap.size = w.heap.size + 2) := by show _ = _; simp
  have k0 := k1.trans k2
  rw [World.size_alloc] at cu
  have CF := Lib.hid (fieldOf_any (w.heap.size + 1) 0 5 _ cu (by omega) (by omega))
  clear k1 k2 t0
  go_enter Tryz.func5, Tryz.ntmps5
  go_wp2_with fail
  generalize (w.alloc (.cells #[.slice none 0 0, .slice none 0 0] 27)).alloc (.cells #[.slice A n c, .int .i64 0, .int .u64 0] 42) = wa at *
  with_reducible refine Calls.mono CF.out ?_
  rintro e w1 ⟨v, rfl, hv, c1, u1⟩
  clear CF
  rw [hz.out] at hv
  obtain ⟨A9, n9, c9, B9, k9, d9, rfl, hn9⟩ := hv.shape
  have kv : Kp w1 (w1.alloc (.cells #[.slice A9 n9 c9, .slice B9 k9 d9] 27)) := (Kp.refl w1).alloc _
  obtain ⟨d0, d1⟩ := box2 w1 (.slice A9 n9 c9) (.slice B9 k9 d9) 27
  have hvb : w.heap.size + 2 ≤ w1.heap.size := by have := u1.size; rw [hz.out] at this; exact this
  have tv := turn_thereD (Turn.of_kp (S := fun _ => False) kv) (turn_thereD u1 ta (by omega)) (fun h => h)
  have kk : Kp w (w1.alloc (.cells #[.slice A9 n9 c9, .slice B9 k9 d9] 27)) := (k0.turn u1 (fun i hi => by omega)).trans kv
  have hfv := hv.kp kv
  have cv := c1.kp kv
  have HWB : Hid ((w1.alloc (.cells #[.slice A9 n9 c9, .slice B9 k9 d9] 27)).heap.size = w1.heap.size + 1) := by show _ = _; simp
  clear hv c1 u1 ta k0 cu hz
  go_wp2_with fail
  generalize w1.alloc (.cells #[.slice A9 n9 c9, .slice B9 k9 d9] 27) = wr at *
  generalize w1.heap.size = bv at *
  have hbv : bv ≠ w.heap.size + 1 := by omega
  have hqs : w.heap.size + 2 ≤ wr.heap.size := by have := HWB.out; omega
  have hpi : ∀ i, w.heap.size + 2 ≤ i → ¬ i = w.heap.size + 1 := fun i hi => by omega
  have e0 := (Kp.refl wr).drew.get d0
  have e1 := (Kp.refl wr).drew.get d1
  have kd := (Kp.refl wr).drew
  have CO := Lib.hid (shares_any (w.heap.size + 1) _ (w.heap.size + 2) _ wr.drew (cv.kp kd) (by omega) (by omega) (hfv.kp kd))
  refine wp_region_held_drew (S := fun w' => w'.cell? ⟨bv, 0, none⟩ = some (.slice A9 n9 c9) ∧ w'.cell? ⟨bv, 1, none⟩ = some (.slice B9 k9 d9)) (by kernel_rfl) ⟨e0, e1⟩ (fun hHeld => ?_)
  refine wpAnyH_take (i := 0) (v := ?_) rfl (by kernel_rfl) (by kernel_rfl) (by kernel_rfl) (fun _ _ _ h => h) (Or.inl ⟨by rfl, ?_⟩) (by assumption) ?_
  rotate_left
  · intro w hSw; (try dsimp only at hSw); go_simp <;> with_reducible rfl
  (try simp only [Act.put, List.setIfInBounds_toArray, List.set_cons_zero, List.set_cons_succ])
  refine wpAnyH_take (i := 1) (v := ?_) rfl (by kernel_rfl) (by kernel_rfl) (by kernel_rfl) (fun _ _ _ h => h) (Or.inl ⟨by rfl, ?_⟩) (by assumption) ?_
  rotate_left
  · intro w hSw; (try dsimp only at hSw); go_simp <;> with_reducible rfl
  (try simp only [Act.put, List.setIfInBounds_toArray, List.set_cons_zero, List.set_cons_succ])
  refine wpAnyH_take (i := 2) (v := ?_) rfl (by kernel_rfl) (by kernel_rfl) (by kernel_rfl) (fun _ _ _ h => h) (Or.inl ⟨by rfl, ?_⟩) (by assumption) ?_
  rotate_left
  · intro w hSw; (try dsimp only at hSw); go_simp <;> with_reducible rfl
  (try simp only [Act.put, List.setIfInBounds_toArray, List.set_cons_zero, List.set_cons_succ])
  refine wpAnyH_ready (rs := [3]) (by kernel_rfl) (by simp) ?_
  refine AllReadyH.cons rfl (fun K hK => ?_) AllReadyH.nil
  go_simp
  with_reducible refine Calls.mono CO.out ?_
  rintro e w2 ⟨sv, rfl, hsv, c2, u2⟩
  clear CO
  (try go_wp2_with fail)
  have s0 := turn_cellD u2 e0 hbv
  have s1 := turn_cellD u2 e1 hbv
  refine hK.out _ _ ?_ (fun hHeld => ?_)
  · (try dsimp only); exact ⟨s0, s1⟩
  clear hK K
  (try simp only [Act.put, List.setIfInBounds_toArray, List.set_cons_zero, List.set_cons_succ])
  replace hsv := hsv.mono (show w.heap.size + 2 ≤ wr.drew.heap.size from hqs)
  obtain ⟨As, ns, cs, rfl⟩ := hsv.cutC
  have hfv2 := (hfv.kp kd).turn u2 hpi
  have tv2 := turn_thereD u2 (turn_thereD (Turn.of_kp (S := fun _ => False) kd) tv (fun h => h)) (by omega)
  have kk2 : Kp w w2 := (kk.trans kd).turn u2 (fun i hi => by omega)
  have HE := Lib.hid (drw_ret hfv2 (by omega) tv2 kk2 (Nat.le_refl _))
  have hi2 : ∀ i, w.heap.size + 2 ≤ i → ¬ i = w.heap.size := fun i hi => by omega
  have hsz3 : w.heap.size ≤ w.heap.size + 2 := by omega
  refine wpAnyH_ready (rs := [4]) (by kernel_rfl) (by simp) ?_
  refine AllReadyH.cons rfl (fun K hK => ?_) AllReadyH.nil
  rw [if_pos (by rfl)]
  refine wp_store_mid 27 (.tmp 2) (.tmp 11) rfl w.heap.size 0 #[.slice A9 n9 c9, .slice B9 k9 d9] rfl rfl tv2 (by kernel_rfl) (by simp [Value.oneCell']) ?_
  refine hK.out _ _ ?_ (fun hHeld => ?_)
  · (try dsimp only); exact ⟨turn_cellD HE.out.2.2.2.2 s0 (by show bv ≠ w.heap.size; omega), turn_cellD HE.out.2.2.2.2 s1 (by show bv ≠ w.heap.size; omega)⟩
  clear hK K
  (try simp only [Act.put, List.setIfInBounds_toArray, List.set_cons_zero, List.set_cons_succ])
  refine wpAnyH_take (i := 5) (v := ?_) rfl (by kernel_rfl) (by kernel_rfl) (by kernel_rfl) (fun _ _ _ h => h) (Or.inl ⟨by rfl, ?_⟩) (by assumption) ?_
  rotate_left
  · intro w hSw; (try dsimp only at hSw); go_simp <;> with_reducible rfl
  (try simp only [Act.put, List.setIfInBounds_toArray, List.set_cons_zero, List.set_cons_succ])
  refine wpAnyH_done (by kernel_rfl) ?_ _
  go_wp2_with fail
  obtain ⟨z0, z1, z2, z3, z4⟩ := HE.out
  exact bodyPost_ret (v := .tuple #[.agg #[.slice A9 n9 c9, .slice B9 k9 d9], .slice As ns cs]) (by simp [results, Tryz.results5, go_sem, z0, z1]) rfl ⟨_, _, rfl, z2, (hsv.turn z4 hi2).mono hsz3, z3⟩
end Go.Proofs.YtffpdebjjcbenaaGreat

namespace Go.Proofs.YtffpdebjjcbenaaGreat
open Go.RowKit Go.Sort

theorem infoByte : (Tryz.prog.info? 5).map (fun i => (i.zero, i.size, i.bytes)) = some (some (.int .u8 0), 1, 1) := by kernel_rfl
/-- A slice of bytes of the call's own. -/
def OwnB (w : World) (base : Nat) (v : Value) (xs : List Int) : Prop := w.ownsRow base 5 1 v xs.length (xs.map (Value.int .u8)) ∧ ∀ x ∈ xs, 0 ≤ x ∧ x < 256
/-- What the bytes read as. -/
theorem BytesAt.list {w : World} {A : Option Addr} {n : Nat} (h : BytesAt w A n) : ∃ ys : List Int, ys.length = n ∧ (∀ y ∈ ys, 0 ≤ y ∧ y < 256) ∧ ∀ k (hk : k < ys.length), ∃ ad, A = some ad ∧ w.cell? (ad.add k) = some (.int .u8 ys[k]) := by
  refine ⟨(List.range n).map fun k => if hk : k < n then (h.2 k hk).choose_spec.choose else 0, by simp, ?_, ?_⟩
  · intro y hy
    rw [List.mem_map] at hy
    obtain ⟨k, hk, rfl⟩ := hy
    have hk2 := List.mem_range.1 hk
    rw [dif_pos hk2]
    exact (h.2 k hk2).choose_spec.choose_spec.2.2
  · intro k hk
    have hk2 : k < n := by simpa using hk
    simp only [List.getElem_map, List.getElem_range]
    rw [dif_pos hk2]
    exact ⟨_, (h.2 k hk2).choose_spec.choose_spec.1, (h.2 k hk2).choose_spec.choose_spec.2.1⟩
/-- A part of the bytes. -/
theorem BytesAt.cut {w : World} {ad : Addr} {n k : Nat} (h : BytesAt w (some ad) n) (hk : k ≤ n) : BytesAt w (some (ad.add k)) (n - k) :=
  ⟨by have := h.1; omega, fun j hj => by
    obtain ⟨a, b, e, hc, hb⟩ := h.2 (k + j) (by omega)
    cases e
    refine ⟨ad.add k, b, rfl, ?_, hb⟩
    rw [Addr.add_add]; exact hc⟩
theorem OwnB.bytes {w : World} {base : Nat} {v : Value} {xs : List Int} (h : OwnB w base v xs) (hl : xs.length ≤ 9223372036854775807) : ∃ A c, v = .slice A xs.length c ∧ BytesAt w A xs.length := by
  rcases h.1.2 with ⟨rfl, h0⟩ | ⟨g, cap, cur, rfl, _, _, _⟩
  · refine ⟨none, 0, by rw [h0], hl, fun k hk => ?_⟩
    rw [h0] at hk; omega
  · refine ⟨_, cap, rfl, hl, fun k hk => ⟨_, xs[k], rfl, ?_, h.2 _ (List.getElem_mem hk)⟩⟩
    exact World.ownsRow.cells h.1 (g := g) rfl k (.int .u8 xs[k]) (by simp [hk])
theorem OwnB.kp {w w' : World} {base : Nat} {v : Value} {xs : List Int} (h : OwnB w base v xs) (hk : Kp w w') : OwnB w' base v xs := ⟨hk.own h.1, h.2⟩
theorem OwnB.lt {w : World} {base : Nat} {v : Value} {xs : List Int} (h : OwnB w base v xs) : ∀ i, v.ownBlock = some i → base ≤ i ∧ i < w.heap.size := h.1.lt
theorem ownB_new0 (w : World) (base : Nat) (hb : base ≤ w.heap.size) : OwnB (w.alloc (.cells #[] 5)) base (.slice (some ⟨w.heap.size, 0, none⟩) 0 0) [] :=
  ⟨World.ownsRow_lit w #[] 0 hb (by unfold maxLen; omega) (by simp), by simp⟩
theorem run_appB {W : World} (ty : TypeId) (base : Nat) (v : Value) (xs ys : List Int) (A : Option Addr) (m c : Nat)
    (hown : OwnB W base v xs) (hm : ys.length = m) (hb : ∀ y ∈ ys, 0 ≤ y ∧ y < 256) (hy : ∀ k (hk : k < ys.length), ∃ ad, A = some ad ∧ W.cell? (ad.add k) = some (.int .u8 ys[k])) (hbase : base ≤ W.heap.size) (hlen : xs.length + ys.length ≤ 4194304) :
    ∃ v' w', (Builtin.append_ #[22, 22] ty #[v, .slice A m c]).run Tryz.prog W = .ok v' w' ∧ OwnB w' base v' (xs ++ ys) ∧ W.grownBy w' v.ownBlock ∧ (v'.ownBlock = v.ownBlock ∨ ∀ g, v'.ownBlock = some g → W.heap.size ≤ g) := by
  obtain ⟨i0, hi, hz0, hz1, hz2⟩ := info_parts infoByte
  have hb2 : ∀ x ∈ xs ++ ys, 0 ≤ x ∧ x < 256 := fun x hx => (List.mem_append.1 hx).elim (hown.2 x) (hb x)
  rcases A with _ | ad
  · have hys : ys = [] := by
      rcases ys with _ | ⟨y, ys⟩
      · rfl
      · obtain ⟨ad, h, _⟩ := hy 0 (by simp)
        cases h
    subst hys
    obtain rfl : m = 0 := by simpa using hm.symm
    refine ⟨v, W, ?_, by simpa using hown, World.grownBy.refl W _, .inl rfl⟩
    rcases hown.1.2 with ⟨rfl, hn0⟩ | ⟨g, cap, cur, rfl, _, _, hnc, _⟩
    · simp [Builtin.append_, run_underlying Tryz.underlying22, sizeOf, typeInfo, hi, Builtin.lenOf, Builtin.firstCells]
    · simp [Builtin.append_, run_underlying Tryz.underlying22, sizeOf, typeInfo, hi, Builtin.lenOf, Builtin.firstCells, hnc, storeCells]
  · obtain ⟨v', w', hrun, h2, h3, _, h5⟩ := run_append_own_at (P := Tryz.prog) W base 22 ty 5 i0 (.int .u8 0) 1 1 Tryz.underlying22 hi hz0 hz1 hz2 rfl (by decide) v xs.length (xs.map (Value.int .u8)) hown.1 ad m c (ys.map (Value.int .u8)) (by simp [hm]) (by
      intro j u hj
      by_cases hlt : j < ys.length
      · rw [List.getElem?_map, List.getElem?_eq_getElem hlt] at hj
        have e : u = .int .u8 ys[j] := by simpa using hj.symm
        obtain ⟨ad', e', hc⟩ := hy j hlt
        cases e'
        rw [e]; exact hc
      · rw [List.getElem?_eq_none (by simpa using hlt)] at hj; cases hj) (ints_oneCell _ _) (by unfold maxLen; omega) (by omega) hbase
    refine ⟨v', w', hrun, ⟨?_, hb2⟩, h3, ?_⟩
    · rw [List.length_append, List.map_append, hm]
      exact h2
    · rcases h5 with e | e
      · exact .inl e
      · exact .inr (fun g hg => by rw [e] at hg; simp at hg; omega)
theorem step_appB {ops : Array Oper} {o : Oper} {a : Act} {K : Act → World → Prop} {Q : Exit → Act → World → Prop} {E : Prop} {W : World} (hgd : o.guard = none) (s x : Operand)
    (ho : o.op = .call { callee := .builtin .append, args := #[s, x], argTypes := #[22, 22] }) (base : Nat) (v : Value) (xs ys : List Int) (A : Option Addr) (m c : Nat)
    (hs : a.eval s = v) (hx : a.eval x = .slice A m c) (hown : OwnB W base v xs) (hm : ys.length = m) (hb : ∀ y ∈ ys, 0 ≤ y ∧ y < 256) (hy : ∀ k (hk : k < ys.length), ∃ ad, A = some ad ∧ W.cell? (ad.add k) = some (.int .u8 ys[k])) (hbase : base ≤ W.heap.size) (hlen : xs.length + ys.length ≤ 4194304)
    (h : ∀ v' w', OwnB w' base v' (xs ++ ys) → Turn (fun i => v.ownBlock = some i) W w' → (v'.ownBlock = v.ownBlock ∨ ∀ g, v'.ownBlock = some g → W.heap.size ≤ g) → K (a.put o.dst v') w') :
    if Region.wanted o (yielded ops a.tmps) = true then Oper.wp Tryz.prog o a W K Q else E := by
  have hw : Region.wanted o (yielded ops a.tmps) = true := by simp [Region.wanted, hgd]
  rw [if_pos hw]
  obtain ⟨v', w', hrun, h2, h3, h4⟩ := run_appB (W := W) o.type base v xs ys A m c hown hm hb hy hbase hlen
  unfold Oper.wp execOp
  simp only [ho, resolve, invoke, builtin, Sem.run_bind, Sem.run_pure, Result.andThen_ok, List.map_toArray, List.map_cons, List.map_nil, hs, hx, hrun]
  exact h v' w' h2 (Turn.of_grown h3) h4
theorem wpl_appB {ops : Array Oper} {rest : List Oper} {o : Oper} {a : Act} {Q : Exit → Act → World → Prop} {W : World} (hgd : o.guard = none) (s x : Operand)
    (ho : o.op = .call { callee := .builtin .append, args := #[s, x], argTypes := #[22, 22] }) (base : Nat) (v : Value) (xs ys : List Int) (A : Option Addr) (m c : Nat)
    (hs : a.eval s = v) (hx : a.eval x = .slice A m c) (hown : OwnB W base v xs) (hm : ys.length = m) (hb : ∀ y ∈ ys, 0 ≤ y ∧ y < 256) (hy : ∀ k (hk : k < ys.length), ∃ ad, A = some ad ∧ W.cell? (ad.add k) = some (.int .u8 ys[k])) (hbase : base ≤ W.heap.size) (hlen : xs.length + ys.length ≤ 4194304)
    (h : ∀ v' w', OwnB w' base v' (xs ++ ys) → Turn (fun i => v.ownBlock = some i) W w' → (v'.ownBlock = v.ownBlock ∨ ∀ g, v'.ownBlock = some g → W.heap.size ≤ g) → wpList Tryz.prog ops Q rest (a.put o.dst v') w') :
    wpList Tryz.prog ops Q (o :: rest) a W := by
  obtain ⟨v', w', hrun, h2, h3, h4⟩ := run_appB (W := W) o.type base v xs ys A m c hown hm hb hy hbase hlen
  exact Lib.wpList_append_run _ hgd s x _ _ ho _ _ hs hx v' w' hrun (h v' w' h2 (Turn.of_grown h3) h4)
theorem wpl_appB1 {ops : Array Oper} {rest : List Oper} {o : Oper} {a : Act} {Q : Exit → Act → World → Prop} {W : World} (hgd : o.guard = none) (s x : Operand)
    (ho : o.op = .call { callee := .builtin .append, args := #[s, x], argTypes := #[22, 22] }) (base : Nat) (v : Value) (xs : List Int) (z : Int)
    (hs : a.eval s = v) (hx : a.eval x = .slice (some ⟨W.heap.size, 0, none⟩) 1 1) (hown : OwnB W base v xs) (hz : 0 ≤ z ∧ z < 256) (hbase : base ≤ W.heap.size) (hlen : xs.length < 1048576)
    (h : ∀ v' w', OwnB w' base v' (xs ++ [z]) → Turn (fun i => v.ownBlock = some i) W w' → wpList Tryz.prog ops Q rest (a.put o.dst v') w') :
    wpList Tryz.prog ops Q (o :: rest) a (W.alloc (.cells #[.int .u8 z] 5)) := by
  have hka : Kp W (W.alloc (.cells #[.int .u8 z] 5)) := (Kp.refl W).alloc _
  refine wpl_appB hgd s x ho base v xs [z] _ 1 1 hs hx (hown.kp hka) rfl (fun y hy => by rw [List.mem_singleton.1 hy]; exact hz) (fun k hk => ?_) (by simp; omega) (by simp; omega) (fun v' w' h1 h2 _ => h v' w' h1 ((Turn.of_kp hka).trans h2))
  obtain rfl : k = 0 := by simpa using hk
  exact ⟨_, rfl, by rw [add0, World.cell?_alloc_at _ _ _ _ rfl]; rfl⟩
theorem wrap_u8_bd (x : Int) : 0 ≤ IntKind.u8.wrap x ∧ IntKind.u8.wrap x < 256 := by
  have : IntKind.u8.wrap x = x % 256 := by simp [IntKind.wrap, IntKind.bits, IntKind.signed]
  omega
end Go.Proofs.YtffpdebjjcbenaaGreat

namespace Go.Proofs.YtffpdebjjcbenaaGreat
open Go.RowKit Go.Sort

theorem vBig_any (A : Option Addr) (n c : Nat) (w : World) :
    Calls Tryz.prog 4 #[.slice A n c] w fun e w' => e = .returned (.bool (decide (65536 < (n : Int)))) ∧ w = w' := by
  go_enter Tryz.func4, Tryz.ntmps4
  go_wp2_with fail
  go_ret
  exact ⟨rfl, rfl⟩
set_option maxRecDepth 100000 in
set_option maxHeartbeats 1000000 in
/-- Two slices that read as the same list. -/
theorem vInts_same (A B : Option Addr) (xs : List Int) (n c d : Nat) (w : World) (hA : IntsAt w A xs) (hB : IntsAt w B xs) (hn : xs.length = n) :
    Calls Tryz.prog 12 #[.slice A n c, .slice B n d] w fun e w' => e = .returned (.bool true) ∧ Kp w w' := by
  have Hn := Lib.hid hn
  have hn63 : n ≤ 9223372036854775807 := hn ▸ hA.1
  clear hn
  have e0 : ((n : Int) != (n : Int)) = false := by simp
  go_enter Tryz.func12, Tryz.ntmps12
  go_wp2_with fail
  go_loopw [5] (fun iv wr => ∃ i : Nat, iv = .int .i64 i ∧ i ≤ n ∧ Kp w wr) (fun iv _ => n - (intOf iv).toNat)
  case atStart => exact ⟨0, rfl, by omega, Kp.refl _⟩
  case round =>
    obtain ⟨i, rfl, hi, hkr⟩ := hrel
    by_cases hlt : i < n
    · have lx : i < xs.length := by rw [Hn.out]; exact hlt
      obtain ⟨a, rfl, h1⟩ := (hA.kp hkr).at_ lx
      obtain ⟨b, rfl, h2⟩ := (hB.kp hkr).at_ lx
      obtain ⟨z, hz⟩ : ∃ z, xs[i] = z := ⟨_, rfl⟩
      rw [hz] at h1 h2
      have e1 : (z != z) = false := by simp
      have hkd : Kp w wr.drew := hkr.trans (Kp.refl wr).drew
      have iI : (i : Int) < (n : Int) := by omega
      go_wp2_with fail
      go_still (by kernel_rfl)
      change Exit.then _ _ _ _ wr.drew
      generalize wr.drew = wd at *
      go_wp2_with fail
      go_roundw
      case rel => exact ⟨i + 1, by go_num, by omega, hkd⟩
      case measure => simp [intOf]; omega
    · obtain rfl : i = n := by omega
      go_wp2_with fail
      go_ret
      exact ⟨rfl, hkr⟩
set_option maxRecDepth 100000 in
set_option maxHeartbeats 1000000 in
/-- The sum of a list. -/
theorem vSum_any (A : Option Addr) (xs : List Int) (n c : Nat) (w : World) (hA : IntsAt w A xs) (hn : xs.length = n) :
    Calls Tryz.prog 17 #[.slice A n c] w fun e w' => e = .returned (.int .i64 (wrap64 xs.sum)) ∧ Kp w w' := by
  have Hn := Lib.hid hn
  have hn63 : n ≤ 9223372036854775807 := hn ▸ hA.1
  clear hn
  go_enter Tryz.func17, Tryz.ntmps17
  go_wp2_with fail
  go_loopw [3, 4] (fun sv iv wr => ∃ (i : Nat) (s : Int), sv = .int .i64 s ∧ iv = .int .i64 i ∧ i ≤ n ∧ Hid (s = wrap64 (xs.take i).sum) ∧ Kp w wr) (fun _ iv _ => n - (intOf iv).toNat)
  case atStart => exact ⟨0, 0, rfl, rfl, by omega, Lib.hid (by simp [wrap64]), Kp.refl _⟩
  case round =>
    obtain ⟨i, s, rfl, rfl, hi, Hs, hkr⟩ := hrel
    by_cases hlt : i < n
    · have lx : i < xs.length := by rw [Hn.out]; exact hlt
      obtain ⟨a, rfl, h1⟩ := (hA.kp hkr).at_ lx
      obtain ⟨z, hz⟩ : ∃ z, xs[i] = z := ⟨_, rfl⟩
      rw [hz] at h1
      have Hst : Hid (wrap64 (s + z) = wrap64 (xs.take (i + 1)).sum) := by
        show _ = _
        rw [List.take_succ_eq_append_getElem lx, hz, List.sum_append, Hs.out]
        simp only [List.sum_cons, List.sum_nil, Int.add_zero]
        unfold wrap64
        omega
      have iI : (i : Int) < (n : Int) := by omega
      go_wp2_with fail
      go_roundw
      case rel => exact ⟨i + 1, _, rfl, by go_num, by omega, Hst, hkr⟩
      case measure => simp [intOf]; omega
    · obtain rfl : i = n := by omega
      have hend : s = wrap64 xs.sum := by have := Hs.out; rwa [List.take_of_length_le (by rw [Hn.out]; omega)] at this
      clear Hs
      subst hend
      go_wp2_with fail
      go_ret
      exact ⟨rfl, hkr⟩
theorem OwnB.cap {w : World} {base n c : Nat} {v : Value} {A : Option Addr} {xs : List Int} (h : OwnB w base v xs) (e : v = .slice A n c) : xs.length ≤ c := by
  rcases h.1.2 with ⟨rfl, h0⟩ | ⟨g, cap, cur, rfl, _, _, h4, _⟩
  · omega
  · cases e; exact h4
end Go.Proofs.YtffpdebjjcbenaaGreat

namespace Go.Proofs.YtffpdebjjcbenaaGreat
open Go.RowKit Go.Sort

/-- The greatest number of a list, 0 at least. -/
def mostT (xs : List Int) (k : Nat) : Int := (xs.take k).foldl (fun m x => if m < x then x else m) 0
theorem mostT_succ {xs : List Int} {k : Nat} (h : k < xs.length) : mostT xs (k + 1) = if mostT xs k < xs[k] then xs[k] else mostT xs k := by
  unfold mostT
  rw [List.take_succ_eq_append_getElem h, List.foldl_append]; rfl
theorem mostT_ge {xs : List Int} : ∀ k, k ≤ xs.length → 0 ≤ mostT xs k ∧ ∀ j (_ : j < k) (hl : j < xs.length), xs[j] ≤ mostT xs k
  | 0, _ => ⟨Int.le_refl _, fun j hj => by omega⟩
  | k + 1, hk => by
    obtain ⟨h1, h2⟩ := mostT_ge (xs := xs) k (by omega)
    rw [mostT_succ (by omega)]
    refine ⟨by split <;> omega, fun j hj hl => ?_⟩
    by_cases e : j = k
    · subst e; split <;> omega
    · have := h2 j (by omega) hl
      split <;> omega
set_option maxRecDepth 100000 in
set_option maxHeartbeats 1000000 in
theorem vMost_any (A : Option Addr) (xs : List Int) (n c : Nat) (w : World) (hA : IntsAt w A xs) (hn : xs.length = n) :
    Calls Tryz.prog 14 #[.slice A n c] w fun e w' => e = .returned (.int .i64 (mostT xs n)) ∧ w = w' := by
  have Hn := Lib.hid hn
  have hn63 : n ≤ 9223372036854775807 := hn ▸ hA.1
  clear hn
  go_enter Tryz.func14, Tryz.ntmps14
  go_wp2_with fail
  go_loopw [3, 4] (fun sv iv wr => ∃ i : Nat, sv = .int .i64 (mostT xs i) ∧ iv = .int .i64 i ∧ i ≤ n ∧ w = wr) (fun _ iv _ => n - (intOf iv).toNat)
  case atStart => exact ⟨0, rfl, rfl, by omega, rfl⟩
  case round =>
    obtain ⟨i, rfl, rfl, hi, rfl⟩ := hrel
    by_cases hlt : i < n
    · have lx : i < xs.length := by rw [Hn.out]; exact hlt
      obtain ⟨ad, rfl, hc⟩ := hA.at_ lx
      have hm := Lib.hid (mostT_succ lx)
      obtain ⟨z, hz⟩ : ∃ z, xs[i] = z := ⟨_, rfl⟩
      obtain ⟨y, hy⟩ : ∃ y, mostT xs i = y := ⟨_, rfl⟩
      rw [hz] at hc hm
      rw [hy] at hm ⊢
      have iI : (i : Int) < (n : Int) := by omega
      by_cases hgt : y < z
      · have p1 : decide (y < z) = true := decide_eq_true hgt
        go_wp2_with fail
        go_roundw
        case rel => exact ⟨i + 1, by rw [hm.out, if_pos hgt], by go_num, by omega, (by first | trivial | rfl)⟩
        case measure => simp [intOf]; omega
      · have p1 : decide (y < z) = false := decide_eq_false hgt
        go_wp2_with fail
        go_roundw
        case rel => exact ⟨i + 1, by rw [hm.out, if_neg hgt], by go_num, by omega, (by first | trivial | rfl)⟩
        case measure => simp [intOf]; omega
    · obtain rfl : i = n := by omega
      go_wp2_with fail
      go_ret
      exact ⟨rfl, rfl⟩
theorem wpl_app_allW {ops : Array Oper} {rest : List Oper} {o : Oper} {a : Act} {Q : Exit → Act → World → Prop} {W : World} (hgd : o.guard = none) (s x : Operand)
    (ho : o.op = .call { callee := .builtin .append, args := #[s, x], argTypes := #[24, 24] }) (base : Nat) (v : Value) (xs ys : List Int) (A : Option Addr) (m c : Nat)
    (hs : a.eval s = v) (hx : a.eval x = .slice A m c) (hown : Own W base v xs) (hy : IntsAt W A ys) (hym : ys.length = m) (hbase : base ≤ W.heap.size) (hlen : xs.length + ys.length ≤ 4194304)
    (h : ∀ v' w', Own w' base v' (xs ++ ys) → Turn (fun i => v.ownBlock = some i) W w' → (v'.ownBlock = v.ownBlock ∨ ∀ g, v'.ownBlock = some g → W.heap.size ≤ g) → wpList Tryz.prog ops Q rest (a.put o.dst v') w') :
    wpList Tryz.prog ops Q (o :: rest) a W := by
  obtain ⟨v', w', hrun, h2, h3, h4⟩ := run_app_all (W := W) o.type base v xs ys A m c hown hy hym hbase hlen
  exact Lib.wpList_append_run _ hgd s x _ _ ho _ _ hs hx v' w' hrun (h v' w' h2 (Turn.of_grown h3) h4)
end Go.Proofs.YtffpdebjjcbenaaGreat

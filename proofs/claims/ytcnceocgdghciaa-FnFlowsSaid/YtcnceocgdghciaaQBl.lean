/- The drawing of arguments for the laws on gains; The drawing of arguments for the law on flows: all of them; A region's operations walked in pieces: the rest stands behind a letter. No condition. -/
import Derived.Test.YtcnceocgdghciaaQBd
import Derived.Test.YtcnceocgdghciaaQBk
import Derived.Test.YtcnceocgdghciaaQAv
namespace Go.Proofs.Ytcnceocgdghciaa
open Go.RowKit Go.Sort

/-- A new cursor. -/
theorem cur_new {w : World} {A : Option Addr} {n c : Nat} {t : TypeId} (hb : BytesAt w A n) : Cur (w.alloc (.cells #[.slice A n c, .int .i64 0, .int .u64 0] t)) w.heap.size 0 := by
  have hk : Kp w (w.alloc (.cells #[.slice A n c, .int .i64 0, .int .u64 0] t)) := (Kp.refl w).alloc _
  refine ⟨⟨A, n, c, 0, 0, ?_, ?_, ?_, Nat.le_refl _, hb.kp hk, fun ad e h0 => ?_⟩, there_newD w [.slice A n c, .int .i64 0, .int .u64 0] t⟩
  · rw [World.cell?_alloc_at _ _ _ _ rfl]; rfl
  · rw [World.cell?_alloc_at _ _ _ _ rfl]; rfl
  · rw [World.cell?_alloc_at _ _ _ _ rfl]; rfl
  · obtain ⟨ad', b, e', hc, _⟩ := hb.2 0 h0
    rw [e] at e'
    cases e'
    have := World.block_lt_of_cell? _ _ hc
    rwa [blk_add] at this
theorem BytesAt.kpD {w w' : World} {A : Option Addr} {n : Nat} (h : BytesAt w A n) (hk : Kp w w') : BytesAt w' A n := h.kp hk
/-- The results of a draw whose first one is a field. -/
theorem drw_ret {w w2 : World} {rb b : Nat} {x y : Value} (hf : DFld w2 b (.agg #[x, y])) (hb : rb < b) (ht : w2.there rb 0 2) (k : Kp w w2) (hr : w.heap.size ≤ rb) : (w2.setCells rb 0 [x, y]).cell? ⟨rb, 0, none⟩ = some x ∧ (w2.setCells rb 0 [x, y]).cell? ⟨rb, 1, none⟩ = some y ∧ DFld (w2.setCells rb 0 [x, y]) w.heap.size (.agg #[x, y]) ∧ Kp w (w2.setCells rb 0 [x, y]) ∧ Turn (fun i => i = rb) w2 (w2.setCells rb 0 [x, y]) := by
  have ts := turn_setCellsD rb [x, y] 0 w2
  have hg := World.rangeAt_setCells_same w2 rb 0 [x, y] ht
  exact ⟨hg 0 _ rfl, hg 1 _ rfl, (hf.turn ts (fun i hi => by omega)).mono (by omega), k.turn ts (fun i hi => by omega), ts⟩
def MgPost (w : World) (e : Ending) (w' : World) : Prop := ∃ v r l a, e = .returned (.tuple #[v, .int .i64 r, l, .int .i64 a]) ∧ DFld w' w.heap.size v ∧ DInts w' w.heap.size l ∧ Kp w w'
def WrPost (w : World) (e : Ending) (w' : World) : Prop := ∃ v l a, e = .returned (.tuple #[v, l, .int .i64 a]) ∧ DFld w' w.heap.size v ∧ DInts w' w.heap.size l ∧ Kp w w'
end Go.Proofs.Ytcnceocgdghciaa

namespace Go.Proofs.Ytcnceocgdghciaa
open Go.RowKit Go.Sort

/-- All arguments of the law on flows have been drawn. -/
def FpPost (w : World) (e : Ending) (w' : World) : Prop := ∃ v rv nv sv gv uv wv, e = .returned (.tuple #[v, rv, nv, sv, gv, uv, wv]) ∧ DFld w' w.heap.size v ∧ DInts w' w.heap.size rv ∧ DInts w' w.heap.size nv ∧ DInts w' w.heap.size sv ∧ DGrid w' w.heap.size gv ∧ DInts w' w.heap.size uv ∧ DInts w' w.heap.size wv ∧ Kp w w'
theorem DInts.cutK {w : World} {b : Nat} {v : Value} (h : DInts w b v) : ∃ A n c, v = .slice A n c := by
  obtain ⟨A, c, xs, e, _⟩ := h.ints
  exact ⟨A, _, c, e⟩
theorem DGrid.cutK {w : World} {b : Nat} {v : Value} (h : DGrid w b v) : ∃ A n c, v = .slice A n c := by
  obtain ⟨A, c, rows, e, _⟩ := h
  exact ⟨A, _, c, e⟩
set_option maxRecDepth 100000 in
set_option maxHeartbeats 2000000 in
theorem drawIsFlowProof_any (A : Option Addr) (n c : Nat) (w : World) (hb : BytesAt w A n) :
    Calls Try.prog 5 #[.slice A n c] w (FpPost w) := by
  have t0 := there_newD w [.slice none 0 0, .slice none 0 0] 27
  simp only [List.length_cons, List.length_nil, Nat.zero_add, Nat.reduceAdd] at t0
  have k1 : Kp w (w.alloc (.cells #[.slice none 0 0, .slice none 0 0] 27)) := (Kp.refl w).alloc _
  have k2 : Kp _ ((w.alloc (.cells #[.slice none 0 0, .slice none 0 0] 27)).alloc (.cells #[.slice A n c, .int .i64 0, .int .u64 0] 42)) := (Kp.refl _).alloc _
  have cu := cur_new (c := c) (t := 42) (hb.kp k1)
  have ta := turn_thereD (Turn.of_kp (S := fun _ => False) k2) t0 (fun h => h)
  have hz : Hid (((w.alloc (.cells #[.slice none 0 0, .slice none 0 0] 27)).alloc (.cells #[.slice A n c, .int .i64 0, .int .u64 0] 42)).heap.size = w.heap.size + 2) := by show _ = _; simp
  have k0 := k1.trans k2
  rw [World.size_alloc] at cu
  have CF := Lib.hid (rooms7_any (w.heap.size + 1) 0 5 _ cu (by omega) (by omega))
  clear k1 k2 t0
  go_enter Try.func5, Try.ntmps5
  go_wp2_with fail
  generalize (w.alloc (.cells #[.slice none 0 0, .slice none 0 0] 27)).alloc (.cells #[.slice A n c, .int .i64 0, .int .u64 0] 42) = wa at *
  with_reducible refine Calls.mono CF.out ?_
  rintro e w1 ⟨v, rv, nv, rfl, hv, hrv, hnv, c1, u1⟩
  clear CF
  rw [hz.out] at hv hrv hnv
  obtain ⟨A9, n9, c9, B9, k9, d9, rfl, hn9, hk9⟩ := hv.shape3
  obtain ⟨Ar, nr, cr, rfl⟩ := hrv.cutK
  obtain ⟨An, nn, cn, rfl⟩ := hnv.cutK
  have kv : Kp w1 (w1.alloc (.cells #[.slice A9 n9 c9, .slice B9 k9 d9] 27)) := (Kp.refl w1).alloc _
  obtain ⟨d0, d1⟩ := box2 w1 (.slice A9 n9 c9) (.slice B9 k9 d9) 27
  have hvb : w.heap.size + 2 ≤ w1.heap.size := by have := u1.size; rw [hz.out] at this; exact this
  have tv := turn_thereD (Turn.of_kp (S := fun _ => False) kv) (turn_thereD u1 ta (by omega)) (fun h => h)
  have kk : Kp w (w1.alloc (.cells #[.slice A9 n9 c9, .slice B9 k9 d9] 27)) := (k0.turn u1 (fun i hi => by omega)).trans kv
  have hfv := hv.kp kv
  replace hrv := hrv.kp kv
  replace hnv := hnv.kp kv
  have cv := c1.kp kv
  have HWB : Hid ((w1.alloc (.cells #[.slice A9 n9 c9, .slice B9 k9 d9] 27)).heap.size = w1.heap.size + 1) := by show _ = _; simp
  clear hv c1 u1 ta k0 cu hz
  go_wp2_with fail
  generalize w1.alloc (.cells #[.slice A9 n9 c9, .slice B9 k9 d9] 27) = wq at *
  generalize w1.heap.size = bv at *
  have hbv : bv ≠ w.heap.size + 1 := by omega
  have hqs : w.heap.size + 2 ≤ wq.heap.size := by have := HWB.out; omega
  have hpi : ∀ i, w.heap.size + 2 ≤ i → ¬ i = w.heap.size + 1 := fun i hi => by omega
  have hqi : ∀ i, w.heap.size ≤ i → ¬ i < w.heap.size := fun i hi => by omega
  have CO := Lib.hid (open7_any (w.heap.size + 1) _ (w.heap.size + 2) _ Ar nr cr An nn cn wq cv (by omega) (by omega) hfv hrv hnv)
  with_reducible refine Calls.mono CO.out ?_
  rintro e w2 ⟨sv, rfl, hsv, c2, u2⟩
  clear CO
  replace hsv := hsv.mono hqs
  obtain ⟨As, ns, cs, rfl⟩ := hsv.cutK
  have hfv2 := hfv.turn u2 hpi
  replace hrv := hrv.turn u2 hpi
  replace hnv := hnv.turn u2 hpi
  have s0 := turn_cellD u2 d0 hbv
  have s1 := turn_cellD u2 d1 hbv
  replace tv := turn_thereD u2 tv (by omega)
  replace kk := kk.turn u2 (fun i hi => by omega)
  have hws := u2.size
  clear u2 cv d0 d1 hfv
  have CO := Lib.hid (flow7_any (w.heap.size + 1) _ (w.heap.size + 2) _ Ar nr cr An nn cn As ns cs w2 c2 (by omega) (by omega) hfv2 hrv hnv hsv)
  go_wp2_with fail
  with_reducible refine Calls.mono CO.out ?_
  rintro e w3 ⟨gv, rfl, hgv, c3, u3⟩
  clear CO
  replace hgv := hgv.mono (show w.heap.size + 2 ≤ w2.heap.size by omega)
  obtain ⟨Ag, ng, cg, rfl⟩ := hgv.cutK
  have hfv3 := hfv2.turn u3 hpi
  replace hrv := hrv.turn u3 hpi
  replace hnv := hnv.turn u3 hpi
  replace hsv := hsv.turn u3 hpi
  have r0 := turn_cellD u3 s0 hbv
  have r1 := turn_cellD u3 s1 hbv
  replace tv := turn_thereD u3 tv (by omega)
  replace kk := kk.turn u3 (fun i hi => by omega)
  have hw3 := u3.size
  clear u3 c2 s0 s1 hfv2
  have CO := Lib.hid (prices7_any (w.heap.size + 1) _ (w.heap.size + 2) _ Ar nr cr An nn cn As ns cs w3 c3 (by omega) (by omega) hfv3 hrv hnv hsv)
  go_wp2_with fail
  with_reducible refine Calls.mono CO.out ?_
  rintro e w4 ⟨uv, wv, rfl, huv, hwv, c4, u4⟩
  clear CO
  replace huv := huv.mono (show w.heap.size + 2 ≤ w3.heap.size by omega)
  replace hwv := hwv.mono (show w.heap.size + 2 ≤ w3.heap.size by omega)
  obtain ⟨Au, nu, cu, rfl⟩ := huv.cutK
  obtain ⟨Aw, nw, cw, rfl⟩ := hwv.cutK
  have hfv4 := hfv3.turn u4 hpi
  replace hrv := hrv.turn u4 hpi
  replace hnv := hnv.turn u4 hpi
  replace hsv := hsv.turn u4 hpi
  replace hgv := hgv.turn u4 hpi
  have q0 := turn_cellD u4 r0 hbv
  have q1 := turn_cellD u4 r1 hbv
  replace tv := turn_thereD u4 tv (by omega)
  replace kk := kk.turn u4 (fun i hi => by omega)
  clear u4 c3 c4 r0 r1 hfv3
  have HE := Lib.hid (drw_ret hfv4 (by omega) tv kk (Nat.le_refl _))
  have hi2 : ∀ i, w.heap.size + 2 ≤ i → ¬ i = w.heap.size := fun i hi => by omega
  have hsz3 : w.heap.size ≤ w.heap.size + 2 := by omega
  go_wp2_with (first | (refine wpList_store_mid rfl 27 (.tmp 2) (.tmp 46) rfl w.heap.size 0 #[.slice A9 n9 c9, .slice B9 k9 d9] rfl rfl tv (by kernel_rfl) (by simp [Value.oneCell']) ?_) | fail)
  obtain ⟨z0, z1, z2, z3, z4⟩ := HE.out
  exact bodyPost_ret (v := .tuple #[.agg #[.slice A9 n9 c9, .slice B9 k9 d9], .slice Ar nr cr, .slice An nn cn, .slice As ns cs, .slice Ag ng cg, .slice Au nu cu, .slice Aw nw cw]) (by simp [results, Try.results5, go_sem, z0, z1]) rfl ⟨_, _, _, _, _, _, _, rfl, z2, (hrv.turn z4 hi2).mono hsz3, (hnv.turn z4 hi2).mono hsz3, (hsv.turn z4 hi2).mono hsz3, (hgv.turn z4 hi2).mono hsz3, (huv.turn z4 hi2).mono hsz3, (hwv.turn z4 hi2).mono hsz3, z3⟩
end Go.Proofs.Ytcnceocgdghciaa

namespace Go.Proofs.Ytcnceocgdghciaa
open Go.RowKit Go.Sort

theorem wpList_into {P : Program} {ops : Array Oper} {Q : Exit → Act → World → Prop} {l2 : List Oper} : ∀ (l1 : List Oper) (a : Act) (w : World),
    wpList P ops (fun x a' w' => match x with | .normal => wpList P ops Q l2 a' w' | e => Q e a' w') l1 a w → wpList P ops Q (l1 ++ l2) a w
  | [], _, _, h => h
  | o :: l1, a, w, h => by
    rw [List.cons_append]
    unfold wpList at h ⊢
    by_cases hw : Region.wanted o (yielded ops a.tmps) = true
    · rw [if_pos hw] at h ⊢
      rcases h with h | ⟨h1, a', w', h2⟩
      · exact .inl (wp_monoQ (fun a w hh => wpList_into l1 a w hh) (fun _ _ _ hh => hh) (fun ⟨a', w', hh⟩ => ⟨a', w', hh⟩) h)
      · exact .inr ⟨h1, a', w', h2⟩
    · rw [if_neg hw] at h ⊢
      exact wpList_into l1 _ _ h
theorem wpList_at {P : Program} {ops : Array Oper} {Q : Exit → Act → World → Prop} {l : List Oper} {a : Act} {w : World} (n : Nat)
    (h : ∀ Q1 : Exit → Act → World → Prop, (∀ a' w', wpList P ops Q (l.drop n) a' w' → Q1 .normal a' w') → wpList P ops Q1 (l.take n) a w) : wpList P ops Q l a w := by
  have := wpList_into (l2 := l.drop n) (l.take n) a w (h _ (fun _ _ hh => hh))
  rwa [List.take_append_drop] at this
/-- The first twelve operations. -/
theorem wpList_12 {P : Program} {ops : Array Oper} {Q : Exit → Act → World → Prop} {o0 o1 o2 o3 o4 o5 o6 o7 o8 o9 o10 o11 : Oper} {l : List Oper} {a : Act} {w : World}
    (h : ∀ Q1 : Exit → Act → World → Prop, (∀ a' w', wpList P ops Q l a' w' → Q1 .normal a' w') → wpList P ops Q1 [o0, o1, o2, o3, o4, o5, o6, o7, o8, o9, o10, o11] a w) : wpList P ops Q (o0 :: o1 :: o2 :: o3 :: o4 :: o5 :: o6 :: o7 :: o8 :: o9 :: o10 :: o11 :: l) a w :=
  wpList_into (l2 := l) [o0, o1, o2, o3, o4, o5, o6, o7, o8, o9, o10, o11] a w (h _ (fun _ _ hh => hh))
end Go.Proofs.Ytcnceocgdghciaa

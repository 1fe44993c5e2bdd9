/- The drawing of arguments for the laws on gains. No condition. -/
import Derived.Test.YtinpcfhgcilmoaaQAl
namespace Go.Proofs.Ytinpcfhgcilmoaa
open Go.RowKit Go.Sort

/-- A new cursor. -/
theorem cur_new {w : World} {A : Option Addr} {n c : Nat} {t : TypeId} (hb : BytesAt w A n) : Cur (w.alloc (.cells #[.slice A n c, .int .i64 0, .int .u64 0] t)) w.heap.size 0 := by
  have hk : Kp w (w.alloc (.cells #[.slice A n c, .int .i64 0, .int .u64 0] t)) := (Kp.refl w).alloc _
  refine ⟨⟨A, n, c, 0, 0, ?_, ?_, ?_, Nat.le_refl _, hb.kp hk, fun ad e h0 => ?_⟩, there_newD w [.slice A n c, .int .i64 0, .int .u64 0] t⟩
  · rw [World.cell?_alloc_at _ _ _ _ rfl]; rfl
  · rw [World.cell?_alloc_at _ _ _ _ rfl]; rfl
  · rw [World.cell?_alloc_at _ _ _ _ rfl]; rfl
  · obtain ⟨ad', b, e', hc, _⟩ := hb.2 0 h0
    rw [e] at e'
    cases e'
    have := World.block_lt_of_cell? _ _ hc
    rwa [blk_add] at this
theorem BytesAt.kpD {w w' : World} {A : Option Addr} {n : Nat} (h : BytesAt w A n) (hk : Kp w w') : BytesAt w' A n := h.kp hk
/-- The results of a draw whose first one is a field. -/
theorem drw_ret {w w2 : World} {rb b : Nat} {x y : Value} (hf : DFld w2 b (.agg #[x, y])) (hb : rb < b) (ht : w2.there rb 0 2) (k : Kp w w2) (hr : w.heap.size ≤ rb) : (w2.setCells rb 0 [x, y]).cell? ⟨rb, 0, none⟩ = some x ∧ (w2.setCells rb 0 [x, y]).cell? ⟨rb, 1, none⟩ = some y ∧ DFld (w2.setCells rb 0 [x, y]) w.heap.size (.agg #[x, y]) ∧ Kp w (w2.setCells rb 0 [x, y]) ∧ Turn (fun i => i = rb) w2 (w2.setCells rb 0 [x, y]) := by
  have ts := turn_setCellsD rb [x, y] 0 w2
  have hg := World.rangeAt_setCells_same w2 rb 0 [x, y] ht
  exact ⟨hg 0 _ rfl, hg 1 _ rfl, (hf.turn ts (fun i hi => by omega)).mono (by omega), k.turn ts (fun i hi => by omega), ts⟩
set_option maxRecDepth 100000 in
set_option maxHeartbeats 1000000 in
theorem drawGainTable_any (A : Option Addr) (n c : Nat) (w : World) (hb : BytesAt w A n) :
    Calls Try.prog 5 #[.slice A n c] w fun e w' => ∃ v r, e = .returned (.tuple #[v, .int .i64 r]) ∧ DFld w' w.heap.size v ∧ Kp w w' := by
  have t0 := there_newD w [.slice none 0 0, .slice none 0 0] 27
  simp only [List.length_cons, List.length_nil, Nat.zero_add, Nat.reduceAdd] at t0
  have k1 : Kp w (w.alloc (.cells #[.slice none 0 0, .slice none 0 0] 27)) := (Kp.refl w).alloc _
  have k2 : Kp _ ((w.alloc (.cells #[.slice none 0 0, .slice none 0 0] 27)).alloc (.cells #[.slice A n c, .int .i64 0, .int .u64 0] 49)) := (Kp.refl _).alloc _
  have cu := cur_new (c := c) (t := 49) (hb.kp k1)
  have ta := turn_thereD (Turn.of_kp (S := fun _ => False) k2) t0 (fun h => h)
  have hz : Hid (((w.alloc (.cells #[.slice none 0 0, .slice none 0 0] 27)).alloc (.cells #[.slice A n c, .int .i64 0, .int .u64 0] 49)).heap.size = w.heap.size + 2) := by show _ = _; simp
  have k0 := k1.trans k2
  rw [World.size_alloc] at cu
  have CF := Lib.hid (field_any (w.heap.size + 1) 0 _ cu (by omega))
  clear k1 k2 t0
  go_enter Try.func5, Try.ntmps5
  go_wp2_with fail
  generalize (w.alloc (.cells #[.slice none 0 0, .slice none 0 0] 27)).alloc (.cells #[.slice A n c, .int .i64 0, .int .u64 0] 49) = wa at *
  with_reducible refine Calls.mono CF.out ?_
  rintro e w1 ⟨v, rfl, hv, c1, u1⟩
  clear CF
  have CW := Lib.hid (worth_any (w.heap.size + 1) _ w1 c1 (by omega))
  go_wp2_with fail
  with_reducible refine Calls.mono CW.out ?_
  rintro e w2 ⟨r, rfl, c2, u2⟩
  clear CW
  rw [hz.out] at hv
  have hv2 := hv.turn u2 (fun i hi => by omega)
  have t2 := turn_thereD u2 (turn_thereD u1 ta (by omega)) (by omega)
  have kk : Kp w w2 := (k0.turn u1 (fun i hi => by omega)).turn u2 (fun i hi => by omega)
  obtain ⟨A9, n9, c9, B9, k9, d9, rfl, _⟩ := hv2.shape
  have HE := Lib.hid (drw_ret hv2 (by omega) t2 kk (Nat.le_refl _))
  go_wp2_with (first | (refine wpList_store_mid rfl 27 (.tmp 2) (.tmp 9) rfl w.heap.size 0 #[.slice A9 n9 c9, .slice B9 k9 d9] rfl rfl t2 (by kernel_rfl) (by simp [Value.oneCell']) ?_) | fail)
  obtain ⟨z0, z1, z2, z3, _⟩ := HE.out
  exact bodyPost_ret (v := .tuple #[.agg #[.slice A9 n9 c9, .slice B9 k9 d9], .int .i64 r]) (by simp [results, Try.results5, go_sem, z0, z1]) rfl ⟨_, _, rfl, z2, z3⟩
def MgPost (w : World) (e : Ending) (w' : World) : Prop := ∃ v r l a, e = .returned (.tuple #[v, .int .i64 r, l, .int .i64 a]) ∧ DFld w' w.heap.size v ∧ DInts w' w.heap.size l ∧ Kp w w'
def WrPost (w : World) (e : Ending) (w' : World) : Prop := ∃ v l a, e = .returned (.tuple #[v, l, .int .i64 a]) ∧ DFld w' w.heap.size v ∧ DInts w' w.heap.size l ∧ Kp w w'
set_option maxRecDepth 100000 in
set_option maxHeartbeats 1000000 in
theorem drawMarginalGain_any (A : Option Addr) (n c : Nat) (w : World) (hb : BytesAt w A n) :
    Calls Try.prog 14 #[.slice A n c] w fun e w' => MgPost w e w' := by
  have t0 := there_newD w [.slice none 0 0, .slice none 0 0] 27
  simp only [List.length_cons, List.length_nil, Nat.zero_add, Nat.reduceAdd] at t0
  have k1 : Kp w (w.alloc (.cells #[.slice none 0 0, .slice none 0 0] 27)) := (Kp.refl w).alloc _
  have k2 : Kp _ ((w.alloc (.cells #[.slice none 0 0, .slice none 0 0] 27)).alloc (.cells #[.slice A n c, .int .i64 0, .int .u64 0] 49)) := (Kp.refl _).alloc _
  have cu := cur_new (c := c) (t := 49) (hb.kp k1)
  have ta := turn_thereD (Turn.of_kp (S := fun _ => False) k2) t0 (fun h => h)
  have hz : Hid (((w.alloc (.cells #[.slice none 0 0, .slice none 0 0] 27)).alloc (.cells #[.slice A n c, .int .i64 0, .int .u64 0] 49)).heap.size = w.heap.size + 2) := by show _ = _; simp
  have k0 := k1.trans k2
  rw [World.size_alloc] at cu
  have CF := Lib.hid (field_any (w.heap.size + 1) 0 _ cu (by omega))
  clear k1 k2 t0
  go_enter Try.func14, Try.ntmps14
  go_wp2_with fail
  generalize (w.alloc (.cells #[.slice none 0 0, .slice none 0 0] 27)).alloc (.cells #[.slice A n c, .int .i64 0, .int .u64 0] 49) = wa at *
  with_reducible refine Calls.mono CF.out ?_
  rintro e w1 ⟨v, rfl, hv, c1, u1⟩
  clear CF
  rw [hz.out] at hv
  obtain ⟨A9, n9, c9, B9, k9, d9, rfl, hn9⟩ := hv.shape
  have kv : Kp w1 (w1.alloc (.cells #[.slice A9 n9 c9, .slice B9 k9 d9] 27)) := (Kp.refl w1).alloc _
  obtain ⟨d0, d1⟩ := box2 w1 (.slice A9 n9 c9) (.slice B9 k9 d9) 27
  have hvb : w.heap.size + 2 ≤ w1.heap.size := by have := u1.size; rw [hz.out] at this; exact this
  have tv := turn_thereD (Turn.of_kp (S := fun _ => False) kv) (turn_thereD u1 ta (by omega)) (fun h => h)
  have kk : Kp w (w1.alloc (.cells #[.slice A9 n9 c9, .slice B9 k9 d9] 27)) := (k0.turn u1 (fun i hi => by omega)).trans kv
  have hfv := hv.kp kv
  have cv := c1.kp kv
  clear hv c1 u1 ta k0 cu hz
  go_wp2_with fail
  generalize w1.alloc (.cells #[.slice A9 n9 c9, .slice B9 k9 d9] 27) = wr at *
  generalize w1.heap.size = bv at *
  have s0 := (Kp.refl wr).drew.get d0
  have s1 := (Kp.refl wr).drew.get d1
  have cd := cv.kp (Kp.refl wr).drew
  have CW := Lib.hid (worth_any (w.heap.size + 1) _ wr.drew cd (by omega))
  refine wp_region_held_drew (S := fun w' => w'.cell? ⟨bv, 0, none⟩ = some (.slice A9 n9 c9) ∧ w'.cell? ⟨bv, 1, none⟩ = some (.slice B9 k9 d9)) (by kernel_rfl) ⟨s0, s1⟩ (fun hHeld => ?_)
  refine wpAnyH_take (i := 0) (v := ?_) rfl (by kernel_rfl) (by kernel_rfl) (by kernel_rfl) (fun _ _ _ h => h) (Or.inl ⟨by rfl, ?_⟩) (by assumption) ?_
  rotate_left
  · intro w hSw; (try dsimp only at hSw); go_simp <;> with_reducible rfl
  (try simp only [Act.put, List.setIfInBounds_toArray, List.set_cons_zero, List.set_cons_succ])
  refine wpAnyH_take (i := 1) (v := ?_) rfl (by kernel_rfl) (by kernel_rfl) (by kernel_rfl) (fun _ _ _ h => h) (Or.inl ⟨by rfl, ?_⟩) (by assumption) ?_
  rotate_left
  · intro w hSw; (try dsimp only at hSw); go_simp <;> with_reducible rfl
  (try simp only [Act.put, List.setIfInBounds_toArray, List.set_cons_zero, List.set_cons_succ])
  refine wpAnyH_take (i := 3) (v := ?_) rfl (by kernel_rfl) (by kernel_rfl) (by kernel_rfl) (fun _ _ _ h => h) (Or.inl ⟨by rfl, ?_⟩) (by assumption) ?_
  rotate_left
  · intro w hSw; (try dsimp only at hSw); go_simp <;> with_reducible rfl
  (try simp only [Act.put, List.setIfInBounds_toArray, List.set_cons_zero, List.set_cons_succ])
  refine wpAnyH_take (i := 4) (v := ?_) rfl (by kernel_rfl) (by kernel_rfl) (by kernel_rfl) (fun _ _ _ h => h) (Or.inl ⟨by rfl, ?_⟩) (by assumption) ?_
  rotate_left
  · intro w hSw; (try dsimp only at hSw); go_simp <;> with_reducible rfl
  (try simp only [Act.put, List.setIfInBounds_toArray, List.set_cons_zero, List.set_cons_succ])
  refine wpAnyH_take (i := 6) (v := ?_) rfl (by kernel_rfl) (by kernel_rfl) (by kernel_rfl) (fun _ _ _ h => h) (Or.inl ⟨by rfl, ?_⟩) (by assumption) ?_
  rotate_left
  · intro w hSw; (try dsimp only at hSw); go_simp <;> with_reducible rfl
  (try simp only [Act.put, List.setIfInBounds_toArray, List.set_cons_zero, List.set_cons_succ])
  refine wpAnyH_take (i := 8) (v := ?_) rfl (by kernel_rfl) (by kernel_rfl) (by kernel_rfl) (fun _ _ _ h => h) (Or.inl ⟨by rfl, ?_⟩) (by assumption) ?_
  rotate_left
  · intro w hSw; (try dsimp only at hSw); go_simp <;> with_reducible rfl
  (try simp only [Act.put, List.setIfInBounds_toArray, List.set_cons_zero, List.set_cons_succ])
  refine wpAnyH_ready (rs := [2]) (by kernel_rfl) (by simp) ?_
  refine AllReadyH.cons rfl (fun K hK => ?_) AllReadyH.nil
  go_simp
  with_reducible refine Calls.mono CW.out ?_
  rintro e wa1 ⟨r, rfl, cA, uA⟩
  clear CW
  (try go_wp2_with fail)
  have hbv : bv ≠ w.heap.size + 1 := by omega
  have s0a := turn_cellD uA s0 hbv
  have s1a := turn_cellD uA s1 hbv
  refine hK.out _ _ ?_ (fun hHeld => ?_)
  · (try dsimp only); exact ⟨s0a, s1a⟩
  clear hK K
  (try simp only [Act.put, List.setIfInBounds_toArray, List.set_cons_zero, List.set_cons_succ])
  have CA := Lib.hid (any_any (w.heap.size + 1) _ A9 n9 c9 B9 k9 d9 wa1 cA (by omega) hn9)
  refine wpAnyH_ready (rs := [5]) (by kernel_rfl) (by simp) ?_
  refine AllReadyH.cons rfl (fun K hK => ?_) AllReadyH.nil
  go_simp
  with_reducible refine Calls.mono CA.out ?_
  rintro e wa2 ⟨l, rfl, hl, cB, uB⟩
  clear CA
  (try go_wp2_with fail)
  have s0b := turn_cellD uB s0a hbv
  have s1b := turn_cellD uB s1a hbv
  refine hK.out _ _ ?_ (fun hHeld => ?_)
  · (try dsimp only); exact ⟨s0b, s1b⟩
  clear hK K
  (try simp only [Act.put, List.setIfInBounds_toArray, List.set_cons_zero, List.set_cons_succ])
  have CP := Lib.hid (pick_any (w.heap.size + 1) _ 8 wa2 cB (by omega) (by omega))
  refine wpAnyH_ready (rs := [7]) (by kernel_rfl) (by simp) ?_
  refine AllReadyH.cons rfl (fun K hK => ?_) AllReadyH.nil
  go_simp
  with_reducible refine Calls.mono CP.out ?_
  rintro e wa3 ⟨x1, rfl, hx1, cC, uC⟩
  clear CP
  (try go_wp2_with fail)
  have s0c := turn_cellD uC s0b hbv
  have s1c := turn_cellD uC s1b hbv
  refine hK.out _ _ ?_ (fun hHeld => ?_)
  · (try dsimp only); exact ⟨s0c, s1c⟩
  clear hK K
  (try simp only [Act.put, List.setIfInBounds_toArray, List.set_cons_zero, List.set_cons_succ])
  have CP := Lib.hid (pick_any (w.heap.size + 1) _ 2 wa3 cC (by omega) (by omega))
  refine wpAnyH_ready (rs := [9]) (by kernel_rfl) (by simp) ?_
  refine AllReadyH.cons rfl (fun K hK => ?_) AllReadyH.nil
  go_simp
  with_reducible refine Calls.mono CP.out ?_
  rintro e wa4 ⟨x2, rfl, hx2, cD, uD⟩
  clear CP
  (try go_wp2_with fail)
  have s0d := turn_cellD uD s0c hbv
  have s1d := turn_cellD uD s1c hbv
  refine hK.out _ _ ?_ (fun hHeld => ?_)
  · (try dsimp only); exact ⟨s0d, s1d⟩
  clear hK K
  (try simp only [Act.put, List.setIfInBounds_toArray, List.set_cons_zero, List.set_cons_succ])
  refine wpAnyH_take (i := 10) (v := ?_) rfl (by kernel_rfl) (by kernel_rfl) (by kernel_rfl) (fun _ _ _ h => h) (Or.inl ⟨by rfl, ?_⟩) (by assumption) ?_
  rotate_left
  · intro w hSw; (try dsimp only at hSw); go_simp <;> with_reducible rfl
  (try simp only [Act.put, List.setIfInBounds_toArray, List.set_cons_zero, List.set_cons_succ])
  have hsz1 : w.heap.size + 2 ≤ wa1.heap.size := by have h1 := World.block_lt_of_cell? _ _ s0a; simp only at h1; omega
  have td := turn_thereD uD (turn_thereD uC (turn_thereD uB (turn_thereD uA (turn_thereD (Turn.of_kp (S := fun _ => False) (Kp.refl wr).drew) tv (fun h => h)) (by omega)) (by omega)) (by omega)) (by omega)
  have kd : Kp w wa4 := ((((kk.trans (Kp.refl wr).drew).turn uA (fun i hi => by omega)).turn uB (fun i hi => by omega)).turn uC (fun i hi => by omega)).turn uD (fun i hi => by omega)
  have hfd := ((((hfv.kp (Kp.refl wr).drew).turn uA (fun i hi => by omega)).turn uB (fun i hi => by omega)).turn uC (fun i hi => by omega)).turn uD (fun i hi => by omega)
  have hld := ((hl.mono hsz1).turn uC (fun i hi => by omega)).turn uD (fun i hi => by omega)
  have HE := Lib.hid (drw_ret hfd (by omega) td kd (Nat.le_refl _))
  have hxw : IntKind.i64.wrap (x1 - x2) = x1 - x2 := IntWalk.i64_in _ (by have := hx1.2.2 (by omega); have := hx2.2.2 (by omega); omega)
  have hi2 : ∀ i, w.heap.size + 2 ≤ i → ¬ i = w.heap.size := fun i hi => by omega
  have hsz3 : w.heap.size ≤ w.heap.size + 2 := by omega
  refine wpAnyH_ready (rs := [11]) (by kernel_rfl) (by simp) ?_
  refine AllReadyH.cons rfl (fun K hK => ?_) AllReadyH.nil
  rw [if_pos (by rfl)]
  refine wp_store_mid 27 (.tmp 2) (.tmp 13) rfl w.heap.size 0 #[.slice A9 n9 c9, .slice B9 k9 d9] rfl rfl td (by kernel_rfl) (by simp [Value.oneCell']) ?_
  refine hK.out _ _ ?_ (fun hHeld => ?_)
  · (try dsimp only); exact ⟨turn_cellD HE.out.2.2.2.2 s0d (by show bv ≠ w.heap.size; omega), turn_cellD HE.out.2.2.2.2 s1d (by show bv ≠ w.heap.size; omega)⟩
  clear hK K
  (try simp only [Act.put, List.setIfInBounds_toArray, List.set_cons_zero, List.set_cons_succ])
  refine wpAnyH_take (i := 12) (v := ?_) rfl (by kernel_rfl) (by kernel_rfl) (by kernel_rfl) (fun _ _ _ h => h) (Or.inl ⟨by rfl, ?_⟩) (by assumption) ?_
  rotate_left
  · intro w hSw; (try dsimp only at hSw); go_simp <;> with_reducible rfl
  (try simp only [Act.put, List.setIfInBounds_toArray, List.set_cons_zero, List.set_cons_succ])
  refine wpAnyH_take (i := 13) (v := ?_) rfl (by kernel_rfl) (by kernel_rfl) (by kernel_rfl) (fun _ _ _ h => h) (Or.inl ⟨by rfl, ?_⟩) (by assumption) ?_
  rotate_left
  · intro w hSw; (try dsimp only at hSw); go_simp <;> with_reducible rfl
  (try simp only [Act.put, List.setIfInBounds_toArray, List.set_cons_zero, List.set_cons_succ])
  refine wpAnyH_take (i := 14) (v := ?_) rfl (by kernel_rfl) (by kernel_rfl) (by kernel_rfl) (fun _ _ _ h => h) (Or.inl ⟨by rfl, ?_⟩) (by assumption) ?_
  rotate_left
  · intro w hSw; (try dsimp only at hSw); go_simp <;> with_reducible rfl
  (try simp only [Act.put, List.setIfInBounds_toArray, List.set_cons_zero, List.set_cons_succ])
  refine wpAnyH_done (by kernel_rfl) ?_ _
  go_wp2_with fail
  obtain ⟨z0, z1, z2, z3, z4⟩ := HE.out
  exact bodyPost_ret (v := .tuple #[.agg #[.slice A9 n9 c9, .slice B9 k9 d9], .int .i64 r, l, .int .i64 (x1 - x2)]) (by simp [results, Try.results14, go_sem, z0, z1, hxw]) rfl ⟨_, _, _, _, rfl, z2, (hld.turn z4 (fun i hi => hi2 i hi)).mono hsz3, z3⟩
set_option maxRecDepth 100000 in
set_option maxHeartbeats 1000000 in
theorem drawWorthReached_any (A : Option Addr) (n c : Nat) (w : World) (hb : BytesAt w A n) :
    Calls Try.prog 20 #[.slice A n c] w fun e w' => WrPost w e w' := by
  have t0 := there_newD w [.slice none 0 0, .slice none 0 0] 27
  simp only [List.length_cons, List.length_nil, Nat.zero_add, Nat.reduceAdd] at t0
  have k1 : Kp w (w.alloc (.cells #[.slice none 0 0, .slice none 0 0] 27)) := (Kp.refl w).alloc _
  have k2 : Kp _ ((w.alloc (.cells #[.slice none 0 0, .slice none 0 0] 27)).alloc (.cells #[.slice A n c, .int .i64 0, .int .u64 0] 49)) := (Kp.refl _).alloc _
  have cu := cur_new (c := c) (t := 49) (hb.kp k1)
  have ta := turn_thereD (Turn.of_kp (S := fun _ => False) k2) t0 (fun h => h)
  have hz : Hid (((w.alloc (.cells #[.slice none 0 0, .slice none 0 0] 27)).alloc (.cells #[.slice A n c, .int .i64 0, .int .u64 0] 49)).heap.size = w.heap.size + 2) := by show _ = _; simp
  have k0 := k1.trans k2
  rw [World.size_alloc] at cu
  have CF := Lib.hid (field_any (w.heap.size + 1) 0 _ cu (by omega))
  clear k1 k2 t0
  go_enter Try.func20, Try.ntmps20
  go_wp2_with fail
  generalize (w.alloc (.cells #[.slice none 0 0, .slice none 0 0] 27)).alloc (.cells #[.slice A n c, .int .i64 0, .int .u64 0] 49) = wa at *
  with_reducible refine Calls.mono CF.out ?_
  rintro e w1 ⟨v, rfl, hv, c1, u1⟩
  clear CF
  rw [hz.out] at hv
  obtain ⟨A9, n9, c9, B9, k9, d9, rfl, hn9⟩ := hv.shape
  have kv : Kp w1 (w1.alloc (.cells #[.slice A9 n9 c9, .slice B9 k9 d9] 27)) := (Kp.refl w1).alloc _
  obtain ⟨d0, d1⟩ := box2 w1 (.slice A9 n9 c9) (.slice B9 k9 d9) 27
  have hvb : w.heap.size + 2 ≤ w1.heap.size := by have := u1.size; rw [hz.out] at this; exact this
  have tv := turn_thereD (Turn.of_kp (S := fun _ => False) kv) (turn_thereD u1 ta (by omega)) (fun h => h)
  have kk : Kp w (w1.alloc (.cells #[.slice A9 n9 c9, .slice B9 k9 d9] 27)) := (k0.turn u1 (fun i hi => by omega)).trans kv
  have hfv := hv.kp kv
  have cv := c1.kp kv
  clear hv c1 u1 ta k0 cu hz
  go_wp2_with fail
  generalize w1.alloc (.cells #[.slice A9 n9 c9, .slice B9 k9 d9] 27) = wr at *
  generalize w1.heap.size = bv at *
  have s0 := (Kp.refl wr).drew.get d0
  have s1 := (Kp.refl wr).drew.get d1
  have cd := cv.kp (Kp.refl wr).drew
  have CA := Lib.hid (sites_any (w.heap.size + 1) _ A9 n9 c9 B9 k9 d9 wr.drew cd (by omega) hn9)
  refine wp_region_held_drew (S := fun w' => w'.cell? ⟨bv, 0, none⟩ = some (.slice A9 n9 c9) ∧ w'.cell? ⟨bv, 1, none⟩ = some (.slice B9 k9 d9)) (by kernel_rfl) ⟨s0, s1⟩ (fun hHeld => ?_)
  refine wpAnyH_take (i := 0) (v := ?_) rfl (by kernel_rfl) (by kernel_rfl) (by kernel_rfl) (fun _ _ _ h => h) (Or.inl ⟨by rfl, ?_⟩) (by assumption) ?_
  rotate_left
  · intro w hSw; (try dsimp only at hSw); go_simp <;> with_reducible rfl
  (try simp only [Act.put, List.setIfInBounds_toArray, List.set_cons_zero, List.set_cons_succ])
  refine wpAnyH_take (i := 1) (v := ?_) rfl (by kernel_rfl) (by kernel_rfl) (by kernel_rfl) (fun _ _ _ h => h) (Or.inl ⟨by rfl, ?_⟩) (by assumption) ?_
  rotate_left
  · intro w hSw; (try dsimp only at hSw); go_simp <;> with_reducible rfl
  (try simp only [Act.put, List.setIfInBounds_toArray, List.set_cons_zero, List.set_cons_succ])
  refine wpAnyH_take (i := 2) (v := ?_) rfl (by kernel_rfl) (by kernel_rfl) (by kernel_rfl) (fun _ _ _ h => h) (Or.inl ⟨by rfl, ?_⟩) (by assumption) ?_
  rotate_left
  · intro w hSw; (try dsimp only at hSw); go_simp <;> with_reducible rfl
  (try simp only [Act.put, List.setIfInBounds_toArray, List.set_cons_zero, List.set_cons_succ])
  refine wpAnyH_take (i := 4) (v := ?_) rfl (by kernel_rfl) (by kernel_rfl) (by kernel_rfl) (fun _ _ _ h => h) (Or.inl ⟨by rfl, ?_⟩) (by assumption) ?_
  rotate_left
  · intro w hSw; (try dsimp only at hSw); go_simp <;> with_reducible rfl
  (try simp only [Act.put, List.setIfInBounds_toArray, List.set_cons_zero, List.set_cons_succ])
  have hbv : bv ≠ w.heap.size + 1 := by omega
  have hwr : w.heap.size + 2 ≤ wr.heap.size := by have h1 := World.block_lt_of_cell? _ _ d0; simp only at h1; omega
  refine wpAnyH_ready (rs := [3, 5]) (by kernel_rfl) (by simp) ?_
  refine AllReadyH.cons rfl (fun K hK => ?_) (AllReadyH.cons rfl (fun K hK => ?_) AllReadyH.nil)
  · go_simp
    with_reducible refine Calls.mono CA.out ?_
    rintro e wa1 ⟨l, rfl, hl, cA, uA⟩
    clear CA
    (try go_wp2_with fail)
    have s0a := turn_cellD uA s0 hbv
    have s1a := turn_cellD uA s1 hbv
    refine hK.out _ _ ?_ (fun hHeld => ?_)
    · (try dsimp only); exact ⟨s0a, s1a⟩
    clear hK K
    (try simp only [Act.put, List.setIfInBounds_toArray, List.set_cons_zero, List.set_cons_succ])
    have CC := amongLit_any (w.heap.size + 1) _ [0, 1, 5, 10, 30, 100, 1000, 1001, -1] wa1 cA (by omega) (by decide) (by decide)
    simp only [List.map_cons, List.map_nil, List.length_cons, List.length_nil, Nat.zero_add, Nat.reduceAdd] at CC
    replace CC := Lib.hid CC
    refine wpAnyH_ready (rs := [5]) (by kernel_rfl) (by simp) ?_
    refine AllReadyH.cons rfl (fun K hK => ?_) AllReadyH.nil
    go_simp
    refine hK.out _ _ ?_ (fun hHeld => ?_)
    · (try dsimp only); exact ⟨((Kp.refl wa1).alloc _).get s0a, ((Kp.refl wa1).alloc _).get s1a⟩
    clear hK K
    (try simp only [Act.put, List.setIfInBounds_toArray, List.set_cons_zero, List.set_cons_succ])
    refine wpAnyH_ready (rs := [6]) (by kernel_rfl) (by simp) ?_
    refine AllReadyH.cons rfl (fun K hK => ?_) AllReadyH.nil
    go_simp
    with_reducible refine Calls.mono CC.out ?_
    rintro e wa4 ⟨x1, rfl, hx1, cD, uD⟩
    clear CC
    (try go_wp2_with fail)
    have s0d := turn_cellD uD s0a hbv
    have s1d := turn_cellD uD s1a hbv
    refine hK.out _ _ ?_ (fun hHeld => ?_)
    · (try dsimp only); exact ⟨s0d, s1d⟩
    clear hK K
    (try simp only [Act.put, List.setIfInBounds_toArray, List.set_cons_zero, List.set_cons_succ])
    have hsz1 : w.heap.size + 2 ≤ wr.drew.heap.size := hwr
    have td := turn_thereD uD (turn_thereD uA (turn_thereD (Turn.of_kp (S := fun _ => False) (Kp.refl wr).drew) tv (fun h => h)) (by omega)) (by omega)
    have kd : Kp w wa4 := ((kk.trans (Kp.refl wr).drew).turn uA (fun i hi => by omega)).turn uD (fun i hi => by omega)
    have hfd := ((hfv.kp (Kp.refl wr).drew).turn uA (fun i hi => by omega)).turn uD (fun i hi => by omega)
    have hld := (hl.mono hsz1).turn uD (fun i hi => by omega)
    have HE := Lib.hid (drw_ret hfd (by omega) td kd (Nat.le_refl _))
    have hi2 : ∀ i, w.heap.size + 2 ≤ i → ¬ i = w.heap.size := fun i hi => by omega
    have hsz3 : w.heap.size ≤ w.heap.size + 2 := by omega
    refine wpAnyH_ready (rs := [7]) (by kernel_rfl) (by simp) ?_
    refine AllReadyH.cons rfl (fun K hK => ?_) AllReadyH.nil
    rw [if_pos (by rfl)]
    refine wp_store_mid 27 (.tmp 2) (.tmp 12) rfl w.heap.size 0 #[.slice A9 n9 c9, .slice B9 k9 d9] rfl rfl td (by kernel_rfl) (by simp [Value.oneCell']) ?_
    refine hK.out _ _ ?_ (fun hHeld => ?_)
    · (try dsimp only); exact ⟨turn_cellD HE.out.2.2.2.2 s0d (by show bv ≠ w.heap.size; omega), turn_cellD HE.out.2.2.2.2 s1d (by show bv ≠ w.heap.size; omega)⟩
    clear hK K
    (try simp only [Act.put, List.setIfInBounds_toArray, List.set_cons_zero, List.set_cons_succ])
    refine wpAnyH_take (i := 8) (v := ?_) rfl (by kernel_rfl) (by kernel_rfl) (by kernel_rfl) (fun _ _ _ h => h) (Or.inl ⟨by rfl, ?_⟩) (by assumption) ?_
    rotate_left
    · intro w hSw; (try dsimp only at hSw); go_simp <;> with_reducible rfl
    (try simp only [Act.put, List.setIfInBounds_toArray, List.set_cons_zero, List.set_cons_succ])
    refine wpAnyH_take (i := 9) (v := ?_) rfl (by kernel_rfl) (by kernel_rfl) (by kernel_rfl) (fun _ _ _ h => h) (Or.inl ⟨by rfl, ?_⟩) (by assumption) ?_
    rotate_left
    · intro w hSw; (try dsimp only at hSw); go_simp <;> with_reducible rfl
    (try simp only [Act.put, List.setIfInBounds_toArray, List.set_cons_zero, List.set_cons_succ])
    refine wpAnyH_done (by kernel_rfl) ?_ _
    go_wp2_with fail
    obtain ⟨z0, z1, z2, z3, z4⟩ := HE.out
    exact bodyPost_ret (v := .tuple #[.agg #[.slice A9 n9 c9, .slice B9 k9 d9], l, .int .i64 x1]) (by simp [results, Try.results20, go_sem, z0, z1]) rfl ⟨_, _, _, rfl, z2, (hld.turn z4 (fun i hi => hi2 i hi)).mono hsz3, z3⟩
  · have hlit := lit_intsD wr [0, 1, 5, 10, 30, 100, 1000, 1001, -1] (by decide)
    simp only [List.map_cons, List.map_nil] at hlit
    have hka : Kp wr.drew (wr.drew.alloc (.cells #[.int .i64 0, .int .i64 1, .int .i64 5, .int .i64 10, .int .i64 30, .int .i64 100, .int .i64 1000, .int .i64 1001, .int .i64 (-1)] 3)) := (Kp.refl wr.drew).alloc _
    have hl0 := hlit.kp (Kp.refl _).drew
    have e0 := hka.get s0
    have e1 := hka.get s1
    have CB := Lib.hid (sites_any (w.heap.size + 1) _ A9 n9 c9 B9 k9 d9 _ (cd.kp hka) (by omega) hn9)
    have hsw : w.heap.size + 2 ≤ (wr.drew.alloc (.cells #[.int .i64 0, .int .i64 1, .int .i64 5, .int .i64 10, .int .i64 30, .int .i64 100, .int .i64 1000, .int .i64 1001, .int .i64 (-1)] 3)).heap.size := Nat.le_trans hwr hka.le
    have kka := (kk.trans (Kp.refl wr).drew).trans hka
    have tva := turn_thereD (Turn.of_kp (S := fun _ => False) ((Kp.refl wr).drew.trans hka)) tv (fun h => h)
    have hfa := hfv.kp ((Kp.refl wr).drew.trans hka)
    go_simp
    refine hK.out _ _ ?_ (fun hHeld => ?_)
    · (try dsimp only); exact ⟨e0, e1⟩
    clear hK K
    (try simp only [Act.put, List.setIfInBounds_toArray, List.set_cons_zero, List.set_cons_succ])
    refine wpAnyH_ready (rs := [3]) (by kernel_rfl) (by simp) ?_
    refine AllReadyH.cons rfl (fun K hK => ?_) AllReadyH.nil
    go_simp
    change Calls _ _ _ (wr.drew.alloc (.cells #[.int .i64 0, .int .i64 1, .int .i64 5, .int .i64 10, .int .i64 30, .int .i64 100, .int .i64 1000, .int .i64 1001, .int .i64 (-1)] 3)) _
    with_reducible refine Calls.mono CB.out ?_
    rintro e wa1 ⟨l, rfl, hl, cA, uA⟩
    clear CB CA
    (try go_wp2_with fail)
    have s0a := turn_cellD uA e0 hbv
    have s1a := turn_cellD uA e1 hbv
    refine hK.out _ _ ?_ (fun hHeld => ?_)
    · (try dsimp only); exact ⟨s0a, s1a⟩
    clear hK K
    (try simp only [Act.put, List.setIfInBounds_toArray, List.set_cons_zero, List.set_cons_succ])
    have hl1 : IntsAt wa1 (some ⟨wr.heap.size, 0, none⟩) [0, 1, 5, 10, 30, 100, 1000, 1001, -1] := ints_turnD (show IntsAt (wr.drew.alloc (.cells #[.int .i64 0, .int .i64 1, .int .i64 5, .int .i64 10, .int .i64 30, .int .i64 100, .int .i64 1000, .int .i64 1001, .int .i64 (-1)] 3)) (some ⟨wr.heap.size, 0, none⟩) _ from hl0) uA (fun ad e => by cases e; show ¬ wr.heap.size = _; omega)
    have CC := Lib.hid (among_any (w.heap.size + 1) _ (some ⟨wr.heap.size, 0, none⟩) [0, 1, 5, 10, 30, 100, 1000, 1001, -1] 9 9 wa1 cA (by omega) hl1 rfl (by omega) (by omega) (fun ad e => by cases e; show wr.heap.size ≠ _; omega))
    refine wpAnyH_ready (rs := [6]) (by kernel_rfl) (by simp) ?_
    refine AllReadyH.cons rfl (fun K hK => ?_) AllReadyH.nil
    go_simp
    with_reducible refine Calls.mono CC.out ?_
    rintro e wa4 ⟨x1, rfl, hx1, cD, uD⟩
    clear CC
    (try go_wp2_with fail)
    have s0d := turn_cellD uD s0a hbv
    have s1d := turn_cellD uD s1a hbv
    refine hK.out _ _ ?_ (fun hHeld => ?_)
    · (try dsimp only); exact ⟨s0d, s1d⟩
    clear hK K
    (try simp only [Act.put, List.setIfInBounds_toArray, List.set_cons_zero, List.set_cons_succ])
    have td := turn_thereD uD (turn_thereD uA tva (by omega)) (by omega)
    have kd : Kp w wa4 := (kka.turn uA (fun i hi => by omega)).turn uD (fun i hi => by omega)
    have hfd := (hfa.turn uA (fun i hi => by omega)).turn uD (fun i hi => by omega)
    have hld := (hl.mono hsw).turn uD (fun i hi => by omega)
    have HE := Lib.hid (drw_ret hfd (by omega) td kd (Nat.le_refl _))
    have hi2 : ∀ i, w.heap.size + 2 ≤ i → ¬ i = w.heap.size := fun i hi => by omega
    have hsz3 : w.heap.size ≤ w.heap.size + 2 := by omega
    refine wpAnyH_ready (rs := [7]) (by kernel_rfl) (by simp) ?_
    refine AllReadyH.cons rfl (fun K hK => ?_) AllReadyH.nil
    rw [if_pos (by rfl)]
    refine wp_store_mid 27 (.tmp 2) (.tmp 12) rfl w.heap.size 0 #[.slice A9 n9 c9, .slice B9 k9 d9] rfl rfl td (by kernel_rfl) (by simp [Value.oneCell']) ?_
    refine hK.out _ _ ?_ (fun hHeld => ?_)
    · (try dsimp only); exact ⟨turn_cellD HE.out.2.2.2.2 s0d (by show bv ≠ w.heap.size; omega), turn_cellD HE.out.2.2.2.2 s1d (by show bv ≠ w.heap.size; omega)⟩
    clear hK K
    (try simp only [Act.put, List.setIfInBounds_toArray, List.set_cons_zero, List.set_cons_succ])
    refine wpAnyH_take (i := 8) (v := ?_) rfl (by kernel_rfl) (by kernel_rfl) (by kernel_rfl) (fun _ _ _ h => h) (Or.inl ⟨by rfl, ?_⟩) (by assumption) ?_
    rotate_left
    · intro w hSw; (try dsimp only at hSw); go_simp <;> with_reducible rfl
    (try simp only [Act.put, List.setIfInBounds_toArray, List.set_cons_zero, List.set_cons_succ])
    refine wpAnyH_take (i := 9) (v := ?_) rfl (by kernel_rfl) (by kernel_rfl) (by kernel_rfl) (fun _ _ _ h => h) (Or.inl ⟨by rfl, ?_⟩) (by assumption) ?_
    rotate_left
    · intro w hSw; (try dsimp only at hSw); go_simp <;> with_reducible rfl
    (try simp only [Act.put, List.setIfInBounds_toArray, List.set_cons_zero, List.set_cons_succ])
    refine wpAnyH_done (by kernel_rfl) ?_ _
    go_wp2_with fail
    obtain ⟨z0, z1, z2, z3, z4⟩ := HE.out
    exact bodyPost_ret (v := .tuple #[.agg #[.slice A9 n9 c9, .slice B9 k9 d9], l, .int .i64 x1]) (by simp [results, Try.results20, go_sem, z0, z1]) rfl ⟨_, _, _, rfl, z2, (hld.turn z4 (fun i hi => hi2 i hi)).mono hsz3, z3⟩
end Go.Proofs.Ytinpcfhgcilmoaa

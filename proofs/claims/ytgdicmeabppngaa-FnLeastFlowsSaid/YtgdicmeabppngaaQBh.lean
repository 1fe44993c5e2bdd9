/- The drawing of arguments for the law on least flows. No condition. -/
import Derived.Test.YtgdicmeabppngaaQBg
namespace Go.Proofs.Ytgdicmeabppngaa
open Go.RowKit Go.Sort

/-- A field, rooms, needs and a set have been drawn. -/
def FsPost (w : World) (e : Ending) (w' : World) : Prop := ∃ v rv nv sv, e = .returned (.tuple #[v, rv, nv, sv]) ∧ DFld w' w.heap.size v ∧ DInts w' w.heap.size rv ∧ DInts w' w.heap.size nv ∧ DInts w' w.heap.size sv ∧ Kp w w'
theorem DInts.cutK {w : World} {b : Nat} {v : Value} (h : DInts w b v) : ∃ A n c, v = .slice A n c := by
  obtain ⟨A, c, xs, e, _⟩ := h.ints
  exact ⟨A, _, c, e⟩
set_option maxRecDepth 100000 in
set_option maxHeartbeats 2000000 in
theorem drawLeastFlow_any (A : Option Addr) (n c : Nat) (w : World) (hb : BytesAt w A n) :
    Calls Try.prog 5 #[.slice A n c] w (FsPost w) := by
  have t0 := there_newD w [.slice none 0 0, .slice none 0 0] 27
  simp only [List.length_cons, List.length_nil, Nat.zero_add, Nat.reduceAdd] at t0
  have k1 : Kp w (w.alloc (.cells #[.slice none 0 0, .slice none 0 0] 27)) := (Kp.refl w).alloc _
  have k2 : Kp _ ((w.alloc (.cells #[.slice none 0 0, .slice none 0 0] 27)).alloc (.cells #[.slice A n c, .int .i64 0, .int .u64 0] 49)) := (Kp.refl _).alloc _
  have cu := cur_new (c := c) (t := 49) (hb.kp k1)
  have ta := turn_thereD (Turn.of_kp (S := fun _ => False) k2) t0 (fun h => h)
  have hz : Hid (((w.alloc (.cells #[.slice none 0 0, .slice none 0 0] 27)).alloc (.cells #[.slice A n c, .int .i64 0, .int .u64 0] 49)).heap.size = w.heap.size + 2) := by show _ = _; simp
  have k0 := k1.trans k2
  rw [World.size_alloc] at cu
  have CF := Lib.hid (rooms7_any (w.heap.size + 1) 0 4 _ cu (by omega) (by omega))
  clear k1 k2 t0
  go_enter Try.func5, Try.ntmps5
  go_wp2_with fail
  generalize (w.alloc (.cells #[.slice none 0 0, .slice none 0 0] 27)).alloc (.cells #[.slice A n c, .int .i64 0, .int .u64 0] 49) = wa at *
  with_reducible refine Calls.mono CF.out ?_
  rintro e w1 ⟨v, rv, nv, rfl, hv, hrv, hnv, c1, u1⟩
  clear CF
  rw [hz.out] at hv hrv hnv
  obtain ⟨A9, n9, c9, B9, k9, d9, rfl, hn9, hk9⟩ := hv.shape3
  obtain ⟨Ar, nr, cr, rfl⟩ := hrv.cutK
  obtain ⟨An, nn, cn, rfl⟩ := hnv.cutK
  have kv : Kp w1 (w1.alloc (.cells #[.slice A9 n9 c9, .slice B9 k9 d9] 27)) := (Kp.refl w1).alloc _
  obtain ⟨d0, d1⟩ := box2 w1 (.slice A9 n9 c9) (.slice B9 k9 d9) 27
  have hvb : w.heap.size + 2 ≤ w1.heap.size := by have := u1.size; rw [hz.out] at this; exact this
  have tv := turn_thereD (Turn.of_kp (S := fun _ => False) kv) (turn_thereD u1 ta (by omega)) (fun h => h)
  have kk : Kp w (w1.alloc (.cells #[.slice A9 n9 c9, .slice B9 k9 d9] 27)) := (k0.turn u1 (fun i hi => by omega)).trans kv
  have hfv := hv.kp kv
  replace hrv := hrv.kp kv
  replace hnv := hnv.kp kv
  have cv := c1.kp kv
  have HWB : Hid ((w1.alloc (.cells #[.slice A9 n9 c9, .slice B9 k9 d9] 27)).heap.size = w1.heap.size + 1) := by show _ = _; simp
  clear hv c1 u1 ta k0 cu hz
  go_wp2_with fail
  generalize w1.alloc (.cells #[.slice A9 n9 c9, .slice B9 k9 d9] 27) = wq at *
  generalize w1.heap.size = bv at *
  have hbv : bv ≠ w.heap.size + 1 := by omega
  have hqs : w.heap.size + 2 ≤ wq.heap.size := by have := HWB.out; omega
  have hpi : ∀ i, w.heap.size + 2 ≤ i → ¬ i = w.heap.size + 1 := fun i hi => by omega
  have hqi : ∀ i, w.heap.size ≤ i → ¬ i < w.heap.size := fun i hi => by omega
  have e0 := (Kp.refl wq).drew.get d0
  have e1 := (Kp.refl wq).drew.get d1
  have kd := (Kp.refl wq).drew
  have CO := Lib.hid (open7_any (w.heap.size + 1) _ (w.heap.size + 2) _ Ar nr cr An nn cn wq.drew (cv.kp kd) (by omega) (by omega) (hfv.kp kd) (hrv.kp kd) (hnv.kp kd))
  refine wp_region_held_drew (S := fun w' => w'.cell? ⟨bv, 0, none⟩ = some (.slice A9 n9 c9) ∧ w'.cell? ⟨bv, 1, none⟩ = some (.slice B9 k9 d9)) (by kernel_rfl) ⟨e0, e1⟩ (fun hHeld => ?_)
  refine wpAnyH_take (i := 0) (v := ?_) rfl (by kernel_rfl) (by kernel_rfl) (by kernel_rfl) (fun _ _ _ h => h) (Or.inl ⟨by rfl, ?_⟩) (by assumption) ?_
  rotate_left
  · intro w hSw; (try dsimp only at hSw); go_simp <;> with_reducible rfl
  (try simp only [Act.put, List.setIfInBounds_toArray, List.set_cons_zero, List.set_cons_succ])
  refine wpAnyH_take (i := 1) (v := ?_) rfl (by kernel_rfl) (by kernel_rfl) (by kernel_rfl) (fun _ _ _ h => h) (Or.inl ⟨by rfl, ?_⟩) (by assumption) ?_
  rotate_left
  · intro w hSw; (try dsimp only at hSw); go_simp <;> with_reducible rfl
  (try simp only [Act.put, List.setIfInBounds_toArray, List.set_cons_zero, List.set_cons_succ])
  refine wpAnyH_take (i := 2) (v := ?_) rfl (by kernel_rfl) (by kernel_rfl) (by kernel_rfl) (fun _ _ _ h => h) (Or.inl ⟨by rfl, ?_⟩) (by assumption) ?_
  rotate_left
  · intro w hSw; (try dsimp only at hSw); go_simp <;> with_reducible rfl
  (try simp only [Act.put, List.setIfInBounds_toArray, List.set_cons_zero, List.set_cons_succ])
  refine wpAnyH_take (i := 3) (v := ?_) rfl (by kernel_rfl) (by kernel_rfl) (by kernel_rfl) (fun _ _ _ h => h) (Or.inl ⟨by rfl, ?_⟩) (by assumption) ?_
  rotate_left
  · intro w hSw; (try dsimp only at hSw); go_simp <;> with_reducible rfl
  (try simp only [Act.put, List.setIfInBounds_toArray, List.set_cons_zero, List.set_cons_succ])
  refine wpAnyH_take (i := 4) (v := ?_) rfl (by kernel_rfl) (by kernel_rfl) (by kernel_rfl) (fun _ _ _ h => h) (Or.inl ⟨by rfl, ?_⟩) (by assumption) ?_
  rotate_left
  · intro w hSw; (try dsimp only at hSw); go_simp <;> with_reducible rfl
  (try simp only [Act.put, List.setIfInBounds_toArray, List.set_cons_zero, List.set_cons_succ])
  refine wpAnyH_take (i := 5) (v := ?_) rfl (by kernel_rfl) (by kernel_rfl) (by kernel_rfl) (fun _ _ _ h => h) (Or.inl ⟨by rfl, ?_⟩) (by assumption) ?_
  rotate_left
  · intro w hSw; (try dsimp only at hSw); go_simp <;> with_reducible rfl
  (try simp only [Act.put, List.setIfInBounds_toArray, List.set_cons_zero, List.set_cons_succ])
  refine wpAnyH_take (i := 6) (v := ?_) rfl (by kernel_rfl) (by kernel_rfl) (by kernel_rfl) (fun _ _ _ h => h) (Or.inl ⟨by rfl, ?_⟩) (by assumption) ?_
  rotate_left
  · intro w hSw; (try dsimp only at hSw); go_simp <;> with_reducible rfl
  (try simp only [Act.put, List.setIfInBounds_toArray, List.set_cons_zero, List.set_cons_succ])
  refine wpAnyH_ready (rs := [7]) (by kernel_rfl) (by simp) ?_
  refine AllReadyH.cons rfl (fun K hK => ?_) AllReadyH.nil
  go_simp
  with_reducible refine Calls.mono CO.out ?_
  rintro e w2 ⟨sv, rfl, hsv, c2, u2⟩
  clear CO
  (try go_wp2_with fail)
  have s0 := turn_cellD u2 e0 hbv
  have s1 := turn_cellD u2 e1 hbv
  refine hK.out _ _ ?_ (fun hHeld => ?_)
  · (try dsimp only); exact ⟨s0, s1⟩
  clear hK K
  (try simp only [Act.put, List.setIfInBounds_toArray, List.set_cons_zero, List.set_cons_succ])
  replace hsv := hsv.mono (show w.heap.size + 2 ≤ wq.drew.heap.size from hqs)
  obtain ⟨As, ns, cs, rfl⟩ := hsv.cutK
  have hfv2 := (hfv.kp kd).turn u2 hpi
  have hrv2 := (hrv.kp kd).turn u2 hpi
  have hnv2 := (hnv.kp kd).turn u2 hpi
  have tv2 := turn_thereD u2 (turn_thereD (Turn.of_kp (S := fun _ => False) kd) tv (fun h => h)) (by omega)
  have kk2 : Kp w w2 := (kk.trans kd).turn u2 (fun i hi => by omega)
  have HE := Lib.hid (drw_ret hfv2 (by omega) tv2 kk2 (Nat.le_refl _))
  have hi2 : ∀ i, w.heap.size + 2 ≤ i → ¬ i = w.heap.size := fun i hi => by omega
  have hsz3 : w.heap.size ≤ w.heap.size + 2 := by omega
  refine wpAnyH_ready (rs := [8]) (by kernel_rfl) (by simp) ?_
  refine AllReadyH.cons rfl (fun K hK => ?_) AllReadyH.nil
  rw [if_pos (by rfl)]
  refine wp_store_mid 27 (.tmp 2) (.tmp 19) rfl w.heap.size 0 #[.slice A9 n9 c9, .slice B9 k9 d9] rfl rfl tv2 (by kernel_rfl) (by simp [Value.oneCell']) ?_
  refine hK.out _ _ ?_ (fun hHeld => ?_)
  · (try dsimp only); exact ⟨turn_cellD HE.out.2.2.2.2 s0 (by show bv ≠ w.heap.size; omega), turn_cellD HE.out.2.2.2.2 s1 (by show bv ≠ w.heap.size; omega)⟩
  clear hK K
  (try simp only [Act.put, List.setIfInBounds_toArray, List.set_cons_zero, List.set_cons_succ])
  refine wpAnyH_take (i := 9) (v := ?_) rfl (by kernel_rfl) (by kernel_rfl) (by kernel_rfl) (fun _ _ _ h => h) (Or.inl ⟨by rfl, ?_⟩) (by assumption) ?_
  rotate_left
  · intro w hSw; (try dsimp only at hSw); go_simp <;> with_reducible rfl
  (try simp only [Act.put, List.setIfInBounds_toArray, List.set_cons_zero, List.set_cons_succ])
  refine wpAnyH_take (i := 10) (v := ?_) rfl (by kernel_rfl) (by kernel_rfl) (by kernel_rfl) (fun _ _ _ h => h) (Or.inl ⟨by rfl, ?_⟩) (by assumption) ?_
  rotate_left
  · intro w hSw; (try dsimp only at hSw); go_simp <;> with_reducible rfl
  (try simp only [Act.put, List.setIfInBounds_toArray, List.set_cons_zero, List.set_cons_succ])
  refine wpAnyH_take (i := 11) (v := ?_) rfl (by kernel_rfl) (by kernel_rfl) (by kernel_rfl) (fun _ _ _ h => h) (Or.inl ⟨by rfl, ?_⟩) (by assumption) ?_
  rotate_left
  · intro w hSw; (try dsimp only at hSw); go_simp <;> with_reducible rfl
  (try simp only [Act.put, List.setIfInBounds_toArray, List.set_cons_zero, List.set_cons_succ])
  refine wpAnyH_done (by kernel_rfl) ?_ _
  go_wp2_with fail
  obtain ⟨z0, z1, z2, z3, z4⟩ := HE.out
  exact bodyPost_ret (v := .tuple #[.agg #[.slice A9 n9 c9, .slice B9 k9 d9], .slice Ar nr cr, .slice An nn cn, .slice As ns cs]) (by simp [results, Try.results5, go_sem, z0, z1]) rfl ⟨_, _, _, _, rfl, z2, (hrv2.turn z4 hi2).mono hsz3, (hnv2.turn z4 hi2).mono hsz3, (hsv.turn z4 hi2).mono hsz3, z3⟩
set_option maxRecDepth 100000 in
set_option maxHeartbeats 2000000 in
theorem drawWholeFlow_any (A : Option Addr) (n c : Nat) (w : World) (hb : BytesAt w A n) :
    Calls Try.prog 10 #[.slice A n c] w (FsPost w) := by
  have t0 := there_newD w [.slice none 0 0, .slice none 0 0] 27
  simp only [List.length_cons, List.length_nil, Nat.zero_add, Nat.reduceAdd] at t0
  have k1 : Kp w (w.alloc (.cells #[.slice none 0 0, .slice none 0 0] 27)) := (Kp.refl w).alloc _
  have k2 : Kp _ ((w.alloc (.cells #[.slice none 0 0, .slice none 0 0] 27)).alloc (.cells #[.slice A n c, .int .i64 0, .int .u64 0] 49)) := (Kp.refl _).alloc _
  have cu := cur_new (c := c) (t := 49) (hb.kp k1)
  have ta := turn_thereD (Turn.of_kp (S := fun _ => False) k2) t0 (fun h => h)
  have hz : Hid (((w.alloc (.cells #[.slice none 0 0, .slice none 0 0] 27)).alloc (.cells #[.slice A n c, .int .i64 0, .int .u64 0] 49)).heap.size = w.heap.size + 2) := by show _ = _; simp
  have k0 := k1.trans k2
  rw [World.size_alloc] at cu
  have CF := Lib.hid (rooms7_any (w.heap.size + 1) 0 5 _ cu (by omega) (by omega))
  clear k1 k2 t0
  go_enter Try.func10, Try.ntmps10
  go_wp2_with fail
  generalize (w.alloc (.cells #[.slice none 0 0, .slice none 0 0] 27)).alloc (.cells #[.slice A n c, .int .i64 0, .int .u64 0] 49) = wa at *
  with_reducible refine Calls.mono CF.out ?_
  rintro e w1 ⟨v, rv, nv, rfl, hv, hrv, hnv, c1, u1⟩
  clear CF
  rw [hz.out] at hv hrv hnv
  obtain ⟨A9, n9, c9, B9, k9, d9, rfl, hn9, hk9⟩ := hv.shape3
  obtain ⟨Ar, nr, cr, rfl⟩ := hrv.cutK
  obtain ⟨An, nn, cn, rfl⟩ := hnv.cutK
  have kv : Kp w1 (w1.alloc (.cells #[.slice A9 n9 c9, .slice B9 k9 d9] 27)) := (Kp.refl w1).alloc _
  obtain ⟨d0, d1⟩ := box2 w1 (.slice A9 n9 c9) (.slice B9 k9 d9) 27
  have hvb : w.heap.size + 2 ≤ w1.heap.size := by have := u1.size; rw [hz.out] at this; exact this
  have tv := turn_thereD (Turn.of_kp (S := fun _ => False) kv) (turn_thereD u1 ta (by omega)) (fun h => h)
  have kk : Kp w (w1.alloc (.cells #[.slice A9 n9 c9, .slice B9 k9 d9] 27)) := (k0.turn u1 (fun i hi => by omega)).trans kv
  have hfv := hv.kp kv
  replace hrv := hrv.kp kv
  replace hnv := hnv.kp kv
  have cv := c1.kp kv
  have HWB : Hid ((w1.alloc (.cells #[.slice A9 n9 c9, .slice B9 k9 d9] 27)).heap.size = w1.heap.size + 1) := by show _ = _; simp
  clear hv c1 u1 ta k0 cu hz
  go_wp2_with fail
  generalize w1.alloc (.cells #[.slice A9 n9 c9, .slice B9 k9 d9] 27) = wq at *
  generalize w1.heap.size = bv at *
  have hbv : bv ≠ w.heap.size + 1 := by omega
  have hqs : w.heap.size + 2 ≤ wq.heap.size := by have := HWB.out; omega
  have hpi : ∀ i, w.heap.size + 2 ≤ i → ¬ i = w.heap.size + 1 := fun i hi => by omega
  have hqi : ∀ i, w.heap.size ≤ i → ¬ i < w.heap.size := fun i hi => by omega
  have e0 := (Kp.refl wq).drew.get d0
  have e1 := (Kp.refl wq).drew.get d1
  have kd := (Kp.refl wq).drew
  have CO := Lib.hid (open7_any (w.heap.size + 1) _ (w.heap.size + 2) _ Ar nr cr An nn cn wq.drew (cv.kp kd) (by omega) (by omega) (hfv.kp kd) (hrv.kp kd) (hnv.kp kd))
  refine wp_region_held_drew (S := fun w' => w'.cell? ⟨bv, 0, none⟩ = some (.slice A9 n9 c9) ∧ w'.cell? ⟨bv, 1, none⟩ = some (.slice B9 k9 d9)) (by kernel_rfl) ⟨e0, e1⟩ (fun hHeld => ?_)
  refine wpAnyH_take (i := 0) (v := ?_) rfl (by kernel_rfl) (by kernel_rfl) (by kernel_rfl) (fun _ _ _ h => h) (Or.inl ⟨by rfl, ?_⟩) (by assumption) ?_
  rotate_left
  · intro w hSw; (try dsimp only at hSw); go_simp <;> with_reducible rfl
  (try simp only [Act.put, List.setIfInBounds_toArray, List.set_cons_zero, List.set_cons_succ])
  refine wpAnyH_take (i := 1) (v := ?_) rfl (by kernel_rfl) (by kernel_rfl) (by kernel_rfl) (fun _ _ _ h => h) (Or.inl ⟨by rfl, ?_⟩) (by assumption) ?_
  rotate_left
  · intro w hSw; (try dsimp only at hSw); go_simp <;> with_reducible rfl
  (try simp only [Act.put, List.setIfInBounds_toArray, List.set_cons_zero, List.set_cons_succ])
  refine wpAnyH_take (i := 2) (v := ?_) rfl (by kernel_rfl) (by kernel_rfl) (by kernel_rfl) (fun _ _ _ h => h) (Or.inl ⟨by rfl, ?_⟩) (by assumption) ?_
  rotate_left
  · intro w hSw; (try dsimp only at hSw); go_simp <;> with_reducible rfl
  (try simp only [Act.put, List.setIfInBounds_toArray, List.set_cons_zero, List.set_cons_succ])
  refine wpAnyH_take (i := 3) (v := ?_) rfl (by kernel_rfl) (by kernel_rfl) (by kernel_rfl) (fun _ _ _ h => h) (Or.inl ⟨by rfl, ?_⟩) (by assumption) ?_
  rotate_left
  · intro w hSw; (try dsimp only at hSw); go_simp <;> with_reducible rfl
  (try simp only [Act.put, List.setIfInBounds_toArray, List.set_cons_zero, List.set_cons_succ])
  refine wpAnyH_take (i := 4) (v := ?_) rfl (by kernel_rfl) (by kernel_rfl) (by kernel_rfl) (fun _ _ _ h => h) (Or.inl ⟨by rfl, ?_⟩) (by assumption) ?_
  rotate_left
  · intro w hSw; (try dsimp only at hSw); go_simp <;> with_reducible rfl
  (try simp only [Act.put, List.setIfInBounds_toArray, List.set_cons_zero, List.set_cons_succ])
  refine wpAnyH_take (i := 5) (v := ?_) rfl (by kernel_rfl) (by kernel_rfl) (by kernel_rfl) (fun _ _ _ h => h) (Or.inl ⟨by rfl, ?_⟩) (by assumption) ?_
  rotate_left
  · intro w hSw; (try dsimp only at hSw); go_simp <;> with_reducible rfl
  (try simp only [Act.put, List.setIfInBounds_toArray, List.set_cons_zero, List.set_cons_succ])
  refine wpAnyH_take (i := 6) (v := ?_) rfl (by kernel_rfl) (by kernel_rfl) (by kernel_rfl) (fun _ _ _ h => h) (Or.inl ⟨by rfl, ?_⟩) (by assumption) ?_
  rotate_left
  · intro w hSw; (try dsimp only at hSw); go_simp <;> with_reducible rfl
  (try simp only [Act.put, List.setIfInBounds_toArray, List.set_cons_zero, List.set_cons_succ])
  refine wpAnyH_ready (rs := [7]) (by kernel_rfl) (by simp) ?_
  refine AllReadyH.cons rfl (fun K hK => ?_) AllReadyH.nil
  go_simp
  with_reducible refine Calls.mono CO.out ?_
  rintro e w2 ⟨sv, rfl, hsv, c2, u2⟩
  clear CO
  (try go_wp2_with fail)
  have s0 := turn_cellD u2 e0 hbv
  have s1 := turn_cellD u2 e1 hbv
  refine hK.out _ _ ?_ (fun hHeld => ?_)
  · (try dsimp only); exact ⟨s0, s1⟩
  clear hK K
  (try simp only [Act.put, List.setIfInBounds_toArray, List.set_cons_zero, List.set_cons_succ])
  replace hsv := hsv.mono (show w.heap.size + 2 ≤ wq.drew.heap.size from hqs)
  obtain ⟨As, ns, cs, rfl⟩ := hsv.cutK
  have hfv2 := (hfv.kp kd).turn u2 hpi
  have hrv2 := (hrv.kp kd).turn u2 hpi
  have hnv2 := (hnv.kp kd).turn u2 hpi
  have tv2 := turn_thereD u2 (turn_thereD (Turn.of_kp (S := fun _ => False) kd) tv (fun h => h)) (by omega)
  have kk2 : Kp w w2 := (kk.trans kd).turn u2 (fun i hi => by omega)
  have HE := Lib.hid (drw_ret hfv2 (by omega) tv2 kk2 (Nat.le_refl _))
  have hi2 : ∀ i, w.heap.size + 2 ≤ i → ¬ i = w.heap.size := fun i hi => by omega
  have hsz3 : w.heap.size ≤ w.heap.size + 2 := by omega
  refine wpAnyH_ready (rs := [8]) (by kernel_rfl) (by simp) ?_
  refine AllReadyH.cons rfl (fun K hK => ?_) AllReadyH.nil
  rw [if_pos (by rfl)]
  refine wp_store_mid 27 (.tmp 2) (.tmp 19) rfl w.heap.size 0 #[.slice A9 n9 c9, .slice B9 k9 d9] rfl rfl tv2 (by kernel_rfl) (by simp [Value.oneCell']) ?_
  refine hK.out _ _ ?_ (fun hHeld => ?_)
  · (try dsimp only); exact ⟨turn_cellD HE.out.2.2.2.2 s0 (by show bv ≠ w.heap.size; omega), turn_cellD HE.out.2.2.2.2 s1 (by show bv ≠ w.heap.size; omega)⟩
  clear hK K
  (try simp only [Act.put, List.setIfInBounds_toArray, List.set_cons_zero, List.set_cons_succ])
  refine wpAnyH_take (i := 9) (v := ?_) rfl (by kernel_rfl) (by kernel_rfl) (by kernel_rfl) (fun _ _ _ h => h) (Or.inl ⟨by rfl, ?_⟩) (by assumption) ?_
  rotate_left
  · intro w hSw; (try dsimp only at hSw); go_simp <;> with_reducible rfl
  (try simp only [Act.put, List.setIfInBounds_toArray, List.set_cons_zero, List.set_cons_succ])
  refine wpAnyH_take (i := 10) (v := ?_) rfl (by kernel_rfl) (by kernel_rfl) (by kernel_rfl) (fun _ _ _ h => h) (Or.inl ⟨by rfl, ?_⟩) (by assumption) ?_
  rotate_left
  · intro w hSw; (try dsimp only at hSw); go_simp <;> with_reducible rfl
  (try simp only [Act.put, List.setIfInBounds_toArray, List.set_cons_zero, List.set_cons_succ])
  refine wpAnyH_take (i := 11) (v := ?_) rfl (by kernel_rfl) (by kernel_rfl) (by kernel_rfl) (fun _ _ _ h => h) (Or.inl ⟨by rfl, ?_⟩) (by assumption) ?_
  rotate_left
  · intro w hSw; (try dsimp only at hSw); go_simp <;> with_reducible rfl
  (try simp only [Act.put, List.setIfInBounds_toArray, List.set_cons_zero, List.set_cons_succ])
  refine wpAnyH_done (by kernel_rfl) ?_ _
  go_wp2_with fail
  obtain ⟨z0, z1, z2, z3, z4⟩ := HE.out
  exact bodyPost_ret (v := .tuple #[.agg #[.slice A9 n9 c9, .slice B9 k9 d9], .slice Ar nr cr, .slice An nn cn, .slice As ns cs]) (by simp [results, Try.results10, go_sem, z0, z1]) rfl ⟨_, _, _, _, rfl, z2, (hrv2.turn z4 hi2).mono hsz3, (hnv2.turn z4 hi2).mono hsz3, (hsv.turn z4 hi2).mono hsz3, z3⟩
end Go.Proofs.Ytgdicmeabppngaa

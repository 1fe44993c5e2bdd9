/- The drawing of arguments for the law on limited gains. No condition. -/
import Derived.Test.YtlglonjijfpgaaaGreatQAw
namespace Go.Proofs.YtlglonjijfpgaaaGreat
open Go.RowKit Go.Sort

def BbPost (w : World) (e : Ending) (w' : World) : Prop := ∃ v r k, e = .returned (.tuple #[v, .int .i64 r, .int .i64 k]) ∧ DFld w' w.heap.size v ∧ Kp w w'
def BaPost (w : World) (e : Ending) (w' : World) : Prop := ∃ v r cv lv, e = .returned (.tuple #[v, .int .i64 r, cv, lv]) ∧ DFld w' w.heap.size v ∧ DIz w' w.heap.size cv ∧ DIz w' w.heap.size lv ∧ Kp w w'
def IaPost (w : World) (e : Ending) (w' : World) : Prop := ∃ v cv lv sv, e = .returned (.tuple #[v, cv, lv, sv]) ∧ DFld w' w.heap.size v ∧ DIz w' w.heap.size cv ∧ DIz w' w.heap.size lv ∧ DIz w' w.heap.size sv ∧ Kp w w'
set_option maxRecDepth 100000 in
set_option maxHeartbeats 1000000 in
theorem drawBestBudget_any (A : Option Addr) (n c : Nat) (w : World) (hb : BytesAt w A n) :
    Calls Tryz.prog 44 #[.slice A n c] w (BbPost w) := by
  have t0 := there_newD w [.slice none 0 0, .slice none 0 0] 27
  simp only [List.length_cons, List.length_nil, Nat.zero_add, Nat.reduceAdd] at t0
  have k1 : Kp w (w.alloc (.cells #[.slice none 0 0, .slice none 0 0] 27)) := (Kp.refl w).alloc _
  have k2 : Kp _ ((w.alloc (.cells #[.slice none 0 0, .slice none 0 0] 27)).alloc (.cells #[.slice A n c, .int .i64 0, .int .u64 0] 62)) := (Kp.refl _).alloc _
  have cu := cur_new (c := c) (t := 62) (hb.kp k1)
  have ta := turn_thereD (Turn.of_kp (S := fun _ => False) k2) t0 (fun h => h)
  have hz : Hid (((w.alloc (.cells #[.slice none 0 0, .slice none 0 0] 27)).alloc (.cells #[.slice A n c, .int .i64 0, .int .u64 0] 62)).heap.size = w.heap.size + 2) := by show _ = _; simp
  have k0 := k1.trans k2
  rw [World.size_alloc] at cu
  have CF := Lib.hid (field_any (w.heap.size + 1) 0 _ cu (by omega))
  clear k1 k2 t0
  go_enter Tryz.func44, Tryz.ntmps44
  go_wp2_with fail
  generalize (w.alloc (.cells #[.slice none 0 0, .slice none 0 0] 27)).alloc (.cells #[.slice A n c, .int .i64 0, .int .u64 0] 62) = wa at *
  with_reducible refine Calls.mono CF.out ?_
  rintro e w1 ⟨v, rfl, hv, c1, u1⟩
  clear CF
  have CW := Lib.hid (worth_any (w.heap.size + 1) _ w1 c1 (by omega))
  go_wp2_with fail
  with_reducible refine Calls.mono CW.out ?_
  rintro e w2 ⟨r, rfl, c2, u2⟩
  clear CW
  have CM := amongLit_any (w.heap.size + 1) _ [5, 8, 12, 3, 0, 20, 9999, 10000, -1] w2 c2 (by omega) (by decide) (by decide)
  simp only [List.map_cons, List.map_nil, List.length_cons, List.length_nil, Nat.zero_add, Nat.reduceAdd] at CM
  replace CM := Lib.hid CM
  go_wp2_with fail
  with_reducible refine Calls.mono CM.out ?_
  rintro e w3 ⟨k, rfl, _, c3, u3⟩
  clear CM
  rw [hz.out] at hv
  have hv2 := (hv.turn u2 (fun i hi => by omega)).turn u3 (fun i hi => by omega)
  have t2 := turn_thereD u3 (turn_thereD u2 (turn_thereD u1 ta (by omega)) (by omega)) (by omega)
  have kk : Kp w w3 := ((k0.turn u1 (fun i hi => by omega)).turn u2 (fun i hi => by omega)).turn u3 (fun i hi => by omega)
  obtain ⟨A9, n9, c9, B9, k9, d9, rfl, _⟩ := hv2.shape
  have HE := Lib.hid (drw_ret hv2 (by omega) t2 kk (Nat.le_refl _))
  go_wp2_with (first | (refine wpList_store_mid rfl 27 (.tmp 2) (.tmp 10) rfl w.heap.size 0 #[.slice A9 n9 c9, .slice B9 k9 d9] rfl rfl t2 (by kernel_rfl) (by simp [Value.oneCell']) ?_) | fail)
  obtain ⟨z0, z1, z2, z3, _⟩ := HE.out
  exact bodyPost_ret (v := .tuple #[.agg #[.slice A9 n9 c9, .slice B9 k9 d9], .int .i64 r, .int .i64 k]) (by simp [results, Tryz.results44, go_sem, z0, z1]) rfl ⟨_, _, _, rfl, z2, z3⟩
set_option maxRecDepth 100000 in
set_option maxHeartbeats 1000000 in
theorem drawRatioGain_any (A : Option Addr) (n c : Nat) (w : World) (hb : BytesAt w A n) :
    Calls Tryz.prog 16 #[.slice A n c] w (BbPost w) := by
  have t0 := there_newD w [.slice none 0 0, .slice none 0 0] 27
  simp only [List.length_cons, List.length_nil, Nat.zero_add, Nat.reduceAdd] at t0
  have k1 : Kp w (w.alloc (.cells #[.slice none 0 0, .slice none 0 0] 27)) := (Kp.refl w).alloc _
  have hz : Hid ((w.alloc (.cells #[.slice none 0 0, .slice none 0 0] 27)).heap.size = w.heap.size + 1) := by show _ = _; simp
  have CF := Lib.hid (drawBestBudget_any A n c _ (hb.kp k1))
  go_enter Tryz.func16, Tryz.ntmps16
  go_wp2_with fail
  generalize w.alloc (.cells #[.slice none 0 0, .slice none 0 0] 27) = wa at *
  with_reducible refine Calls.mono CF.out ?_
  rintro e w1 ⟨v, r, k, rfl, hv, hk1⟩
  clear CF
  rw [hz.out] at hv
  have t2 := turn_thereD (Turn.of_kp (S := fun _ => False) hk1) t0 (fun h => h)
  have kk : Kp w w1 := k1.trans hk1
  obtain ⟨A9, n9, c9, B9, k9, d9, rfl, _⟩ := hv.shape
  have HE := Lib.hid (drw_ret hv (by omega) t2 kk (Nat.le_refl _))
  go_wp2_with (first | (refine wpList_store_mid rfl 27 (.tmp 2) (.tmp 7) rfl w.heap.size 0 #[.slice A9 n9 c9, .slice B9 k9 d9] rfl rfl t2 (by kernel_rfl) (by simp [Value.oneCell']) ?_) | fail)
  obtain ⟨z0, z1, z2, z3, _⟩ := HE.out
  exact bodyPost_ret (v := .tuple #[.agg #[.slice A9 n9 c9, .slice B9 k9 d9], .int .i64 r, .int .i64 k]) (by simp [results, Tryz.results16, go_sem, z0, z1]) rfl ⟨_, _, _, rfl, z2, z3⟩
set_option maxRecDepth 100000 in
set_option maxHeartbeats 1000000 in
theorem drawBestAllowed_any (A : Option Addr) (n c : Nat) (w : World) (hb : BytesAt w A n) :
    Calls Tryz.prog 22 #[.slice A n c] w (BaPost w) := by
  have t0 := there_newD w [.slice none 0 0, .slice none 0 0] 27
  simp only [List.length_cons, List.length_nil, Nat.zero_add, Nat.reduceAdd] at t0
  have k1 : Kp w (w.alloc (.cells #[.slice none 0 0, .slice none 0 0] 27)) := (Kp.refl w).alloc _
  have k2 : Kp _ ((w.alloc (.cells #[.slice none 0 0, .slice none 0 0] 27)).alloc (.cells #[.slice A n c, .int .i64 0, .int .u64 0] 62)) := (Kp.refl _).alloc _
  have cu := cur_new (c := c) (t := 62) (hb.kp k1)
  have ta := turn_thereD (Turn.of_kp (S := fun _ => False) k2) t0 (fun h => h)
  have hz : Hid (((w.alloc (.cells #[.slice none 0 0, .slice none 0 0] 27)).alloc (.cells #[.slice A n c, .int .i64 0, .int .u64 0] 62)).heap.size = w.heap.size + 2) := by show _ = _; simp
  have k0 := k1.trans k2
  rw [World.size_alloc] at cu
  have CF := Lib.hid (field_any (w.heap.size + 1) 0 _ cu (by omega))
  clear k1 k2 t0
  go_enter Tryz.func22, Tryz.ntmps22
  go_wp2_with fail
  generalize (w.alloc (.cells #[.slice none 0 0, .slice none 0 0] 27)).alloc (.cells #[.slice A n c, .int .i64 0, .int .u64 0] 62) = wa at *
  with_reducible refine Calls.mono CF.out ?_
  rintro e w1 ⟨v, rfl, hv, c1, u1⟩
  clear CF
  rw [hz.out] at hv
  obtain ⟨A9, n9, c9, B9, k9, d9, rfl, hn9⟩ := hv.shape
  have kv : Kp w1 (w1.alloc (.cells #[.slice A9 n9 c9, .slice B9 k9 d9] 27)) := (Kp.refl w1).alloc _
  obtain ⟨d0, d1⟩ := box2 w1 (.slice A9 n9 c9) (.slice B9 k9 d9) 27
  have hvb : w.heap.size + 2 ≤ w1.heap.size := by have := u1.size; rw [hz.out] at this; exact this
  have tv := turn_thereD (Turn.of_kp (S := fun _ => False) kv) (turn_thereD u1 ta (by omega)) (fun h => h)
  have kk : Kp w (w1.alloc (.cells #[.slice A9 n9 c9, .slice B9 k9 d9] 27)) := (k0.turn u1 (fun i hi => by omega)).trans kv
  have hfv := hv.kp kv
  have cv := c1.kp kv
  have HWB : Hid ((w1.alloc (.cells #[.slice A9 n9 c9, .slice B9 k9 d9] 27)).heap.size = w1.heap.size + 1) := by show _ = _; simp
  clear hv c1 u1 ta k0 cu hz
  go_wp2_with fail
  generalize w1.alloc (.cells #[.slice A9 n9 c9, .slice B9 k9 d9] 27) = wr at *
  generalize w1.heap.size = bv at *
  have hbv : bv ≠ w.heap.size + 1 := by omega
  have hqs : w.heap.size + 2 ≤ wr.heap.size := by have := HWB.out; omega
  have hpi : ∀ i, w.heap.size + 2 ≤ i → ¬ i = w.heap.size + 1 := fun i hi => by omega
  have CW := Lib.hid (worth_any (w.heap.size + 1) _ wr cv (by omega))
  with_reducible refine Calls.mono CW.out ?_
  rintro e wa ⟨r, rfl, cA, uA⟩
  clear CW
  have e0 := turn_cellD uA d0 hbv
  have e1 := turn_cellD uA d1 hbv
  have hfa := hfv.turn uA hpi
  have hqa : w.heap.size + 2 ≤ wa.heap.size := Nat.le_trans hqs uA.size
  have CC := Lib.hid (classes_any (w.heap.size + 1) _ (w.heap.size + 2) _ wa cA (by omega) (by omega) hfa)
  go_wp2_with fail
  with_reducible refine Calls.mono CC.out ?_
  rintro e wb ⟨cl, lv, rfl, hz1, hz2, cB, uB⟩
  clear CC
  obtain ⟨Ac, nc, cc, rfl⟩ := hz1.cut
  obtain ⟨Al, nl, ll, rfl⟩ := hz2.cut
  have f0 := turn_cellD uB e0 hbv
  have f1 := turn_cellD uB e1 hbv
  have hfd := hfa.turn uB hpi
  have td := turn_thereD uB (turn_thereD uA tv (by omega)) (by omega)
  have kd : Kp w wb := (kk.turn uA (fun i hi => by omega)).turn uB (fun i hi => by omega)
  have HE := Lib.hid (drw_ret hfd (by omega) td kd (Nat.le_refl _))
  go_wp2_with (first | (refine wpList_store_mid rfl 27 (.tmp 2) (.tmp 24) rfl w.heap.size 0 #[.slice A9 n9 c9, .slice B9 k9 d9] rfl rfl td (by kernel_rfl) (by simp [Value.oneCell']) ?_) | fail)
  obtain ⟨z0, z1, z2, z3, z4⟩ := HE.out
  exact bodyPost_ret (v := .tuple #[.agg #[.slice A9 n9 c9, .slice B9 k9 d9], .int .i64 r, .slice Ac nc cc, .slice Al nl ll]) (by simp [results, Tryz.results22, go_sem, z0, z1]) rfl ⟨_, _, _, _, rfl, z2, (hz1.turn z4 (fun i hi => by omega)).mono (by omega), (hz2.turn z4 (fun i hi => by omega)).mono (by omega), z3⟩
set_option maxRecDepth 100000 in
set_option maxHeartbeats 1000000 in
theorem drawGreedyAllowed_any (A : Option Addr) (n c : Nat) (w : World) (hb : BytesAt w A n) :
    Calls Tryz.prog 5 #[.slice A n c] w (BaPost w) := by
  have t0 := there_newD w [.slice none 0 0, .slice none 0 0] 27
  simp only [List.length_cons, List.length_nil, Nat.zero_add, Nat.reduceAdd] at t0
  have k1 : Kp w (w.alloc (.cells #[.slice none 0 0, .slice none 0 0] 27)) := (Kp.refl w).alloc _
  have hz : Hid ((w.alloc (.cells #[.slice none 0 0, .slice none 0 0] 27)).heap.size = w.heap.size + 1) := by show _ = _; simp
  have CF := Lib.hid (drawBestAllowed_any A n c _ (hb.kp k1))
  go_enter Tryz.func5, Tryz.ntmps5
  go_wp2_with fail
  generalize w.alloc (.cells #[.slice none 0 0, .slice none 0 0] 27) = wa at *
  with_reducible refine Calls.mono CF.out ?_
  rintro e w1 ⟨v, r, cv, lv, rfl, hv, hz1, hz2, hk1⟩
  clear CF
  rw [hz.out] at hv hz1 hz2
  have t2 := turn_thereD (Turn.of_kp (S := fun _ => False) hk1) t0 (fun h => h)
  have kk : Kp w w1 := k1.trans hk1
  obtain ⟨Ac, nc, cc, rfl⟩ := hz1.cut
  obtain ⟨Al, nl, cl, rfl⟩ := hz2.cut
  obtain ⟨A9, n9, c9, B9, k9, d9, rfl, _⟩ := hv.shape
  have HE := Lib.hid (drw_ret hv (by omega) t2 kk (Nat.le_refl _))
  go_wp2_with (first | (refine wpList_store_mid rfl 27 (.tmp 2) (.tmp 8) rfl w.heap.size 0 #[.slice A9 n9 c9, .slice B9 k9 d9] rfl rfl t2 (by kernel_rfl) (by simp [Value.oneCell']) ?_) | fail)
  obtain ⟨z0, z1, z2, z3, z4⟩ := HE.out
  exact bodyPost_ret (v := .tuple #[.agg #[.slice A9 n9 c9, .slice B9 k9 d9], .int .i64 r, .slice Ac nc cc, .slice Al nl cl]) (by simp [results, Tryz.results5, go_sem, z0, z1]) rfl ⟨_, _, _, _, rfl, z2, (hz1.turn z4 (fun i hi => by omega)).mono (by omega), (hz2.turn z4 (fun i hi => by omega)).mono (by omega), z3⟩
set_option maxRecDepth 100000 in
set_option maxHeartbeats 1000000 in
theorem drawIsAllowed_any (A : Option Addr) (n c : Nat) (w : World) (hb : BytesAt w A n) :
    Calls Tryz.prog 14 #[.slice A n c] w (IaPost w) := by
  have t0 := there_newD w [.slice none 0 0, .slice none 0 0] 27
  simp only [List.length_cons, List.length_nil, Nat.zero_add, Nat.reduceAdd] at t0
  have k1 : Kp w (w.alloc (.cells #[.slice none 0 0, .slice none 0 0] 27)) := (Kp.refl w).alloc _
  have k2 : Kp _ ((w.alloc (.cells #[.slice none 0 0, .slice none 0 0] 27)).alloc (.cells #[.slice A n c, .int .i64 0, .int .u64 0] 62)) := (Kp.refl _).alloc _
  have cu := cur_new (c := c) (t := 62) (hb.kp k1)
  have ta := turn_thereD (Turn.of_kp (S := fun _ => False) k2) t0 (fun h => h)
  have hz : Hid (((w.alloc (.cells #[.slice none 0 0, .slice none 0 0] 27)).alloc (.cells #[.slice A n c, .int .i64 0, .int .u64 0] 62)).heap.size = w.heap.size + 2) := by show _ = _; simp
  have k0 := k1.trans k2
  rw [World.size_alloc] at cu
  have CF := Lib.hid (field_any (w.heap.size + 1) 0 _ cu (by omega))
  clear k1 k2 t0
  go_enter Tryz.func14, Tryz.ntmps14
  go_wp2_with fail
  generalize (w.alloc (.cells #[.slice none 0 0, .slice none 0 0] 27)).alloc (.cells #[.slice A n c, .int .i64 0, .int .u64 0] 62) = wa at *
  with_reducible refine Calls.mono CF.out ?_
  rintro e w1 ⟨v, rfl, hv, c1, u1⟩
  clear CF
  rw [hz.out] at hv
  obtain ⟨A9, n9, c9, B9, k9, d9, rfl, hn9⟩ := hv.shape
  have kv : Kp w1 (w1.alloc (.cells #[.slice A9 n9 c9, .slice B9 k9 d9] 27)) := (Kp.refl w1).alloc _
  obtain ⟨d0, d1⟩ := box2 w1 (.slice A9 n9 c9) (.slice B9 k9 d9) 27
  have hvb : w.heap.size + 2 ≤ w1.heap.size := by have := u1.size; rw [hz.out] at this; exact this
  have tv := turn_thereD (Turn.of_kp (S := fun _ => False) kv) (turn_thereD u1 ta (by omega)) (fun h => h)
  have kk : Kp w (w1.alloc (.cells #[.slice A9 n9 c9, .slice B9 k9 d9] 27)) := (k0.turn u1 (fun i hi => by omega)).trans kv
  have hfv := hv.kp kv
  have cv := c1.kp kv
  have HWB : Hid ((w1.alloc (.cells #[.slice A9 n9 c9, .slice B9 k9 d9] 27)).heap.size = w1.heap.size + 1) := by show _ = _; simp
  clear hv c1 u1 ta k0 cu hz
  go_wp2_with fail
  generalize w1.alloc (.cells #[.slice A9 n9 c9, .slice B9 k9 d9] 27) = wr at *
  generalize w1.heap.size = bv at *
  have hbv : bv ≠ w.heap.size + 1 := by omega
  have hqs : w.heap.size + 2 ≤ wr.heap.size := by have := HWB.out; omega
  have hpi : ∀ i, w.heap.size + 2 ≤ i → ¬ i = w.heap.size + 1 := fun i hi => by omega
  have CC := Lib.hid (classes_any (w.heap.size + 1) _ (w.heap.size + 2) _ wr cv (by omega) (by omega) hfv)
  with_reducible refine Calls.mono CC.out ?_
  rintro e wb ⟨cl, lv, rfl, hz1, hz2, cB, uB⟩
  clear CC
  obtain ⟨Ac, nc, cc, rfl⟩ := hz1.cut
  obtain ⟨Al, nl, ll, rfl⟩ := hz2.cut
  have hqb : w.heap.size + 2 ≤ wb.heap.size := Nat.le_trans hqs uB.size
  have kdr : Kp wb wb.drew := (Kp.refl wb).drew
  have s0 := kdr.get (turn_cellD uB d0 hbv)
  have s1 := kdr.get (turn_cellD uB d1 hbv)
  go_wp2_with fail
  refine wp_region_held_drew (S := fun w' => w'.cell? ⟨bv, 0, none⟩ = some (.slice A9 n9 c9) ∧ w'.cell? ⟨bv, 1, none⟩ = some (.slice B9 k9 d9)) (by kernel_rfl) ⟨s0, s1⟩ (fun hHeld => ?_)
  refine wpAnyH_take (i := 0) (v := ?_) rfl (by kernel_rfl) (by kernel_rfl) (by kernel_rfl) (fun _ _ _ h => h) (Or.inl ⟨by rfl, ?_⟩) (by assumption) ?_
  rotate_left
  · intro w hSw; (try dsimp only at hSw); go_simp <;> with_reducible rfl
  (try simp only [Act.put, List.setIfInBounds_toArray, List.set_cons_zero, List.set_cons_succ])
  refine wpAnyH_take (i := 1) (v := ?_) rfl (by kernel_rfl) (by kernel_rfl) (by kernel_rfl) (fun _ _ _ h => h) (Or.inl ⟨by rfl, ?_⟩) (by assumption) ?_
  rotate_left
  · intro w hSw; (try dsimp only at hSw); go_simp <;> with_reducible rfl
  (try simp only [Act.put, List.setIfInBounds_toArray, List.set_cons_zero, List.set_cons_succ])
  refine wpAnyH_take (i := 2) (v := ?_) rfl (by kernel_rfl) (by kernel_rfl) (by kernel_rfl) (fun _ _ _ h => h) (Or.inl ⟨by rfl, ?_⟩) (by assumption) ?_
  rotate_left
  · intro w hSw; (try dsimp only at hSw); go_simp <;> with_reducible rfl
  (try simp only [Act.put, List.setIfInBounds_toArray, List.set_cons_zero, List.set_cons_succ])
  refine wpAnyH_take (i := 3) (v := ?_) rfl (by kernel_rfl) (by kernel_rfl) (by kernel_rfl) (fun _ _ _ h => h) (Or.inl ⟨by rfl, ?_⟩) (by assumption) ?_
  rotate_left
  · intro w hSw; (try dsimp only at hSw); go_simp <;> with_reducible rfl
  (try simp only [Act.put, List.setIfInBounds_toArray, List.set_cons_zero, List.set_cons_succ])
  refine wpAnyH_take (i := 4) (v := ?_) rfl (by kernel_rfl) (by kernel_rfl) (by kernel_rfl) (fun _ _ _ h => h) (Or.inl ⟨by rfl, ?_⟩) (by assumption) ?_
  rotate_left
  · intro w hSw; (try dsimp only at hSw); go_simp <;> with_reducible rfl
  (try simp only [Act.put, List.setIfInBounds_toArray, List.set_cons_zero, List.set_cons_succ])
  have CA := Lib.hid (any_any (w.heap.size + 1) _ A9 n9 c9 B9 k9 d9 wb.drew (cB.kp kdr) (by omega) hn9)
  refine wpAnyH_ready (rs := [5]) (by kernel_rfl) (by simp) ?_
  refine AllReadyH.cons rfl (fun K hK => ?_) AllReadyH.nil
  go_simp
  with_reducible refine Calls.mono CA.out ?_
  rintro e wa2 ⟨l, rfl, hl, cC, uC⟩
  clear CA
  (try go_wp2_with fail)
  have s0b := turn_cellD uC s0 hbv
  have s1b := turn_cellD uC s1 hbv
  refine hK.out _ _ ?_ (fun hHeld => ?_)
  · (try dsimp only); exact ⟨s0b, s1b⟩
  clear hK K
  (try simp only [Act.put, List.setIfInBounds_toArray, List.set_cons_zero, List.set_cons_succ])
  have hlz := hl.diz.mono (show w.heap.size + 2 ≤ wb.drew.heap.size from hqb)
  have hz1b := (hz1.kp kdr).turn uC (fun i hi => by omega)
  have hz2b := (hz2.kp kdr).turn uC (fun i hi => by omega)
  obtain ⟨As, ns, cs, rfl⟩ := hlz.cut
  have td := turn_thereD uC (turn_thereD (Turn.of_kp (S := fun _ => False) kdr) (turn_thereD uB tv (by omega)) (fun h => h)) (by omega)
  have kd : Kp w wa2 := ((kk.turn uB (fun i hi => by omega)).trans kdr).turn uC (fun i hi => by omega)
  have hfd := ((hfv.turn uB hpi).kp kdr).turn uC hpi
  have HE := Lib.hid (drw_ret hfd (by omega) td kd (Nat.le_refl _))
  refine wpAnyH_ready (rs := [6]) (by kernel_rfl) (by simp) ?_
  refine AllReadyH.cons rfl (fun K hK => ?_) AllReadyH.nil
  rw [if_pos (by rfl)]
  refine wp_store_mid 27 (.tmp 2) (.tmp 21) rfl w.heap.size 0 #[.slice A9 n9 c9, .slice B9 k9 d9] rfl rfl td (by kernel_rfl) (by simp [Value.oneCell']) ?_
  refine hK.out _ _ ?_ (fun hHeld => ?_)
  · (try dsimp only); exact ⟨turn_cellD HE.out.2.2.2.2 s0b (by show bv ≠ w.heap.size; omega), turn_cellD HE.out.2.2.2.2 s1b (by show bv ≠ w.heap.size; omega)⟩
  clear hK K
  (try simp only [Act.put, List.setIfInBounds_toArray, List.set_cons_zero, List.set_cons_succ])
  refine wpAnyH_take (i := 7) (v := ?_) rfl (by kernel_rfl) (by kernel_rfl) (by kernel_rfl) (fun _ _ _ h => h) (Or.inl ⟨by rfl, ?_⟩) (by assumption) ?_
  rotate_left
  · intro w hSw; (try dsimp only at hSw); go_simp <;> with_reducible rfl
  (try simp only [Act.put, List.setIfInBounds_toArray, List.set_cons_zero, List.set_cons_succ])
  refine wpAnyH_take (i := 8) (v := ?_) rfl (by kernel_rfl) (by kernel_rfl) (by kernel_rfl) (fun _ _ _ h => h) (Or.inl ⟨by rfl, ?_⟩) (by assumption) ?_
  rotate_left
  · intro w hSw; (try dsimp only at hSw); go_simp <;> with_reducible rfl
  (try simp only [Act.put, List.setIfInBounds_toArray, List.set_cons_zero, List.set_cons_succ])
  refine wpAnyH_take (i := 9) (v := ?_) rfl (by kernel_rfl) (by kernel_rfl) (by kernel_rfl) (fun _ _ _ h => h) (Or.inl ⟨by rfl, ?_⟩) (by assumption) ?_
  rotate_left
  · intro w hSw; (try dsimp only at hSw); go_simp <;> with_reducible rfl
  (try simp only [Act.put, List.setIfInBounds_toArray, List.set_cons_zero, List.set_cons_succ])
  refine wpAnyH_done (by kernel_rfl) ?_ _
  go_wp2_with fail
  obtain ⟨z0, z1, z2, z3, z4⟩ := HE.out
  exact bodyPost_ret (v := .tuple #[.agg #[.slice A9 n9 c9, .slice B9 k9 d9], .slice Ac nc cc, .slice Al nl ll, .slice As ns cs]) (by simp [results, Tryz.results14, go_sem, z0, z1]) rfl ⟨_, _, _, _, rfl, z2, (hz1b.turn z4 (fun i hi => by omega)).mono (by omega), (hz2b.turn z4 (fun i hi => by omega)).mono (by omega), (hlz.turn z4 (fun i hi => by omega)).mono (by omega), z3⟩
end Go.Proofs.YtlglonjijfpgaaaGreat

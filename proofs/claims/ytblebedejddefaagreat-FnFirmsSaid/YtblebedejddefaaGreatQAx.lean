/- The drawing of arguments for the law on firms: the play, the leader, the clients taken. No condition. -/
import Derived.Test.YtblebedejddefaaGreatQAw
namespace Go.Proofs.YtblebedejddefaaGreat
open Go.RowKit Go.Sort

theorem ints_low {S : Nat → Prop} {w w' : World} {g : Nat} {xs : List Int} (h : IntsAt w (some ⟨g, 0, none⟩) xs) (ht : Turn S w w') (hn : ¬ S g) : IntsAt w' (some ⟨g, 0, none⟩) xs := ints_turnD h ht (fun ad e => by cases e; exact hn)
set_option maxRecDepth 100000 in
set_option maxHeartbeats 2000000 in
theorem drawBestLeader_any (A : Option Addr) (n c : Nat) (w : World) (hb : BytesAt w A n) :
    Calls Tryz.prog 10 #[.slice A n c] w (BlPost w) := by
  have t0 := there_newD w [.slice none 0 0, .slice none 0 0] 27
  simp only [List.length_cons, List.length_nil, Nat.zero_add, Nat.reduceAdd] at t0
  have k1 : Kp w (w.alloc (.cells #[.slice none 0 0, .slice none 0 0] 27)) := (Kp.refl w).alloc _
  have k2 : Kp _ ((w.alloc (.cells #[.slice none 0 0, .slice none 0 0] 27)).alloc (.cells #[.slice A n c, .int .i64 0, .int .u64 0] 56)) := (Kp.refl _).alloc _
  have cu := cur_new (c := c) (t := 56) (hb.kp k1)
  have ta := turn_thereD (Turn.of_kp (S := fun _ => False) k2) t0 (fun h => h)
  have hz : Hid (((w.alloc (.cells #[.slice none 0 0, .slice none 0 0] 27)).alloc (.cells #[.slice A n c, .int .i64 0, .int .u64 0] 56)).heap.size = w.heap.size + 2) := by show _ = _; simp
  have k0 := k1.trans k2
  rw [World.size_alloc] at cu
  have CF := Lib.hid (fieldOf_any (w.heap.size + 1) 0 6 _ cu (by omega) (by omega))
  clear k1 k2 t0
  go_enter Tryz.func10, Tryz.ntmps10
  go_wp2_with fail
  generalize (w.alloc (.cells #[.slice none 0 0, .slice none 0 0] 27)).alloc (.cells #[.slice A n c, .int .i64 0, .int .u64 0] 56) = wa at *
  with_reducible refine Calls.mono CF.out ?_
  rintro e w1 ⟨v, rfl, hv, c1, u1⟩
  clear CF
  rw [hz.out] at hv
  obtain ⟨A9, n9, c9, B9, k9, d9, rfl, hn9⟩ := hv.shape
  have kv : Kp w1 (w1.alloc (.cells #[.slice A9 n9 c9, .slice B9 k9 d9] 27)) := (Kp.refl w1).alloc _
  obtain ⟨d0, d1⟩ := box2 w1 (.slice A9 n9 c9) (.slice B9 k9 d9) 27
  have hvb : w.heap.size + 2 ≤ w1.heap.size := by have := u1.size; rw [hz.out] at this; exact this
  have tv := turn_thereD (Turn.of_kp (S := fun _ => False) kv) (turn_thereD u1 ta (by omega)) (fun h => h)
  have kk : Kp w (w1.alloc (.cells #[.slice A9 n9 c9, .slice B9 k9 d9] 27)) := (k0.turn u1 (fun i hi => by omega)).trans kv
  have hfv := hv.kp kv
  have cv := c1.kp kv
  have HWB : Hid ((w1.alloc (.cells #[.slice A9 n9 c9, .slice B9 k9 d9] 27)).heap.size = w1.heap.size + 1) := by show _ = _; simp
  clear hv c1 u1 ta k0 cu hz
  go_wp2_with fail
  generalize w1.alloc (.cells #[.slice A9 n9 c9, .slice B9 k9 d9] 27) = wr at *
  generalize w1.heap.size = bv at *
  have hbv : bv ≠ w.heap.size + 1 := by omega
  have hqs : w.heap.size + 2 ≤ wr.heap.size := by have := HWB.out; omega
  have hpi : ∀ i, w.heap.size + 2 ≤ i → ¬ i = w.heap.size + 1 := fun i hi => by omega
  have kdr : Kp wr wr.drew := (Kp.refl wr).drew
  have s0 := kdr.get d0
  have s1 := kdr.get d1
  obtain ⟨W, hW⟩ : ∃ W, W = wr.drew := ⟨_, rfl⟩
  have hWs : w.heap.size + 2 ≤ W.heap.size := by rw [hW]; exact hqs
  have cW := cv.kp kdr
  have tW := turn_thereD (Turn.of_kp (S := fun _ => False) kdr) tv (fun h => h)
  have kW := kk.trans kdr
  have fW := hfv.kp kdr
  refine wp_region_held_drew (S := fun w' => w'.cell? ⟨bv, 0, none⟩ = some (.slice A9 n9 c9) ∧ w'.cell? ⟨bv, 1, none⟩ = some (.slice B9 k9 d9)) (by kernel_rfl) ⟨s0, s1⟩ (fun hHeld => ?_)
  rw [← hW] at s0 s1 cW tW kW fW hHeld ⊢
  clear hW kdr d0 d1 tv kk hfv cv hqs
  have l1 := lit_intsD W [1, 2, 1, 3, 0] (by decide)
  simp only [List.map_cons, List.map_nil] at l1
  have ka : Kp W (W.alloc (.cells #[.int .i64 1, .int .i64 2, .int .i64 1, .int .i64 3, .int .i64 0] 3)) := (Kp.refl W).alloc _
  have l2 := lit_intsD (W.alloc (.cells #[.int .i64 1, .int .i64 2, .int .i64 1, .int .i64 3, .int .i64 0] 3)) [1, 2, 1, 3, 0] (by decide)
  simp only [List.map_cons, List.map_nil, World.size_alloc] at l2
  have kb : Kp (W.alloc (.cells #[.int .i64 1, .int .i64 2, .int .i64 1, .int .i64 3, .int .i64 0] 3)) ((W.alloc (.cells #[.int .i64 1, .int .i64 2, .int .i64 1, .int .i64 3, .int .i64 0] 3)).alloc (.cells #[.int .i64 1, .int .i64 2, .int .i64 1, .int .i64 3, .int .i64 0] 3)) := (Kp.refl _).alloc _
  refine wpAnyH_take (i := 0) (v := ?_) rfl (by kernel_rfl) (by kernel_rfl) (by kernel_rfl) (fun _ _ _ h => h) (Or.inl ⟨by rfl, ?_⟩) (by assumption) ?_
  rotate_left
  · intro w hSw; (try dsimp only at hSw); go_simp <;> with_reducible rfl
  (try simp only [Act.put, List.setIfInBounds_toArray, List.set_cons_zero, List.set_cons_succ])
  refine wpAnyH_take (i := 1) (v := ?_) rfl (by kernel_rfl) (by kernel_rfl) (by kernel_rfl) (fun _ _ _ h => h) (Or.inl ⟨by rfl, ?_⟩) (by assumption) ?_
  rotate_left
  · intro w hSw; (try dsimp only at hSw); go_simp <;> with_reducible rfl
  (try simp only [Act.put, List.setIfInBounds_toArray, List.set_cons_zero, List.set_cons_succ])
  refine wpAnyH_take (i := 4) (v := ?_) rfl (by kernel_rfl) (by kernel_rfl) (by kernel_rfl) (fun _ _ _ h => h) (Or.inl ⟨by rfl, ?_⟩) (by assumption) ?_
  rotate_left
  · intro w hSw; (try dsimp only at hSw); go_simp <;> with_reducible rfl
  (try simp only [Act.put, List.setIfInBounds_toArray, List.set_cons_zero, List.set_cons_succ])
  refine wpAnyH_ready (rs := [2, 5]) (by kernel_rfl) (by simp) ?_
  refine AllReadyH.cons rfl (fun K hK => ?_) (AllReadyH.cons rfl (fun K hK => ?_) AllReadyH.nil)
  · go_simp
    refine hK.out _ _ ?_ (fun hHeld => ?_)
    · (try dsimp only); exact ⟨ka.get s0, ka.get s1⟩
    clear hK K
    (try simp only [Act.put, List.setIfInBounds_toArray, List.set_cons_zero, List.set_cons_succ])
    refine wpAnyH_ready (rs := [3, 5]) (by kernel_rfl) (by simp) ?_
    refine AllReadyH.cons rfl (fun K hK => ?_) (AllReadyH.cons rfl (fun K hK => ?_) AllReadyH.nil)
    · go_simp
      with_reducible refine Calls.mono (among_any (w.heap.size + 1) _ (some ⟨(W.heap.size), 0, none⟩) [1, 2, 1, 3, 0] 5 5 _ (cW.kp ka) (by omega) l1 rfl (by omega) (by omega) (fun ad e => by cases e; show (W.heap.size) ≠ _; omega)) ?_
      rintro e wm ⟨zA, rfl, _, cm, um⟩
      (try go_wp2_with fail)
      have s0m := turn_cellD um (ka.get s0) hbv
      have s1m := turn_cellD um (ka.get s1) hbv
      refine hK.out _ _ ?_ (fun hHeld => ?_)
      · (try dsimp only); exact ⟨s0m, s1m⟩
      clear hK K
      (try simp only [Act.put, List.setIfInBounds_toArray, List.set_cons_zero, List.set_cons_succ])
      have hms : W.heap.size ≤ wm.heap.size := Nat.le_trans ka.le um.size
      have l3 := lit_intsD wm [1, 2, 1, 3, 0] (by decide)
      simp only [List.map_cons, List.map_nil] at l3
      have kc : Kp wm (wm.alloc (.cells #[.int .i64 1, .int .i64 2, .int .i64 1, .int .i64 3, .int .i64 0] 3)) := (Kp.refl _).alloc _
      refine wpAnyH_ready (rs := [5]) (by kernel_rfl) (by simp) ?_
      refine AllReadyH.cons rfl (fun K hK => ?_) AllReadyH.nil
      go_simp
      refine hK.out _ _ ?_ (fun hHeld => ?_)
      · (try dsimp only); exact ⟨kc.get s0m, kc.get s1m⟩
      clear hK K
      (try simp only [Act.put, List.setIfInBounds_toArray, List.set_cons_zero, List.set_cons_succ])
      refine wpAnyH_ready (rs := [6]) (by kernel_rfl) (by simp) ?_
      refine AllReadyH.cons rfl (fun K hK => ?_) AllReadyH.nil
      go_simp
      with_reducible refine Calls.mono (among_any (w.heap.size + 1) _ (some ⟨(wm.heap.size), 0, none⟩) [1, 2, 1, 3, 0] 5 5 _ (cm.kp kc) (by omega) l3 rfl (by omega) (by omega) (fun ad e => by cases e; show (wm.heap.size) ≠ _; omega)) ?_
      rintro e wo ⟨zB, rfl, _, co, uo⟩
      (try go_wp2_with fail)
      have s0o := turn_cellD uo (kc.get s0m) hbv
      have s1o := turn_cellD uo (kc.get s1m) hbv
      refine hK.out _ _ ?_ (fun hHeld => ?_)
      · (try dsimp only); exact ⟨s0o, s1o⟩
      clear hK K
      (try simp only [Act.put, List.setIfInBounds_toArray, List.set_cons_zero, List.set_cons_succ])
      have td := turn_thereD uo (turn_thereD (Turn.of_kp (S := fun _ => False) kc) (turn_thereD um (turn_thereD (Turn.of_kp (S := fun _ => False) ka) tW (fun h => h)) (by omega)) (fun h => h)) (by omega)
      have kd : Kp w wo := (((kW.trans ka).turn um (fun i hi => by omega)).trans kc).turn uo (fun i hi => by omega)
      have fd := (((fW.kp ka).turn um hpi).kp kc).turn uo hpi
      have tdm := td
      have HE := Lib.hid (drw_ret fd (by omega) td kd (Nat.le_refl _))
      refine wpAnyH_ready (rs := [7]) (by kernel_rfl) (by simp) ?_
      refine AllReadyH.cons rfl (fun K hK => ?_) AllReadyH.nil
      rw [if_pos (by rfl)]
      refine wp_store_mid 27 (.tmp 2) (.tmp 12) rfl w.heap.size 0 #[.slice A9 n9 c9, .slice B9 k9 d9] rfl rfl tdm (by kernel_rfl) (by simp [Value.oneCell']) ?_
      refine hK.out _ _ ?_ (fun hHeld => ?_)
      · (try dsimp only); exact ⟨turn_cellD HE.out.2.2.2.2 s0o (by show bv ≠ w.heap.size; omega), turn_cellD HE.out.2.2.2.2 s1o (by show bv ≠ w.heap.size; omega)⟩
      clear hK K
      (try simp only [Act.put, List.setIfInBounds_toArray, List.set_cons_zero, List.set_cons_succ])
      refine wpAnyH_take (i := 8) (v := ?_) rfl (by kernel_rfl) (by kernel_rfl) (by kernel_rfl) (fun _ _ _ h => h) (Or.inl ⟨by rfl, ?_⟩) (by assumption) ?_
      rotate_left
      · intro w hSw; (try dsimp only at hSw); go_simp <;> with_reducible rfl
      (try simp only [Act.put, List.setIfInBounds_toArray, List.set_cons_zero, List.set_cons_succ])
      refine wpAnyH_take (i := 9) (v := ?_) rfl (by kernel_rfl) (by kernel_rfl) (by kernel_rfl) (fun _ _ _ h => h) (Or.inl ⟨by rfl, ?_⟩) (by assumption) ?_
      rotate_left
      · intro w hSw; (try dsimp only at hSw); go_simp <;> with_reducible rfl
      (try simp only [Act.put, List.setIfInBounds_toArray, List.set_cons_zero, List.set_cons_succ])
      refine wpAnyH_done (by kernel_rfl) ?_ _
      go_wp2_with fail
      obtain ⟨z0, z1, z2, z3, z4⟩ := HE.out
      exact bodyPost_ret (v := .tuple #[.agg #[.slice A9 n9 c9, .slice B9 k9 d9], .int .i64 zA, .int .i64 zB]) (by simp [results, Tryz.results10, go_sem, z0, z1]) rfl ⟨_, _, _, rfl, z2, z3⟩
    · go_simp
      refine hK.out _ _ ?_ (fun hHeld => ?_)
      · (try dsimp only); exact ⟨kb.get (ka.get s0), kb.get (ka.get s1)⟩
      clear hK K
      (try simp only [Act.put, List.setIfInBounds_toArray, List.set_cons_zero, List.set_cons_succ])
      refine wpAnyH_ready (rs := [3]) (by kernel_rfl) (by simp) ?_
      refine AllReadyH.cons rfl (fun K hK => ?_) AllReadyH.nil
      go_simp
      with_reducible refine Calls.mono (among_any (w.heap.size + 1) _ (some ⟨(W.heap.size), 0, none⟩) [1, 2, 1, 3, 0] 5 5 _ ((cW.kp ka).kp kb) (by omega) (l1.kp kb) rfl (by omega) (by omega) (fun ad e => by cases e; show (W.heap.size) ≠ _; omega)) ?_
      rintro e wm ⟨zA, rfl, _, cm, um⟩
      (try go_wp2_with fail)
      have s0m := turn_cellD um (kb.get (ka.get s0)) hbv
      have s1m := turn_cellD um (kb.get (ka.get s1)) hbv
      refine hK.out _ _ ?_ (fun hHeld => ?_)
      · (try dsimp only); exact ⟨s0m, s1m⟩
      clear hK K
      (try simp only [Act.put, List.setIfInBounds_toArray, List.set_cons_zero, List.set_cons_succ])
      refine wpAnyH_ready (rs := [6]) (by kernel_rfl) (by simp) ?_
      refine AllReadyH.cons rfl (fun K hK => ?_) AllReadyH.nil
      go_simp
      with_reducible refine Calls.mono (among_any (w.heap.size + 1) _ (some ⟨(W.heap.size + 1), 0, none⟩) [1, 2, 1, 3, 0] 5 5 _ cm (by omega) (ints_low l2 um (by omega)) rfl (by omega) (by omega) (fun ad e => by cases e; show (W.heap.size + 1) ≠ _; omega)) ?_
      rintro e wo ⟨zB, rfl, _, co, uo⟩
      (try go_wp2_with fail)
      have s0o := turn_cellD uo s0m hbv
      have s1o := turn_cellD uo s1m hbv
      refine hK.out _ _ ?_ (fun hHeld => ?_)
      · (try dsimp only); exact ⟨s0o, s1o⟩
      clear hK K
      (try simp only [Act.put, List.setIfInBounds_toArray, List.set_cons_zero, List.set_cons_succ])
      have td := turn_thereD uo (turn_thereD um (turn_thereD (Turn.of_kp (S := fun _ => False) (ka.trans kb)) tW (fun h => h)) (by omega)) (by omega)
      have kd : Kp w wo := ((kW.trans (ka.trans kb)).turn um (fun i hi => by omega)).turn uo (fun i hi => by omega)
      have fd := ((fW.kp (ka.trans kb)).turn um hpi).turn uo hpi
      have tdm := td
      have HE := Lib.hid (drw_ret fd (by omega) td kd (Nat.le_refl _))
      refine wpAnyH_ready (rs := [7]) (by kernel_rfl) (by simp) ?_
      refine AllReadyH.cons rfl (fun K hK => ?_) AllReadyH.nil
      rw [if_pos (by rfl)]
      refine wp_store_mid 27 (.tmp 2) (.tmp 12) rfl w.heap.size 0 #[.slice A9 n9 c9, .slice B9 k9 d9] rfl rfl tdm (by kernel_rfl) (by simp [Value.oneCell']) ?_
      refine hK.out _ _ ?_ (fun hHeld => ?_)
      · (try dsimp only); exact ⟨turn_cellD HE.out.2.2.2.2 s0o (by show bv ≠ w.heap.size; omega), turn_cellD HE.out.2.2.2.2 s1o (by show bv ≠ w.heap.size; omega)⟩
      clear hK K
      (try simp only [Act.put, List.setIfInBounds_toArray, List.set_cons_zero, List.set_cons_succ])
      refine wpAnyH_take (i := 8) (v := ?_) rfl (by kernel_rfl) (by kernel_rfl) (by kernel_rfl) (fun _ _ _ h => h) (Or.inl ⟨by rfl, ?_⟩) (by assumption) ?_
      rotate_left
      · intro w hSw; (try dsimp only at hSw); go_simp <;> with_reducible rfl
      (try simp only [Act.put, List.setIfInBounds_toArray, List.set_cons_zero, List.set_cons_succ])
      refine wpAnyH_take (i := 9) (v := ?_) rfl (by kernel_rfl) (by kernel_rfl) (by kernel_rfl) (fun _ _ _ h => h) (Or.inl ⟨by rfl, ?_⟩) (by assumption) ?_
      rotate_left
      · intro w hSw; (try dsimp only at hSw); go_simp <;> with_reducible rfl
      (try simp only [Act.put, List.setIfInBounds_toArray, List.set_cons_zero, List.set_cons_succ])
      refine wpAnyH_done (by kernel_rfl) ?_ _
      go_wp2_with fail
      obtain ⟨z0, z1, z2, z3, z4⟩ := HE.out
      exact bodyPost_ret (v := .tuple #[.agg #[.slice A9 n9 c9, .slice B9 k9 d9], .int .i64 zA, .int .i64 zB]) (by simp [results, Tryz.results10, go_sem, z0, z1]) rfl ⟨_, _, _, rfl, z2, z3⟩
  · go_simp
    refine hK.out _ _ ?_ (fun hHeld => ?_)
    · (try dsimp only); exact ⟨ka.get s0, ka.get s1⟩
    clear hK K
    (try simp only [Act.put, List.setIfInBounds_toArray, List.set_cons_zero, List.set_cons_succ])
    refine wpAnyH_ready (rs := [2]) (by kernel_rfl) (by simp) ?_
    refine AllReadyH.cons rfl (fun K hK => ?_) AllReadyH.nil
    go_simp
    refine hK.out _ _ ?_ (fun hHeld => ?_)
    · (try dsimp only); exact ⟨kb.get (ka.get s0), kb.get (ka.get s1)⟩
    clear hK K
    (try simp only [Act.put, List.setIfInBounds_toArray, List.set_cons_zero, List.set_cons_succ])
    refine wpAnyH_ready (rs := [3]) (by kernel_rfl) (by simp) ?_
    refine AllReadyH.cons rfl (fun K hK => ?_) AllReadyH.nil
    go_simp
    with_reducible refine Calls.mono (among_any (w.heap.size + 1) _ (some ⟨(W.heap.size + 1), 0, none⟩) [1, 2, 1, 3, 0] 5 5 _ ((cW.kp ka).kp kb) (by omega) l2 rfl (by omega) (by omega) (fun ad e => by cases e; show (W.heap.size + 1) ≠ _; omega)) ?_
    rintro e wm ⟨zA, rfl, _, cm, um⟩
    (try go_wp2_with fail)
    have s0m := turn_cellD um (kb.get (ka.get s0)) hbv
    have s1m := turn_cellD um (kb.get (ka.get s1)) hbv
    refine hK.out _ _ ?_ (fun hHeld => ?_)
    · (try dsimp only); exact ⟨s0m, s1m⟩
    clear hK K
    (try simp only [Act.put, List.setIfInBounds_toArray, List.set_cons_zero, List.set_cons_succ])
    refine wpAnyH_ready (rs := [6]) (by kernel_rfl) (by simp) ?_
    refine AllReadyH.cons rfl (fun K hK => ?_) AllReadyH.nil
    go_simp
    with_reducible refine Calls.mono (among_any (w.heap.size + 1) _ (some ⟨(W.heap.size), 0, none⟩) [1, 2, 1, 3, 0] 5 5 _ cm (by omega) (ints_low (l1.kp kb) um (by omega)) rfl (by omega) (by omega) (fun ad e => by cases e; show (W.heap.size) ≠ _; omega)) ?_
    rintro e wo ⟨zB, rfl, _, co, uo⟩
    (try go_wp2_with fail)
    have s0o := turn_cellD uo s0m hbv
    have s1o := turn_cellD uo s1m hbv
    refine hK.out _ _ ?_ (fun hHeld => ?_)
    · (try dsimp only); exact ⟨s0o, s1o⟩
    clear hK K
    (try simp only [Act.put, List.setIfInBounds_toArray, List.set_cons_zero, List.set_cons_succ])
    have td := turn_thereD uo (turn_thereD um (turn_thereD (Turn.of_kp (S := fun _ => False) (ka.trans kb)) tW (fun h => h)) (by omega)) (by omega)
    have kd : Kp w wo := ((kW.trans (ka.trans kb)).turn um (fun i hi => by omega)).turn uo (fun i hi => by omega)
    have fd := ((fW.kp (ka.trans kb)).turn um hpi).turn uo hpi
    have tdm := td
    have HE := Lib.hid (drw_ret fd (by omega) td kd (Nat.le_refl _))
    refine wpAnyH_ready (rs := [7]) (by kernel_rfl) (by simp) ?_
    refine AllReadyH.cons rfl (fun K hK => ?_) AllReadyH.nil
    rw [if_pos (by rfl)]
    refine wp_store_mid 27 (.tmp 2) (.tmp 12) rfl w.heap.size 0 #[.slice A9 n9 c9, .slice B9 k9 d9] rfl rfl tdm (by kernel_rfl) (by simp [Value.oneCell']) ?_
    refine hK.out _ _ ?_ (fun hHeld => ?_)
    · (try dsimp only); exact ⟨turn_cellD HE.out.2.2.2.2 s0o (by show bv ≠ w.heap.size; omega), turn_cellD HE.out.2.2.2.2 s1o (by show bv ≠ w.heap.size; omega)⟩
    clear hK K
    (try simp only [Act.put, List.setIfInBounds_toArray, List.set_cons_zero, List.set_cons_succ])
    refine wpAnyH_take (i := 8) (v := ?_) rfl (by kernel_rfl) (by kernel_rfl) (by kernel_rfl) (fun _ _ _ h => h) (Or.inl ⟨by rfl, ?_⟩) (by assumption) ?_
    rotate_left
    · intro w hSw; (try dsimp only at hSw); go_simp <;> with_reducible rfl
    (try simp only [Act.put, List.setIfInBounds_toArray, List.set_cons_zero, List.set_cons_succ])
    refine wpAnyH_take (i := 9) (v := ?_) rfl (by kernel_rfl) (by kernel_rfl) (by kernel_rfl) (fun _ _ _ h => h) (Or.inl ⟨by rfl, ?_⟩) (by assumption) ?_
    rotate_left
    · intro w hSw; (try dsimp only at hSw); go_simp <;> with_reducible rfl
    (try simp only [Act.put, List.setIfInBounds_toArray, List.set_cons_zero, List.set_cons_succ])
    refine wpAnyH_done (by kernel_rfl) ?_ _
    go_wp2_with fail
    obtain ⟨z0, z1, z2, z3, z4⟩ := HE.out
    exact bodyPost_ret (v := .tuple #[.agg #[.slice A9 n9 c9, .slice B9 k9 d9], .int .i64 zA, .int .i64 zB]) (by simp [results, Tryz.results10, go_sem, z0, z1]) rfl ⟨_, _, _, rfl, z2, z3⟩
end Go.Proofs.YtblebedejddefaaGreat

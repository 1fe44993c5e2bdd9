/- The drawing of arguments for the law on firms: the play. No condition. -/
import Derived.Test.YtblebedejddefaaGreatQAw
namespace Go.Proofs.YtblebedejddefaaGreat
open Go.RowKit Go.Sort

theorem ints_lowW {S : Nat → Prop} {w w' : World} {g : Nat} {xs : List Int} (h : IntsAt w (some ⟨g, 0, none⟩) xs) (ht : Turn S w w') (hn : ¬ S g) : IntsAt w' (some ⟨g, 0, none⟩) xs := ints_turnD h ht (fun ad e => by cases e; exact hn)
theorem quo_cut {r : Int} (h0 : 0 ≤ r) (h1 : r < 24) : ∃ L : Nat, L ≤ 7 ∧ 5 ≤ L ∧ IntKind.i64.wrap (5 + IntKind.i64.wrap (r.tdiv 11)) = (L : Int) ∧ IntKind.i64.wrap (5 + r.tdiv 11) = (L : Int) := by
  have e : r.tdiv 11 = r / 11 := Int.tdiv_eq_ediv_of_nonneg h0
  rw [e, IntWalk.i64_in (r / 11) (by omega), IntWalk.i64_in (5 + r / 11) (by omega)]
  exact ⟨(5 + r / 11).toNat, by omega, by omega, by omega, by omega⟩
set_option maxRecDepth 100000 in
set_option maxHeartbeats 2000000 in
theorem drawFirmValue_any (A : Option Addr) (n c : Nat) (w : World) (hb : BytesAt w A n) :
    Calls Tryz.prog 23 #[.slice A n c] w (FvPost w) := by
  have t0 := there_newD w [.slice none 0 0, .slice none 0 0] 27
  simp only [List.length_cons, List.length_nil, Nat.zero_add, Nat.reduceAdd] at t0
  have k1 : Kp w (w.alloc (.cells #[.slice none 0 0, .slice none 0 0] 27)) := (Kp.refl w).alloc _
  have k2 : Kp _ ((w.alloc (.cells #[.slice none 0 0, .slice none 0 0] 27)).alloc (.cells #[.slice A n c, .int .i64 0, .int .u64 0] 56)) := (Kp.refl _).alloc _
  have cu := cur_new (c := c) (t := 56) (hb.kp k1)
  have ta := turn_thereD (Turn.of_kp (S := fun _ => False) k2) t0 (fun h => h)
  have hz : Hid (((w.alloc (.cells #[.slice none 0 0, .slice none 0 0] 27)).alloc (.cells #[.slice A n c, .int .i64 0, .int .u64 0] 56)).heap.size = w.heap.size + 2) := by show _ = _; simp
  have k0 := k1.trans k2
  rw [World.size_alloc] at cu
  have CF := Lib.hid (fieldOf_any (w.heap.size + 1) 0 6 _ cu (by omega) (by omega))
  clear k1 k2 t0
  go_enter Tryz.func23, Tryz.ntmps23
  go_wp2_with fail
  generalize (w.alloc (.cells #[.slice none 0 0, .slice none 0 0] 27)).alloc (.cells #[.slice A n c, .int .i64 0, .int .u64 0] 56) = wa at *
  with_reducible refine Calls.mono CF.out ?_
  rintro e w1 ⟨v, rfl, hv, c1, u1⟩
  clear CF
  rw [hz.out] at hv
  obtain ⟨A9, n9, c9, B9, k9, d9, rfl, hn9⟩ := hv.shape
  have kv : Kp w1 (w1.alloc (.cells #[.slice A9 n9 c9, .slice B9 k9 d9] 27)) := (Kp.refl w1).alloc _
  obtain ⟨d0, d1⟩ := box2 w1 (.slice A9 n9 c9) (.slice B9 k9 d9) 27
  have hvb : w.heap.size + 2 ≤ w1.heap.size := by have := u1.size; rw [hz.out] at this; exact this
  have tv := turn_thereD (Turn.of_kp (S := fun _ => False) kv) (turn_thereD u1 ta (by omega)) (fun h => h)
  have kk : Kp w (w1.alloc (.cells #[.slice A9 n9 c9, .slice B9 k9 d9] 27)) := (k0.turn u1 (fun i hi => by omega)).trans kv
  have hfv := hv.kp kv
  have cv := c1.kp kv
  have HWB : Hid ((w1.alloc (.cells #[.slice A9 n9 c9, .slice B9 k9 d9] 27)).heap.size = w1.heap.size + 1) := by show _ = _; simp
  clear hv c1 u1 ta k0 cu hz
  go_wp2_with fail
  generalize w1.alloc (.cells #[.slice A9 n9 c9, .slice B9 k9 d9] 27) = wr at *
  generalize w1.heap.size = bv at *
  have hbv : bv ≠ w.heap.size + 1 := by omega
  have hqs : w.heap.size + 2 ≤ wr.heap.size := by have := HWB.out; omega
  have hpi : ∀ i, w.heap.size + 2 ≤ i → ¬ i = w.heap.size + 1 := fun i hi => by omega
  have kdr : Kp wr wr.drew := (Kp.refl wr).drew
  have s0 := kdr.get d0
  have s1 := kdr.get d1
  obtain ⟨W, hW⟩ : ∃ W, W = wr.drew := ⟨_, rfl⟩
  have hWs : w.heap.size + 2 ≤ W.heap.size := by rw [hW]; exact hqs
  have cW := cv.kp kdr
  have tW := turn_thereD (Turn.of_kp (S := fun _ => False) kdr) tv (fun h => h)
  have kW := kk.trans kdr
  have fW := hfv.kp kdr
  refine wp_region_held_drew (S := fun w' => w'.cell? ⟨bv, 0, none⟩ = some (.slice A9 n9 c9) ∧ w'.cell? ⟨bv, 1, none⟩ = some (.slice B9 k9 d9)) (by kernel_rfl) ⟨s0, s1⟩ (fun hHeld => ?_)
  rw [← hW] at s0 s1 cW tW kW fW hHeld ⊢
  clear hW kdr d0 d1 tv kk hfv cv hqs
  have l1 := lit_intsD W [1, 1, 2, 2, 3, 0, 4] (by decide)
  simp only [List.map_cons, List.map_nil] at l1
  have ka : Kp W (W.alloc (.cells #[.int .i64 1, .int .i64 1, .int .i64 2, .int .i64 2, .int .i64 3, .int .i64 0, .int .i64 4] 3)) := (Kp.refl W).alloc _
  refine wpAnyH_take (i := 0) (v := ?_) rfl (by kernel_rfl) (by kernel_rfl) (by kernel_rfl) (fun _ _ _ h => h) (Or.inl ⟨by rfl, ?_⟩) (by assumption) ?_
  rotate_left
  · intro w hSw; (try dsimp only at hSw); go_simp <;> with_reducible rfl
  (try simp only [Act.put, List.setIfInBounds_toArray, List.set_cons_zero, List.set_cons_succ])
  refine wpAnyH_take (i := 1) (v := ?_) rfl (by kernel_rfl) (by kernel_rfl) (by kernel_rfl) (fun _ _ _ h => h) (Or.inl ⟨by rfl, ?_⟩) (by assumption) ?_
  rotate_left
  · intro w hSw; (try dsimp only at hSw); go_simp <;> with_reducible rfl
  (try simp only [Act.put, List.setIfInBounds_toArray, List.set_cons_zero, List.set_cons_succ])
  refine wpAnyH_take (i := 3) (v := ?_) rfl (by kernel_rfl) (by kernel_rfl) (by kernel_rfl) (fun _ _ _ h => h) (Or.inl ⟨by rfl, ?_⟩) (by assumption) ?_
  rotate_left
  · intro w hSw; (try dsimp only at hSw); go_simp <;> with_reducible rfl
  (try simp only [Act.put, List.setIfInBounds_toArray, List.set_cons_zero, List.set_cons_succ])
  refine wpAnyH_ready (rs := [2, 4]) (by kernel_rfl) (by simp) ?_
  refine AllReadyH.cons rfl (fun K hK => ?_) (AllReadyH.cons rfl (fun K hK => ?_) AllReadyH.nil)
  · go_simp
    refine hK.out _ _ ?_ (fun hHeld => ?_)
    · (try dsimp only); exact ⟨ka.get s0, ka.get s1⟩
    clear hK K
    (try simp only [Act.put, List.setIfInBounds_toArray, List.set_cons_zero, List.set_cons_succ])
    have CP := Lib.hid (pick_any (w.heap.size + 1) _ 24 _ (cW.kp ka) (by omega) (by omega))
    refine wpAnyH_ready (rs := [4]) (by kernel_rfl) (by simp) ?_
    refine AllReadyH.cons rfl (fun K hK => ?_) AllReadyH.nil
    go_simp
    with_reducible refine Calls.mono CP.out ?_
    rintro e wm ⟨r, rfl, hr, cm, um⟩
    clear CP
    (try go_wp2_with fail)
    have s0m := turn_cellD um (ka.get s0) hbv
    have s1m := turn_cellD um (ka.get s1) hbv
    refine hK.out _ _ ?_ (fun hHeld => ?_)
    · (try dsimp only); exact ⟨s0m, s1m⟩
    clear hK K
    (try simp only [Act.put, List.setIfInBounds_toArray, List.set_cons_zero, List.set_cons_succ])
    obtain ⟨q, hq7, hq5, hqw, hqv⟩ := quo_cut hr.1 (hr.2.2 (by omega))
    have hqI : (q : Int) ≤ 7 := by omega
    refine wpAnyH_take (i := 5) (v := ?_) rfl (by kernel_rfl) (by kernel_rfl) (by kernel_rfl) (fun _ _ _ h => h) (Or.inl ⟨by rfl, ?_⟩) (by assumption) ?_
    rotate_left
    · intro w hSw; (try dsimp only at hSw); go_simp <;> with_reducible rfl
    (try simp only [Act.put, List.setIfInBounds_toArray, List.set_cons_zero, List.set_cons_succ])
    refine wpAnyH_take (i := 6) (v := ?_) rfl (by kernel_rfl) (by kernel_rfl) (by kernel_rfl) (fun _ _ _ h => h) (Or.inl ⟨by rfl, ?_⟩) (by assumption) ?_
    rotate_left
    · intro w hSw; (try dsimp only at hSw); go_simp <;> with_reducible rfl
    (try simp only [Act.put, List.setIfInBounds_toArray, List.set_cons_zero, List.set_cons_succ])
    have tm := turn_thereD um (turn_thereD (Turn.of_kp (S := fun _ => False) ka) tW (fun h => h)) (by omega)
    have km : Kp w wm := (kW.trans ka).turn um (fun i hi => by omega)
    have fm := (fW.kp ka).turn um hpi
    refine wpAnyH_take (i := 7) (v := ?_) rfl (by kernel_rfl) (by kernel_rfl) (by kernel_rfl) (fun _ _ _ h => h) (Or.inl ⟨by rfl, ?_⟩) (by assumption) ?_
    rotate_left
    · intro w hSw; (try dsimp only at hSw); go_simp <;> with_reducible rfl
    (try simp only [Act.put, List.setIfInBounds_toArray, List.set_cons_zero, List.set_cons_succ])
    refine wpAnyH_ready (rs := [8]) (by kernel_rfl) (by simp) ?_
    refine AllReadyH.cons rfl (fun K hK => ?_) AllReadyH.nil
    go_simp
    with_reducible refine Calls.mono (among_any (w.heap.size + 1) _ (some ⟨(W.heap.size), 0, none⟩) ([1, 1, 2, 2, 3, 0, 4].take q) q 7 _ cm (by omega) (ints_takeT (ints_lowW l1 um (by omega)) (by simp; omega)) (by simp; omega) (by omega) (by omega) (fun ad e => by cases e; show (W.heap.size) ≠ _; omega)) ?_
    rintro e wo ⟨z, rfl, _, co, uo⟩
    (try go_wp2_with fail)
    have s0o := turn_cellD uo s0m hbv
    have s1o := turn_cellD uo s1m hbv
    refine hK.out _ _ ?_ (fun hHeld => ?_)
    · (try dsimp only); exact ⟨s0o, s1o⟩
    clear hK K
    (try simp only [Act.put, List.setIfInBounds_toArray, List.set_cons_zero, List.set_cons_succ])
    have td := turn_thereD uo tm (by omega)
    have kd : Kp w wo := Kp.turn km uo (fun i hi => by omega)
    have fd := DFld.turn fm uo hpi
    have HE := Lib.hid (drw_ret fd (by omega) td kd (Nat.le_refl _))
    refine wpAnyH_ready (rs := [9]) (by kernel_rfl) (by simp) ?_
    refine AllReadyH.cons rfl (fun K hK => ?_) AllReadyH.nil
    rw [if_pos (by rfl)]
    refine wp_store_mid 27 (.tmp 2) (.tmp 11) rfl w.heap.size 0 #[.slice A9 n9 c9, .slice B9 k9 d9] rfl rfl td (by kernel_rfl) (by simp [Value.oneCell']) ?_
    refine hK.out _ _ ?_ (fun hHeld => ?_)
    · (try dsimp only); exact ⟨turn_cellD HE.out.2.2.2.2 s0o (by show bv ≠ w.heap.size; omega), turn_cellD HE.out.2.2.2.2 s1o (by show bv ≠ w.heap.size; omega)⟩
    clear hK K
    (try simp only [Act.put, List.setIfInBounds_toArray, List.set_cons_zero, List.set_cons_succ])
    refine wpAnyH_take (i := 10) (v := ?_) rfl (by kernel_rfl) (by kernel_rfl) (by kernel_rfl) (fun _ _ _ h => h) (Or.inl ⟨by rfl, ?_⟩) (by assumption) ?_
    rotate_left
    · intro w hSw; (try dsimp only at hSw); go_simp <;> with_reducible rfl
    (try simp only [Act.put, List.setIfInBounds_toArray, List.set_cons_zero, List.set_cons_succ])
    refine wpAnyH_done (by kernel_rfl) ?_ _
    go_wp2_with fail
    obtain ⟨z0, z1, z2, z3, z4⟩ := HE.out
    exact bodyPost_ret (v := .tuple #[.agg #[.slice A9 n9 c9, .slice B9 k9 d9], .int .i64 z]) (by simp [results, Tryz.results23, go_sem, z0, z1]) rfl ⟨_, _, rfl, z2, z3⟩
  · have CP := Lib.hid (pick_any (w.heap.size + 1) _ 24 _ cW (by omega) (by omega))
    go_simp
    with_reducible refine Calls.mono CP.out ?_
    rintro e wm ⟨r, rfl, hr, cm, um⟩
    clear CP
    (try go_wp2_with fail)
    have s0m := turn_cellD um s0 hbv
    have s1m := turn_cellD um s1 hbv
    refine hK.out _ _ ?_ (fun hHeld => ?_)
    · (try dsimp only); exact ⟨s0m, s1m⟩
    clear hK K
    (try simp only [Act.put, List.setIfInBounds_toArray, List.set_cons_zero, List.set_cons_succ])
    obtain ⟨q, hq7, hq5, hqw, hqv⟩ := quo_cut hr.1 (hr.2.2 (by omega))
    have hqI : (q : Int) ≤ 7 := by omega
    refine wpAnyH_take (i := 5) (v := ?_) rfl (by kernel_rfl) (by kernel_rfl) (by kernel_rfl) (fun _ _ _ h => h) (Or.inl ⟨by rfl, ?_⟩) (by assumption) ?_
    rotate_left
    · intro w hSw; (try dsimp only at hSw); go_simp <;> with_reducible rfl
    (try simp only [Act.put, List.setIfInBounds_toArray, List.set_cons_zero, List.set_cons_succ])
    refine wpAnyH_take (i := 6) (v := ?_) rfl (by kernel_rfl) (by kernel_rfl) (by kernel_rfl) (fun _ _ _ h => h) (Or.inl ⟨by rfl, ?_⟩) (by assumption) ?_
    rotate_left
    · intro w hSw; (try dsimp only at hSw); go_simp <;> with_reducible rfl
    (try simp only [Act.put, List.setIfInBounds_toArray, List.set_cons_zero, List.set_cons_succ])
    have hms : W.heap.size ≤ wm.heap.size := um.size
    have l3 := lit_intsD wm [1, 1, 2, 2, 3, 0, 4] (by decide)
    simp only [List.map_cons, List.map_nil] at l3
    have kc : Kp wm (wm.alloc (.cells #[.int .i64 1, .int .i64 1, .int .i64 2, .int .i64 2, .int .i64 3, .int .i64 0, .int .i64 4] 3)) := (Kp.refl wm).alloc _
    refine wpAnyH_ready (rs := [2]) (by kernel_rfl) (by simp) ?_
    refine AllReadyH.cons rfl (fun K hK => ?_) AllReadyH.nil
    go_simp
    refine hK.out _ _ ?_ (fun hHeld => ?_)
    · (try dsimp only); exact ⟨kc.get s0m, kc.get s1m⟩
    clear hK K
    (try simp only [Act.put, List.setIfInBounds_toArray, List.set_cons_zero, List.set_cons_succ])
    have s0n := kc.get s0m
    have s1n := kc.get s1m
    have tm := turn_thereD (Turn.of_kp (S := fun _ => False) kc) (turn_thereD um tW (by omega)) (fun h => h)
    have km : Kp w _ := (kW.turn um (fun i hi => by omega)).trans kc
    have fm := (fW.turn um hpi).kp kc
    refine wpAnyH_take (i := 7) (v := ?_) rfl (by kernel_rfl) (by kernel_rfl) (by kernel_rfl) (fun _ _ _ h => h) (Or.inl ⟨by rfl, ?_⟩) (by assumption) ?_
    rotate_left
    · intro w hSw; (try dsimp only at hSw); go_simp <;> with_reducible rfl
    (try simp only [Act.put, List.setIfInBounds_toArray, List.set_cons_zero, List.set_cons_succ])
    refine wpAnyH_ready (rs := [8]) (by kernel_rfl) (by simp) ?_
    refine AllReadyH.cons rfl (fun K hK => ?_) AllReadyH.nil
    go_simp
    with_reducible refine Calls.mono (among_any (w.heap.size + 1) _ (some ⟨(wm.heap.size), 0, none⟩) ([1, 1, 2, 2, 3, 0, 4].take q) q 7 _ (cm.kp kc) (by omega) (ints_takeT l3 (by simp; omega)) (by simp; omega) (by omega) (by omega) (fun ad e => by cases e; show (wm.heap.size) ≠ _; omega)) ?_
    rintro e wo ⟨z, rfl, _, co, uo⟩
    (try go_wp2_with fail)
    have s0o := turn_cellD uo s0n hbv
    have s1o := turn_cellD uo s1n hbv
    refine hK.out _ _ ?_ (fun hHeld => ?_)
    · (try dsimp only); exact ⟨s0o, s1o⟩
    clear hK K
    (try simp only [Act.put, List.setIfInBounds_toArray, List.set_cons_zero, List.set_cons_succ])
    have td := turn_thereD uo tm (by omega)
    have kd : Kp w wo := Kp.turn km uo (fun i hi => by omega)
    have fd := DFld.turn fm uo hpi
    have HE := Lib.hid (drw_ret fd (by omega) td kd (Nat.le_refl _))
    refine wpAnyH_ready (rs := [9]) (by kernel_rfl) (by simp) ?_
    refine AllReadyH.cons rfl (fun K hK => ?_) AllReadyH.nil
    rw [if_pos (by rfl)]
    refine wp_store_mid 27 (.tmp 2) (.tmp 11) rfl w.heap.size 0 #[.slice A9 n9 c9, .slice B9 k9 d9] rfl rfl td (by kernel_rfl) (by simp [Value.oneCell']) ?_
    refine hK.out _ _ ?_ (fun hHeld => ?_)
    · (try dsimp only); exact ⟨turn_cellD HE.out.2.2.2.2 s0o (by show bv ≠ w.heap.size; omega), turn_cellD HE.out.2.2.2.2 s1o (by show bv ≠ w.heap.size; omega)⟩
    clear hK K
    (try simp only [Act.put, List.setIfInBounds_toArray, List.set_cons_zero, List.set_cons_succ])
    refine wpAnyH_take (i := 10) (v := ?_) rfl (by kernel_rfl) (by kernel_rfl) (by kernel_rfl) (fun _ _ _ h => h) (Or.inl ⟨by rfl, ?_⟩) (by assumption) ?_
    rotate_left
    · intro w hSw; (try dsimp only at hSw); go_simp <;> with_reducible rfl
    (try simp only [Act.put, List.setIfInBounds_toArray, List.set_cons_zero, List.set_cons_succ])
    refine wpAnyH_done (by kernel_rfl) ?_ _
    go_wp2_with fail
    obtain ⟨z0, z1, z2, z3, z4⟩ := HE.out
    exact bodyPost_ret (v := .tuple #[.agg #[.slice A9 n9 c9, .slice B9 k9 d9], .int .i64 z]) (by simp [results, Tryz.results23, go_sem, z0, z1]) rfl ⟨_, _, rfl, z2, z3⟩
set_option maxRecDepth 100000 in
set_option maxHeartbeats 1000000 in
theorem drawFirmPlay_any (A : Option Addr) (n c : Nat) (w : World) (hb : BytesAt w A n) :
    Calls Tryz.prog 5 #[.slice A n c] w (FvPost w) := by
  have t0 := there_newD w [.slice none 0 0, .slice none 0 0] 27
  simp only [List.length_cons, List.length_nil, Nat.zero_add, Nat.reduceAdd] at t0
  have k1 : Kp w (w.alloc (.cells #[.slice none 0 0, .slice none 0 0] 27)) := (Kp.refl w).alloc _
  have hz : Hid ((w.alloc (.cells #[.slice none 0 0, .slice none 0 0] 27)).heap.size = w.heap.size + 1) := by show _ = _; simp
  have CF := Lib.hid (drawFirmValue_any A n c _ (hb.kp k1))
  go_enter Tryz.func5, Tryz.ntmps5
  go_wp2_with fail
  generalize w.alloc (.cells #[.slice none 0 0, .slice none 0 0] 27) = wa at *
  with_reducible refine Calls.mono CF.out ?_
  rintro e w1 ⟨v, r, rfl, hv, hk1⟩
  clear CF
  rw [hz.out] at hv
  have t2 := turn_thereD (Turn.of_kp (S := fun _ => False) hk1) t0 (fun h => h)
  have kk : Kp w w1 := k1.trans hk1
  obtain ⟨A9, n9, c9, B9, k9, d9, rfl, _⟩ := hv.shape
  have HE := Lib.hid (drw_ret hv (by omega) t2 kk (Nat.le_refl _))
  go_wp2_with (first | (refine wpList_store_mid rfl 27 (.tmp 2) (.tmp 6) rfl w.heap.size 0 #[.slice A9 n9 c9, .slice B9 k9 d9] rfl rfl t2 (by kernel_rfl) (by simp [Value.oneCell']) ?_) | fail)
  obtain ⟨z0, z1, z2, z3, _⟩ := HE.out
  exact bodyPost_ret (v := .tuple #[.agg #[.slice A9 n9 c9, .slice B9 k9 d9], .int .i64 r]) (by simp [results, Tryz.results5, go_sem, z0, z1]) rfl ⟨_, _, rfl, z2, z3⟩
end Go.Proofs.YtblebedejddefaaGreat

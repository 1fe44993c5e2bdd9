/- The drawing of arguments for the law on votes. No condition. -/
import Derived.Test.YtcccmndkolmboaaQAo
import Derived.Test.YtcccmndkolmboaaQAp
import Derived.Test.YtcccmndkolmboaaQAs
namespace Go.Proofs.Ytcccmndkolmboaa
open Go.RowKit Go.Sort

def TdPost (w : World) (e : Ending) (w' : World) : Prop := ∃ pv lv, e = .returned (.tuple #[pv, lv]) ∧ DInts w' w.heap.size pv ∧ DInts w' w.heap.size lv ∧ Kp w w'
set_option maxRecDepth 100000 in
set_option maxHeartbeats 1000000 in
theorem drawTreeField_any (A : Option Addr) (n c : Nat) (w : World) (hb : BytesAt w A n) :
    Calls Try.prog 14 #[.slice A n c] w (TdPost w) := by
  have k0 : Kp w (w.alloc (.cells #[.slice A n c, .int .i64 0, .int .u64 0] 46)) := (Kp.refl _).alloc _
  have cu := cur_new (c := c) (t := 46) hb
  have hz : (w.alloc (.cells #[.slice A n c, .int .i64 0, .int .u64 0] 46)).heap.size = w.heap.size + 1 := by simp
  have CF := Lib.hid (tree_any w.heap.size 0 _ cu (by omega))
  go_enter Try.func14, Try.ntmps14
  go_wp2_with fail
  generalize w.alloc (.cells #[.slice A n c, .int .i64 0, .int .u64 0] 46) = wa at *
  with_reducible refine Calls.mono CF.out ?_
  rintro e w1 ⟨pv, lv, rfl, h1, h2, c1, u1⟩
  clear CF
  rw [hz] at h1 h2
  go_wp2_with fail
  go_ret2
  exact ⟨_, _, rfl, h1.mono (by omega), h2.mono (by omega), k0.turn u1 (fun i hi => by omega)⟩
def DuPost (w : World) (e : Ending) (w' : World) : Prop := ∃ v, e = .returned v ∧ DFld w' w.heap.size v ∧ Kp w w'
theorem DInts.open {w : World} {b : Nat} {v : Value} (h : DInts w b v) : ∃ A c L xs, v = .slice A L c ∧ IntsAt w A xs ∧ Hid (xs.length = L) ∧ L ≤ 200 ∧ L ≤ c := by
  obtain ⟨A, c, xs, e, hi, h1, h2⟩ := h.ints
  exact ⟨A, c, xs.length, xs, e, hi, Lib.hid rfl, h1, h2⟩
set_option maxRecDepth 100000 in
set_option maxHeartbeats 2000000 in
theorem drawUnb_any (A : Option Addr) (n c : Nat) (w : World) (hb : BytesAt w A n) :
    Calls Try.prog 5 #[.slice A n c] w (DuPost w) := by
  have t0 := there_newD w [.slice none 0 0, .slice none 0 0] 27
  simp only [List.length_cons, List.length_nil, Nat.zero_add, Nat.reduceAdd] at t0
  have k1 : Kp w (w.alloc (.cells #[.slice none 0 0, .slice none 0 0] 27)) := (Kp.refl w).alloc _
  have k2 : Kp _ ((w.alloc (.cells #[.slice none 0 0, .slice none 0 0] 27)).alloc (.cells #[.slice A n c, .int .i64 0, .int .u64 0] 46)) := (Kp.refl _).alloc _
  have cu := cur_new (c := c) (t := 46) (hb.kp k1)
  have ta := turn_thereD (Turn.of_kp (S := fun _ => False) k2) t0 (fun h => h)
  have hz : Hid (((w.alloc (.cells #[.slice none 0 0, .slice none 0 0] 27)).alloc (.cells #[.slice A n c, .int .i64 0, .int .u64 0] 46)).heap.size = w.heap.size + 2) := by show _ = _; simp
  have k0 := k1.trans k2
  rw [World.size_alloc] at cu
  have CF := Lib.hid (tree_any (w.heap.size + 1) 0 _ cu (by omega))
  clear k1 k2 t0
  go_enter Try.func5, Try.ntmps5
  go_wp2_with fail
  generalize (w.alloc (.cells #[.slice none 0 0, .slice none 0 0] 27)).alloc (.cells #[.slice A n c, .int .i64 0, .int .u64 0] 46) = wa at *
  with_reducible refine Calls.mono CF.out ?_
  rintro e w1 ⟨pv, lv, rfl, h1, h2, c1, u1⟩
  clear CF
  have hs1 : w.heap.size + 2 ≤ w1.heap.size := by have := u1.size; rw [hz.out] at this; exact this
  have tb := turn_thereD u1 ta (by omega)
  have kb : Kp w w1 := k0.turn u1 (fun i hi => by omega)
  obtain ⟨A1, a1, L1, ps, rfl, i1, HL1, _, _⟩ := h1.open
  obtain ⟨A2, a2, L2, ls, rfl, i2, HL2, _, _⟩ := h2.open
  clear h1 h2 u1 ta k0 cu hz
  have CF := Lib.hid (treeFieldS_any A1 ps L1 a1 A2 ls L2 a2 w1 i1 HL1.out i2 HL2.out)
  clear i1 i2 HL1 HL2
  go_wp2_with fail
  with_reducible refine Calls.mono CF.out ?_
  rintro e w2 ⟨v, b, rfl, hv, hk2⟩
  clear CF
  obtain ⟨A9, n9, c9, B9, k9, d9, rfl, hn9⟩ := hv.shape
  have kv : Kp w2 (w2.alloc (.cells #[.slice A9 n9 c9, .slice B9 k9 d9] 27)) := (Kp.refl w2).alloc _
  obtain ⟨d0, d1⟩ := box2 w2 (.slice A9 n9 c9) (.slice B9 k9 d9) 27
  have hs2 : w.heap.size + 2 ≤ w2.heap.size := Nat.le_trans hs1 hk2.le
  have k23 := hk2.trans kv
  have td := turn_thereD (Turn.of_kp (S := fun _ => False) k23) tb (fun h => h)
  have kd := kb.trans k23
  have hvd := (hv.mono hs1).kp kv
  have cd := c1.kp k23
  have hs3 : w.heap.size + 2 ≤ (w2.alloc (.cells #[.slice A9 n9 c9, .slice B9 k9 d9] 27)).heap.size := by simp; omega
  clear hv tb kb c1 hk2 kv k23
  cases b
  · go_wp2_with fail
    generalize w2.alloc (.cells #[.slice A9 n9 c9, .slice B9 k9 d9] 27) = w3 at *
    have CP := Lib.hid (field_any (w.heap.size + 1) _ w3 cd (by omega))
    go_wp2_with fail
    with_reducible refine Calls.mono CP.out ?_
    rintro e w5 ⟨v5, rfl, hv5, c5, u5⟩
    clear CP
    obtain ⟨A8, n8, c8, B8, k8, d8, rfl, _⟩ := hv5.shape
    have t5 := turn_thereD u5 td (by omega)
    have k5 := (kd).turn u5 (fun i hi => by omega)
    have HE := Lib.hid (drw_ret hv5 (by have := (kd).le; have := hs3; omega) t5 k5 (Nat.le_refl _))
    go_wp2_with (first | (refine wpList_store_mid rfl 27 (.tmp 2) (.tmp 29) rfl w.heap.size 0 #[.slice A8 n8 c8, .slice B8 k8 d8] rfl rfl t5 (by kernel_rfl) (by simp [Value.oneCell']) ?_) | fail)
    obtain ⟨z0, z1, z2, z3, _⟩ := HE.out
    exact bodyPost_ret (v := .agg #[.slice A8 n8 c8, .slice B8 k8 d8]) (by simp [results, Try.results5, go_sem, z0, z1]) rfl ⟨_, rfl, z2, z3⟩
  · have CP := Lib.hid (one_any (w.heap.size + 1) _ 2 _ cd (by omega) (by omega))
    go_wp2_with fail
    generalize w2.alloc (.cells #[.slice A9 n9 c9, .slice B9 k9 d9] 27) = w3 at *
    generalize w2.heap.size = bv at *
    with_reducible refine Calls.mono CP.out ?_
    rintro e w4 ⟨b2, rfl, c4, u4⟩
    clear CP
    have t4 := turn_thereD u4 td (by omega)
    have k4 := kd.turn u4 (fun i hi => by omega)
    have hs4 : w.heap.size + 2 ≤ w4.heap.size := Nat.le_trans hs3 u4.size
    cases b2
    · clear d0 d1
      have CP := Lib.hid (field_any (w.heap.size + 1) _ w4 c4 (by omega))
      go_wp2_with fail
      with_reducible refine Calls.mono CP.out ?_
      rintro e w5 ⟨v5, rfl, hv5, c5, u5⟩
      clear CP
      obtain ⟨A8, n8, c8, B8, k8, d8, rfl, _⟩ := hv5.shape
      have t5 := turn_thereD u5 t4 (by omega)
      have k5 := (k4).turn u5 (fun i hi => by omega)
      have HE := Lib.hid (drw_ret hv5 (by have := (k4).le; have := hs4; omega) t5 k5 (Nat.le_refl _))
      go_wp2_with (first | (refine wpList_store_mid rfl 27 (.tmp 2) (.tmp 29) rfl w.heap.size 0 #[.slice A8 n8 c8, .slice B8 k8 d8] rfl rfl t5 (by kernel_rfl) (by simp [Value.oneCell']) ?_) | fail)
      obtain ⟨z0, z1, z2, z3, _⟩ := HE.out
      exact bodyPost_ret (v := .agg #[.slice A8 n8 c8, .slice B8 k8 d8]) (by simp [results, Try.results5, go_sem, z0, z1]) rfl ⟨_, rfl, z2, z3⟩
    · have e0 := turn_cellD u4 d0 (by show bv ≠ w.heap.size + 1; omega)
      have e1 := turn_cellD u4 d1 (by show bv ≠ w.heap.size + 1; omega)
      have hv4 := hvd.turn u4 (fun i hi => by omega)
      have HE := Lib.hid (drw_ret hv4 (by omega) t4 k4 (Nat.le_refl _))
      go_wp2_with (first | (refine wpList_store_mid rfl 27 (.tmp 2) (.tmp 27) rfl w.heap.size 0 #[.slice A9 n9 c9, .slice B9 k9 d9] rfl rfl t4 (by kernel_rfl) (by simp [Value.oneCell']) ?_) | fail)
      obtain ⟨z0, z1, z2, z3, _⟩ := HE.out
      exact bodyPost_ret (v := .agg #[.slice A9 n9 c9, .slice B9 k9 d9]) (by simp [results, Try.results5, go_sem, z0, z1]) rfl ⟨_, rfl, z2, z3⟩
def DvPost (w : World) (e : Ending) (w' : World) : Prop := ∃ v a b, e = .returned (.tuple #[v, .int .i64 a, .int .i64 b]) ∧ DFld w' w.heap.size v ∧ Kp w w'
set_option maxRecDepth 100000 in
set_option maxHeartbeats 2000000 in
theorem drawVotesOf_any (A : Option Addr) (n c : Nat) (w : World) (hb : BytesAt w A n) :
    Calls Try.prog 8 #[.slice A n c] w (DvPost w) := by
  have t0 := there_newD w [.slice none 0 0, .slice none 0 0] 27
  simp only [List.length_cons, List.length_nil, Nat.zero_add, Nat.reduceAdd] at t0
  have k1 : Kp w (w.alloc (.cells #[.slice none 0 0, .slice none 0 0] 27)) := (Kp.refl w).alloc _
  have k2 : Kp _ ((w.alloc (.cells #[.slice none 0 0, .slice none 0 0] 27)).alloc (.cells #[.slice A n c, .int .i64 0, .int .u64 0] 46)) := (Kp.refl _).alloc _
  have cu := cur_new (c := c) (t := 46) (hb.kp k1)
  have ta := turn_thereD (Turn.of_kp (S := fun _ => False) k2) t0 (fun h => h)
  have hz : Hid (((w.alloc (.cells #[.slice none 0 0, .slice none 0 0] 27)).alloc (.cells #[.slice A n c, .int .i64 0, .int .u64 0] 46)).heap.size = w.heap.size + 2) := by show _ = _; simp
  have k0 := k1.trans k2
  rw [World.size_alloc] at cu
  have CF := Lib.hid (field_any (w.heap.size + 1) 0 _ cu (by omega))
  clear k1 k2 t0
  go_enter Try.func8, Try.ntmps8
  go_wp2_with fail
  generalize (w.alloc (.cells #[.slice none 0 0, .slice none 0 0] 27)).alloc (.cells #[.slice A n c, .int .i64 0, .int .u64 0] 46) = wa at *
  with_reducible refine Calls.mono CF.out ?_
  rintro e w1 ⟨v, rfl, hv, c1, u1⟩
  clear CF
  rw [hz.out] at hv
  obtain ⟨A9, n9, c9, B9, k9, d9, rfl, hn9⟩ := hv.shape
  have kv : Kp w1 (w1.alloc (.cells #[.slice A9 n9 c9, .slice B9 k9 d9] 27)) := (Kp.refl w1).alloc _
  obtain ⟨d0, d1⟩ := box2 w1 (.slice A9 n9 c9) (.slice B9 k9 d9) 27
  have hvb : w.heap.size + 2 ≤ w1.heap.size := by have := u1.size; rw [hz.out] at this; exact this
  have tv := turn_thereD (Turn.of_kp (S := fun _ => False) kv) (turn_thereD u1 ta (by omega)) (fun h => h)
  have kk : Kp w (w1.alloc (.cells #[.slice A9 n9 c9, .slice B9 k9 d9] 27)) := (k0.turn u1 (fun i hi => by omega)).trans kv
  have hfv := hv.kp kv
  have cv := c1.kp kv
  have HWB : Hid ((w1.alloc (.cells #[.slice A9 n9 c9, .slice B9 k9 d9] 27)).heap.size = w1.heap.size + 1) := by show _ = _; simp
  clear hv c1 u1 ta k0 cu hz
  go_wp2_with fail
  generalize w1.alloc (.cells #[.slice A9 n9 c9, .slice B9 k9 d9] 27) = wr at *
  generalize w1.heap.size = bv at *
  have hbv : bv ≠ w.heap.size + 1 := by omega
  have hqs : w.heap.size + 2 ≤ wr.heap.size := by have := HWB.out; omega
  have hpi : ∀ i, w.heap.size + 2 ≤ i → ¬ i = w.heap.size + 1 := fun i hi => by omega
  have hn100 : n9 ≤ 100 := by
    obtain ⟨A7, n7, c7, B7, k7, d7, e7, hn7, _⟩ := hfv.shape3
    simp only [Value.agg.injEq, Array.mk.injEq, List.cons.injEq, Value.slice.injEq] at e7
    omega
  have s0 := (Kp.refl wr).drew.get d0
  have s1 := (Kp.refl wr).drew.get d1
  have cd := cv.kp (Kp.refl wr).drew
  have w1 : IntKind.i64.wrap ((n9 : Int) + 2) = (n9 : Int) + 2 := IntWalk.i64_in _ (by omega)
  obtain ⟨M, hM⟩ : ∃ M, max (1 : Int) (n9 : Int) = M := ⟨_, rfl⟩
  have hM2 : M ≤ 100 := by omega
  have CW := Lib.hid (pick_any (w.heap.size + 1) _ ((n9 : Int) + 2) wr.drew cd (by omega) (by omega))
  refine wp_region_held_drew (S := fun w' => w'.cell? ⟨bv, 0, none⟩ = some (.slice A9 n9 c9) ∧ w'.cell? ⟨bv, 1, none⟩ = some (.slice B9 k9 d9)) (by kernel_rfl) ⟨s0, s1⟩ (fun hHeld => ?_)
  refine wpAnyH_take (i := 0) (v := ?_) rfl (by kernel_rfl) (by kernel_rfl) (by kernel_rfl) (fun _ _ _ h => h) (Or.inl ⟨by rfl, ?_⟩) (by assumption) ?_
  rotate_left
  · intro w hSw; (try dsimp only at hSw); go_simp <;> with_reducible rfl
  (try simp only [Act.put, List.setIfInBounds_toArray, List.set_cons_zero, List.set_cons_succ])
  refine wpAnyH_take (i := 1) (v := ?_) rfl (by kernel_rfl) (by kernel_rfl) (by kernel_rfl) (fun _ _ _ h => h) (Or.inl ⟨by rfl, ?_⟩) (by assumption) ?_
  rotate_left
  · intro w hSw; (try dsimp only at hSw); go_simp <;> with_reducible rfl
  (try simp only [Act.put, List.setIfInBounds_toArray, List.set_cons_zero, List.set_cons_succ])
  refine wpAnyH_take (i := 2) (v := ?_) rfl (by kernel_rfl) (by kernel_rfl) (by kernel_rfl) (fun _ _ _ h => h) (Or.inl ⟨by rfl, ?_⟩) (by assumption) ?_
  rotate_left
  · intro w hSw; (try dsimp only at hSw); go_simp <;> with_reducible rfl
  (try simp only [Act.put, List.setIfInBounds_toArray, List.set_cons_zero, List.set_cons_succ])
  refine wpAnyH_take (i := 3) (v := ?_) rfl (by kernel_rfl) (by kernel_rfl) (by kernel_rfl) (fun _ _ _ h => h) (Or.inl ⟨by rfl, ?_⟩) (by assumption) ?_
  rotate_left
  · intro w hSw; (try dsimp only at hSw); go_simp <;> with_reducible rfl
  (try simp only [Act.put, List.setIfInBounds_toArray, List.set_cons_zero, List.set_cons_succ])
  refine wpAnyH_take (i := 4) (v := ?_) rfl (by kernel_rfl) (by kernel_rfl) (by kernel_rfl) (fun _ _ _ h => h) (Or.inl ⟨by rfl, ?_⟩) (by assumption) ?_
  rotate_left
  · intro w hSw; (try dsimp only at hSw); go_simp <;> with_reducible rfl
  (try simp only [Act.put, List.setIfInBounds_toArray, List.set_cons_zero, List.set_cons_succ])
  refine wpAnyH_take (i := 5) (v := ?_) rfl (by kernel_rfl) (by kernel_rfl) (by kernel_rfl) (fun _ _ _ h => h) (Or.inl ⟨by rfl, ?_⟩) (by assumption) ?_
  rotate_left
  · intro w hSw; (try dsimp only at hSw); go_simp <;> with_reducible rfl
  (try simp only [Act.put, List.setIfInBounds_toArray, List.set_cons_zero, List.set_cons_succ])
  refine wpAnyH_take (i := 8) (v := ?_) rfl (by kernel_rfl) (by kernel_rfl) (by kernel_rfl) (fun _ _ _ h => h) (Or.inl ⟨by rfl, ?_⟩) (by assumption) ?_
  rotate_left
  · intro w hSw; (try dsimp only at hSw); go_simp <;> with_reducible rfl
  (try simp only [Act.put, List.setIfInBounds_toArray, List.set_cons_zero, List.set_cons_succ])
  refine wpAnyH_take (i := 9) (v := ?_) rfl (by kernel_rfl) (by kernel_rfl) (by kernel_rfl) (fun _ _ _ h => h) (Or.inl ⟨by rfl, ?_⟩) (by assumption) ?_
  rotate_left
  · intro w hSw; (try dsimp only at hSw); go_simp <;> with_reducible rfl
  (try simp only [Act.put, List.setIfInBounds_toArray, List.set_cons_zero, List.set_cons_succ])
  refine wpAnyH_take (i := 10) (v := ?_) rfl (by kernel_rfl) (by kernel_rfl) (by kernel_rfl) (fun _ _ _ h => h) (Or.inl ⟨by rfl, ?_⟩) (by assumption) ?_
  rotate_left
  · intro w hSw; (try dsimp only at hSw); go_simp <;> with_reducible rfl
  (try simp only [Act.put, List.setIfInBounds_toArray, List.set_cons_zero, List.set_cons_succ])
  refine wpAnyH_take (i := 11) (v := ?_) rfl (by kernel_rfl) (by kernel_rfl) (by kernel_rfl) (fun _ _ _ h => h) (Or.inl ⟨by rfl, ?_⟩) (by assumption) ?_
  rotate_left
  · intro w hSw; (try dsimp only at hSw); go_simp <;> with_reducible rfl
  (try simp only [Act.put, List.setIfInBounds_toArray, List.set_cons_zero, List.set_cons_succ])
  refine wpAnyH_ready (rs := [6]) (by kernel_rfl) (by simp) ?_
  refine AllReadyH.cons rfl (fun K hK => ?_) AllReadyH.nil
  go_simp
  with_reducible refine Calls.mono CW.out ?_
  rintro e wa1 ⟨r, rfl, hr, cA, uA⟩
  clear CW
  (try go_wp2_with fail)
  have s0a := turn_cellD uA s0 hbv
  have s1a := turn_cellD uA s1 hbv
  refine hK.out _ _ ?_ (fun hHeld => ?_)
  · (try dsimp only); exact ⟨s0a, s1a⟩
  clear hK K
  (try simp only [Act.put, List.setIfInBounds_toArray, List.set_cons_zero, List.set_cons_succ])
  have CM := Lib.hid (l1Most_any 1 (n9 : Int) wa1)
  rw [hM] at CM
  refine wpAnyH_take (i := 7) (v := ?_) rfl (by kernel_rfl) (by kernel_rfl) (by kernel_rfl) (fun _ _ _ h => h) (Or.inl ⟨by rfl, ?_⟩) (by assumption) ?_
  rotate_left
  · intro w hSw; (try dsimp only at hSw); go_simp <;> with_reducible rfl
  (try simp only [Act.put, List.setIfInBounds_toArray, List.set_cons_zero, List.set_cons_succ])
  refine wpAnyH_ready (rs := [12]) (by kernel_rfl) (by simp) ?_
  refine AllReadyH.cons rfl (fun K hK => ?_) AllReadyH.nil
  go_simp
  with_reducible refine Calls.mono CM.out ?_
  rintro e wm ⟨rfl, rfl⟩
  clear CM
  (try go_wp2_with fail)
  refine hK.out _ _ ?_ (fun hHeld => ?_)
  · (try dsimp only); exact ⟨s0a, s1a⟩
  clear hK K
  (try simp only [Act.put, List.setIfInBounds_toArray, List.set_cons_zero, List.set_cons_succ])
  have CW := Lib.hid (pick_any (w.heap.size + 1) _ M wa1 cA (by omega) (by omega))
  refine wpAnyH_ready (rs := [13]) (by kernel_rfl) (by simp) ?_
  refine AllReadyH.cons rfl (fun K hK => ?_) AllReadyH.nil
  go_simp
  with_reducible refine Calls.mono CW.out ?_
  rintro e wa2 ⟨r2, rfl, _, cB, uB⟩
  clear CW
  (try go_wp2_with fail)
  have s0b := turn_cellD uB s0a hbv
  have s1b := turn_cellD uB s1a hbv
  refine hK.out _ _ ?_ (fun hHeld => ?_)
  · (try dsimp only); exact ⟨s0b, s1b⟩
  clear hK K
  (try simp only [Act.put, List.setIfInBounds_toArray, List.set_cons_zero, List.set_cons_succ])
  have td := turn_thereD uB (turn_thereD uA (turn_thereD (Turn.of_kp (S := fun _ => False) (Kp.refl wr).drew) tv (fun h => h)) (by omega)) (by omega)
  have kd : Kp w wa2 := ((kk.trans (Kp.refl wr).drew).turn uA (fun i hi => by omega)).turn uB (fun i hi => by omega)
  have hfd := ((hfv.kp (Kp.refl wr).drew).turn uA (fun i hi => by omega)).turn uB (fun i hi => by omega)
  have HE := Lib.hid (drw_ret hfd (by omega) td kd (Nat.le_refl _))
  have hxw : IntKind.i64.wrap (r - 1) = r - 1 := IntWalk.i64_in _ (by have := hr.2.2 (by omega); omega)
  refine wpAnyH_ready (rs := [14]) (by kernel_rfl) (by simp) ?_
  refine AllReadyH.cons rfl (fun K hK => ?_) AllReadyH.nil
  rw [if_pos (by rfl)]
  refine wp_store_mid 27 (.tmp 2) (.tmp 12) rfl w.heap.size 0 #[.slice A9 n9 c9, .slice B9 k9 d9] rfl rfl td (by kernel_rfl) (by simp [Value.oneCell']) ?_
  refine hK.out _ _ ?_ (fun hHeld => ?_)
  · (try dsimp only); exact ⟨turn_cellD HE.out.2.2.2.2 s0b (by show bv ≠ w.heap.size; omega), turn_cellD HE.out.2.2.2.2 s1b (by show bv ≠ w.heap.size; omega)⟩
  clear hK K
  (try simp only [Act.put, List.setIfInBounds_toArray, List.set_cons_zero, List.set_cons_succ])
  refine wpAnyH_take (i := 15) (v := ?_) rfl (by kernel_rfl) (by kernel_rfl) (by kernel_rfl) (fun _ _ _ h => h) (Or.inl ⟨by rfl, ?_⟩) (by assumption) ?_
  rotate_left
  · intro w hSw; (try dsimp only at hSw); go_simp <;> with_reducible rfl
  (try simp only [Act.put, List.setIfInBounds_toArray, List.set_cons_zero, List.set_cons_succ])
  refine wpAnyH_take (i := 16) (v := ?_) rfl (by kernel_rfl) (by kernel_rfl) (by kernel_rfl) (fun _ _ _ h => h) (Or.inl ⟨by rfl, ?_⟩) (by assumption) ?_
  rotate_left
  · intro w hSw; (try dsimp only at hSw); go_simp <;> with_reducible rfl
  (try simp only [Act.put, List.setIfInBounds_toArray, List.set_cons_zero, List.set_cons_succ])
  refine wpAnyH_done (by kernel_rfl) ?_ _
  go_wp2_with fail
  obtain ⟨z0, z1, z2, z3, z4⟩ := HE.out
  exact bodyPost_ret (v := .tuple #[.agg #[.slice A9 n9 c9, .slice B9 k9 d9], .int .i64 (r - 1), .int .i64 r2]) (by simp [results, Try.results8, go_sem, z0, z1, hxw]) rfl ⟨_, _, _, rfl, z2, z3⟩
end Go.Proofs.Ytcccmndkolmboaa

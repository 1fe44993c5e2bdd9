/- The drawing of arguments for the laws on costs: an order of the clients. No condition. -/
import Derived.Test.YtkaammkanapkmaaGreatQAz
namespace Go.Proofs.YtkaammkanapkmaaGreat
open Go.RowKit Go.Sort

theorem ints_parts {w : World} {ad : Addr} {xs : List Int} {co q : Nat} (h : IntsAt w (some ad) xs) (hq : q ≤ xs.length) (hco : xs.length ≤ co) : IntsAt w (some ad) (xs.take q) ∧ IntsAt w (if co = q then some ad else some (ad.add q)) (xs.drop q) := by
  have h1 := h.1
  refine ⟨⟨by rw [List.length_take]; omega, fun k hk => ?_⟩, ⟨by rw [List.length_drop]; omega, fun k hk => ?_⟩⟩
  · have hk2 : k < q ∧ k < xs.length := by rw [List.length_take] at hk; omega
    obtain ⟨ad', e, hc⟩ := h.2 k hk2.2
    refine ⟨ad', e, ?_⟩
    rw [hc]
    simp [List.getD, hk2.1]
  · have hk2 : q + k < xs.length := by rw [List.length_drop] at hk; omega
    obtain ⟨ad', e, hc⟩ := h.2 (q + k) hk2
    cases e
    have hcq : co ≠ q := by omega
    refine ⟨_, by rw [if_neg hcq], ?_⟩
    rw [Addr.add_add, hc]
    simp [List.getD]
theorem Own.intsE {w : World} {base n c : Nat} {A : Option Addr} {xs : List Int} (h : Own w base (.slice A n c) xs) (hl : xs.length ≤ 9223372036854775807) : IntsAt w A xs := by
  obtain ⟨A', c', e, hi⟩ := h.ints hl
  cases e
  exact hi
theorem j_new0 {wa W : World} (hk : Kp wa W) : Kp wa ((W.alloc (.cells #[] 3)).drew) ∧ Own ((W.alloc (.cells #[] 3)).drew) wa.heap.size (.slice (some ⟨W.heap.size, 0, none⟩) 0 0) [] :=
  ⟨(hk.alloc _).drew, (own_new0 W wa.heap.size hk.le).kp (Kp.refl _).drew⟩
theorem j_lit {wa W : World} (hk : Kp wa W) (x : Int) : Kp wa ((W.alloc (.cells #[.int .i64 x] 3)).drew) ∧ IntsAt ((W.alloc (.cells #[.int .i64 x] 3)).drew) (some ⟨W.heap.size, 0, none⟩) [x] :=
  ⟨(hk.alloc _).drew, (lit_intsD W [x] (by simp)).kp (Kp.refl _).drew⟩
theorem j_new1 {wa W : World} (hk : Kp wa W) : Kp wa (W.alloc (.cells #[] 3)) ∧ Own (W.alloc (.cells #[] 3)) wa.heap.size (.slice (some ⟨W.heap.size, 0, none⟩) 0 0) [] :=
  ⟨hk.alloc _, own_new0 W wa.heap.size hk.le⟩
theorem j_lit1 {wa W : World} (hk : Kp wa W) (x : Int) : Kp wa (W.alloc (.cells #[.int .i64 x] 3)) ∧ IntsAt (W.alloc (.cells #[.int .i64 x] 3)) (some ⟨W.heap.size, 0, none⟩) [x] :=
  ⟨hk.alloc _, lit_intsD W [x] (by simp)⟩
set_option maxRecDepth 100000 in
set_option maxHeartbeats 2000000 in
theorem drawMarginalShares_any (A : Option Addr) (n c : Nat) (w : World) (hb : BytesAt w A n) :
    Calls Tryz.prog 12 #[.slice A n c] w fun e w' => FlPost w e w' := by
  have t0 := there_newD w [.slice none 0 0, .slice none 0 0] 27
  simp only [List.length_cons, List.length_nil, Nat.zero_add, Nat.reduceAdd] at t0
  have k1 : Kp w (w.alloc (.cells #[.slice none 0 0, .slice none 0 0] 27)) := (Kp.refl w).alloc _
  have k2 : Kp _ ((w.alloc (.cells #[.slice none 0 0, .slice none 0 0] 27)).alloc (.cells #[.slice A n c, .int .i64 0, .int .u64 0] 45)) := (Kp.refl _).alloc _
  have cu := cur_new (c := c) (t := 45) (hb.kp k1)
  have ta := turn_thereD (Turn.of_kp (S := fun _ => False) k2) t0 (fun h => h)
  have hz : Hid (((w.alloc (.cells #[.slice none 0 0, .slice none 0 0] 27)).alloc (.cells #[.slice A n c, .int .i64 0, .int .u64 0] 45)).heap.size = w.heap.size + 2) := by show _ = _; simp
  have k0 := k1.trans k2
  rw [World.size_alloc] at cu
  have CF := Lib.hid (fieldOf_any (w.heap.size + 1) 0 6 _ cu (by omega) (by omega))
  clear k1 k2 t0
  go_enter Tryz.func12, Tryz.ntmps12
  go_wp2_with fail
  generalize (w.alloc (.cells #[.slice none 0 0, .slice none 0 0] 27)).alloc (.cells #[.slice A n c, .int .i64 0, .int .u64 0] 45) = wa at *
  with_reducible refine Calls.mono CF.out ?_
  rintro e w1 ⟨v, rfl, hv, c1, u1⟩
  clear CF
  rw [hz.out] at hv
  obtain ⟨A9, n9, c9, B9, k9, d9, rfl, hn9, hk9⟩ := hv.shape2
  have kv : Kp w1 (w1.alloc (.cells #[.slice A9 n9 c9, .slice B9 k9 d9] 27)) := (Kp.refl w1).alloc _
  obtain ⟨d0, d1⟩ := box2 w1 (.slice A9 n9 c9) (.slice B9 k9 d9) 27
  have hvb : w.heap.size + 2 ≤ w1.heap.size := by have := u1.size; rw [hz.out] at this; exact this
  have tv := turn_thereD (Turn.of_kp (S := fun _ => False) kv) (turn_thereD u1 ta (by omega)) (fun h => h)
  have kk : Kp w (w1.alloc (.cells #[.slice A9 n9 c9, .slice B9 k9 d9] 27)) := (k0.turn u1 (fun i hi => by omega)).trans kv
  have hfv := hv.kp kv
  have cv := c1.kp kv
  have HWB : Hid ((w1.alloc (.cells #[.slice A9 n9 c9, .slice B9 k9 d9] 27)).heap.size = w1.heap.size + 1) := by show _ = _; simp
  clear hv c1 u1 ta k0 cu hz
  go_wp2_with fail
  generalize w1.alloc (.cells #[.slice A9 n9 c9, .slice B9 k9 d9] 27) = wr at *
  generalize w1.heap.size = bv at *
  have ho0 := own_new0 wr wr.heap.size (Nat.le_refl _)
  have hka : Kp wr (wr.alloc (.cells #[] 3)) := (Kp.refl wr).alloc _
  rw [HWB.out] at ho0
  have T0 : Tp (w.heap.size + 1) wr (wr.alloc (.cells #[] 3)) := Turn.of_kp hka
  have c0 := cv.kp hka
  have hbv : bv ≠ w.heap.size + 1 := by omega
  have hbr : bv < wr.heap.size := World.block_lt_of_cell? _ _ d0
  clear hka cv
  generalize wr.alloc (.cells #[] 3) = wl at *
  go_loopw [6, 7] (fun ox iv wc => ∃ (j co : Nat) (ad : Addr) (xs : List Int), ox = .slice (some ad) j co ∧ iv = .int .i64 j ∧ j ≤ k9 ∧ Hid (xs.length = j) ∧ Own wc (bv + 1) (.slice (some ad) j co) xs ∧ Tp (w.heap.size + 1) wr wc ∧ Cur wc (w.heap.size + 1) (0 + 5000 + 2 * j)) (fun _ iv _ => k9 - (intOf iv).toNat)
  case atStart => exact ⟨0, 0, _, [], rfl, rfl, by omega, Lib.hid rfl, ho0, T0, c0⟩
  case round =>
    clear ho0 T0 c0
    obtain ⟨j, co, ad, xs, rfl, rfl, hj, Hx, ho, T, cu⟩ := hrel
    have e0 := turn_cellD T d0 hbv
    have e1 := turn_cellD T d1 hbv
    by_cases hlt : j < k9
    · have hjw : wrap64 ((j : Int) + 1) = (j : Int) + 1 := IntWalk.wrap64_in _ (by omega)
      have CP := Lib.hid (pick_any (w.heap.size + 1) _ ((j : Int) + 1) _ cu (by omega) (by omega))
      have hltI : (j : Int) < (k9 : Int) := by omega
      go_wp2_with fail
      with_reducible refine Calls.mono CP.out ?_
      rintro e wa ⟨r, rfl, hr, cA, uA⟩
      clear CP
      obtain ⟨q, rfl⟩ := Int.eq_ofNat_of_zero_le hr.1
      have hq : q ≤ j := by have := hr.2.2 (by omega); omega
      have hoA := own_low ho uA (fun i hi => by omega)
      have TA := T.trans uA
      have hcap : j ≤ co := by have := hoA.capL rfl; rw [Hx.out] at this; exact this
      have hqc : (q : Int) ≤ (co : Int) := by omega
      have hqj : (q : Int) ≤ (j : Int) := by omega
      have hq0 : (0 : Int) ≤ (q : Int) := by omega
      go_wp2_with fail
      have hJl : j < 1048576 := by omega
      obtain ⟨hiT, hiD⟩ := ints_parts (Own.intsE hoA (by have := Hx.out; omega)) (co := co) (q := q) (by have := Hx.out; omega) (by have := Hx.out; omega)
      have hTl : (xs.take q).length = q := by rw [List.length_take]; have := Hx.out; omega
      have hDl : (xs.drop q).length = j - q := by rw [List.length_drop]; have := Hx.out; omega
      refine wp_region_held_drew (S := fun _ => True) (by kernel_rfl) trivial (fun hHeld => ?_)
      refine wpAnyH_take (i := 1) (v := ?_) rfl (by kernel_rfl) (by kernel_rfl) (by kernel_rfl) (fun _ _ _ h => h) (Or.inl ⟨by rfl, ?_⟩) (by assumption) ?_
      rotate_left
      · intro w hSw; (try dsimp only at hSw); go_simp <;> with_reducible rfl
      (try simp only [Act.put, List.setIfInBounds_toArray, List.set_cons_zero, List.set_cons_succ])
      refine wpAnyH_take (i := 2) (v := ?_) rfl (by kernel_rfl) (by kernel_rfl) (by kernel_rfl) (fun _ _ _ h => h) (Or.inl ⟨by rfl, ?_⟩) (by assumption) ?_
      rotate_left
      · intro w hSw; (try dsimp only at hSw); go_simp <;> with_reducible rfl
      (try simp only [Act.put, List.setIfInBounds_toArray, List.set_cons_zero, List.set_cons_succ])
      refine wpAnyH_take (i := 5) (v := ?_) rfl (by kernel_rfl) (by kernel_rfl) (by kernel_rfl) (fun _ _ _ h => h) (Or.inl ⟨by rfl, ?_⟩) (by assumption) ?_
      rotate_left
      · intro w hSw; (try dsimp only at hSw); go_simp <;> with_reducible rfl
      (try simp only [Act.put, List.setIfInBounds_toArray, List.set_cons_zero, List.set_cons_succ])
      refine wpAnyH_take (i := 8) (v := ?_) rfl (by kernel_rfl) (by kernel_rfl) (by kernel_rfl) (fun _ _ _ h => h) (Or.inl ⟨by rfl, ?_⟩) (by assumption) ?_
      rotate_left
      · intro w hSw; (try dsimp only at hSw); go_simp <;> with_reducible rfl
      (try simp only [Act.put, List.setIfInBounds_toArray, List.set_cons_zero, List.set_cons_succ])
      refine wpAnyH_take (i := 9) (v := ?_) rfl (by kernel_rfl) (by kernel_rfl) (by kernel_rfl) (fun _ _ _ h => h) (Or.inl ⟨by rfl, ?_⟩) (by assumption) ?_
      rotate_left
      · intro w hSw; (try dsimp only at hSw); go_simp <;> with_reducible rfl
      (try simp only [Act.put, List.setIfInBounds_toArray, List.set_cons_zero, List.set_cons_succ])
      refine wpAnyH_take (i := 3) (v := ?_) rfl (by kernel_rfl) (by kernel_rfl) (by kernel_rfl) (fun _ _ _ h => h) (Or.inl ⟨by rfl, ?_⟩) (by assumption) ?_
      rotate_left
      · intro w hSw; (try dsimp only at hSw); go_simp <;> with_reducible rfl
      (try simp only [Act.put, List.setIfInBounds_toArray, List.set_cons_zero, List.set_cons_succ])
      refine wpAnyH_take (i := 10) (v := ?_) rfl (by kernel_rfl) (by kernel_rfl) (by kernel_rfl) (fun _ _ _ h => h) (Or.inl ⟨by rfl, ?_⟩) (by assumption) ?_
      rotate_left
      · intro w hSw; (try dsimp only at hSw); go_simp <;> with_reducible rfl
      (try simp only [Act.put, List.setIfInBounds_toArray, List.set_cons_zero, List.set_cons_succ])
      obtain ⟨Ad, hAd⟩ : ∃ Ad : Option Addr, (if co = q then some ad else some (ad.add q)) = Ad := ⟨_, rfl⟩
      rw [hAd] at hiD ⊢
      clear hAd
      refine wpAnyH_ready (rs := [0, 6]) (by kernel_rfl) (by simp) ?_
      refine AllReadyH.cons rfl (fun K hK => ?_) (AllReadyH.cons rfl (fun K hK => ?_) AllReadyH.nil)
      · go_simp
        obtain ⟨k1, o1⟩ := j_new0 (Kp.refl wa)
        generalize (wa.alloc (.cells #[] 3)).drew = W1 at *
        refine hK.out _ _ trivial (fun hHeld => ?_)
        clear hK K
        (try simp only [Act.put, List.setIfInBounds_toArray, List.set_cons_zero, List.set_cons_succ])
        refine wpAnyH_ready (rs := [4, 6]) (by kernel_rfl) (by simp) ?_
        refine AllReadyH.cons rfl (fun K hK => ?_) (AllReadyH.cons rfl (fun K hK => ?_) AllReadyH.nil)
        · refine step_app_all rfl (.tmp 27) (.tmp 30) rfl wa.heap.size _ [] (xs.take q) (some ad) q co rfl rfl o1 (hiT.kp k1) hTl (Kp.le k1) (by simp only [hTl, List.length_nil, List.length_cons]; omega) ?_
          intro v2 W2 o2 t2 h2
          have k2 := Own.kp_turn o1 k1 (Nat.le_refl _) t2
          rw [List.nil_append] at o2
          refine hK.out _ _ trivial (fun hHeld => ?_)
          clear hK K
          (try simp only [Act.put, List.setIfInBounds_toArray, List.set_cons_zero, List.set_cons_succ])
          refine wpAnyH_ready (rs := [6]) (by kernel_rfl) (by simp) ?_
          refine AllReadyH.cons rfl (fun K hK => ?_) AllReadyH.nil
          go_simp
          obtain ⟨k3, l3⟩ := j_lit1 k2 (j : Int)
          have o3 := o2.kp ((Kp.refl W2).alloc (.cells #[.int .i64 (j : Int)] 3))
          generalize W2.alloc (.cells #[.int .i64 (j : Int)] 3) = W3 at *
          refine hK.out _ _ trivial (fun hHeld => ?_)
          clear hK K
          (try simp only [Act.put, List.setIfInBounds_toArray, List.set_cons_zero, List.set_cons_succ])
          refine wpAnyH_ready (rs := [7]) (by kernel_rfl) (by simp) ?_
          refine AllReadyH.cons rfl (fun K hK => ?_) AllReadyH.nil
          refine step_app_all rfl (.tmp 31) (.tmp 33) rfl wa.heap.size _ (xs.take q) [(j : Int)] (some ⟨W2.heap.size, 0, none⟩) 1 1 rfl rfl o3 l3 rfl (Kp.le k3) (by simp only [hTl, List.length_nil, List.length_cons]; omega) ?_
          intro v5 W5 o5 t5 h5
          have k5 := Own.kp_turn o3 k3 (Nat.le_refl _) t5
          have hl5 : (xs.take q ++ [(j : Int)]).length = q + 1 := by rw [List.length_append, hTl]; rfl
          refine hK.out _ _ trivial (fun hHeld => ?_)
          clear hK K
          (try simp only [Act.put, List.setIfInBounds_toArray, List.set_cons_zero, List.set_cons_succ])
          refine wpAnyH_ready (rs := [11]) (by kernel_rfl) (by simp) ?_
          refine AllReadyH.cons rfl (fun K hK => ?_) AllReadyH.nil
          refine step_app_all rfl (.tmp 34) (.tmp 37) rfl wa.heap.size _ (xs.take q ++ [(j : Int)]) (xs.drop q) Ad (j - q) (co - q) rfl rfl o5 (hiD.kp k5) hDl (Kp.le k5) (by rw [hl5, hDl]; omega) ?_
          intro v6 W6 o6 t6 h6
          have k6 := Own.kp_turn o5 k5 (Nat.le_refl _) t6
          have hl6 : (xs.take q ++ [(j : Int)] ++ xs.drop q).length = j + 1 := by rw [List.length_append, hl5, hDl]; omega
          refine hK.out _ _ trivial (fun hHeld => ?_)
          clear hK K
          (try simp only [Act.put, List.setIfInBounds_toArray, List.set_cons_zero, List.set_cons_succ])
          refine wpAnyH_take (i := 12) (v := ?_) rfl (by kernel_rfl) (by kernel_rfl) (by kernel_rfl) (fun _ _ _ h => h) (Or.inl ⟨by rfl, ?_⟩) (by assumption) ?_
          rotate_left
          · intro w hSw; (try dsimp only at hSw); go_simp <;> with_reducible rfl
          (try simp only [Act.put, List.setIfInBounds_toArray, List.set_cons_zero, List.set_cons_succ])
          refine wpAnyH_done (by kernel_rfl) ?_ _
          obtain ⟨A6, c6, hv6, hi6⟩ := o6.ints (by rw [hl6]; omega)
          obtain ⟨a6, rfl, _⟩ := hi6.at_ (k := 0) (by rw [hl6]; omega)
          rw [hl6] at hv6
          subst hv6
          have T6 : Tp (w.heap.size + 1) _ W6 := TA.trans (Turn.of_kp k6)
          have hwa : bv + 1 ≤ wa.heap.size := by have h1 := TA.size; have h2 := HWB.out; omega
          go_wp2_with fail
          go_roundw
          case rel => exact ⟨j + 1, c6, a6, _, rfl, by go_num, by omega, Lib.hid hl6, o6.mono hwa, T6, cA.kp k6⟩
          case measure => simp [intOf]; omega
        · go_simp
          obtain ⟨k3, l3⟩ := j_lit1 k1 (j : Int)
          have o3 := o1.kp ((Kp.refl W1).alloc (.cells #[.int .i64 (j : Int)] 3))
          have hgt : wa.heap.size < W1.heap.size := (o1.lt _ rfl).2
          generalize W1.alloc (.cells #[.int .i64 (j : Int)] 3) = W3 at *
          refine hK.out _ _ trivial (fun hHeld => ?_)
          clear hK K
          (try simp only [Act.put, List.setIfInBounds_toArray, List.set_cons_zero, List.set_cons_succ])
          refine wpAnyH_ready (rs := [4]) (by kernel_rfl) (by simp) ?_
          refine AllReadyH.cons rfl (fun K hK => ?_) AllReadyH.nil
          refine step_app_all rfl (.tmp 27) (.tmp 30) rfl wa.heap.size _ [] (xs.take q) (some ad) q co rfl rfl o3 (hiT.kp k3) hTl (Kp.le k3) (by simp only [hTl, List.length_nil, List.length_cons]; omega) ?_
          intro v2 W2 o2 t2 h2
          have k2 := Own.kp_turn o3 k3 (Nat.le_refl _) t2
          rw [List.nil_append] at o2
          refine hK.out _ _ trivial (fun hHeld => ?_)
          clear hK K
          (try simp only [Act.put, List.setIfInBounds_toArray, List.set_cons_zero, List.set_cons_succ])
          have l4 := ints_turnD l3 t2 (fun ad e => by cases e; intro h; have h5 : wa.heap.size = W1.heap.size := Option.some.inj h; omega)
          refine wpAnyH_ready (rs := [7]) (by kernel_rfl) (by simp) ?_
          refine AllReadyH.cons rfl (fun K hK => ?_) AllReadyH.nil
          refine step_app_all rfl (.tmp 31) (.tmp 33) rfl wa.heap.size _ (xs.take q) [(j : Int)] (some ⟨W1.heap.size, 0, none⟩) 1 1 rfl rfl o2 l4 rfl (Kp.le k2) (by simp only [hTl, List.length_nil, List.length_cons]; omega) ?_
          intro v5 W5 o5 t5 h5
          have k5 := Own.kp_turn o2 k2 (Nat.le_refl _) t5
          have hl5 : (xs.take q ++ [(j : Int)]).length = q + 1 := by rw [List.length_append, hTl]; rfl
          refine hK.out _ _ trivial (fun hHeld => ?_)
          clear hK K
          (try simp only [Act.put, List.setIfInBounds_toArray, List.set_cons_zero, List.set_cons_succ])
          refine wpAnyH_ready (rs := [11]) (by kernel_rfl) (by simp) ?_
          refine AllReadyH.cons rfl (fun K hK => ?_) AllReadyH.nil
          refine step_app_all rfl (.tmp 34) (.tmp 37) rfl wa.heap.size _ (xs.take q ++ [(j : Int)]) (xs.drop q) Ad (j - q) (co - q) rfl rfl o5 (hiD.kp k5) hDl (Kp.le k5) (by rw [hl5, hDl]; omega) ?_
          intro v6 W6 o6 t6 h6
          have k6 := Own.kp_turn o5 k5 (Nat.le_refl _) t6
          have hl6 : (xs.take q ++ [(j : Int)] ++ xs.drop q).length = j + 1 := by rw [List.length_append, hl5, hDl]; omega
          refine hK.out _ _ trivial (fun hHeld => ?_)
          clear hK K
          (try simp only [Act.put, List.setIfInBounds_toArray, List.set_cons_zero, List.set_cons_succ])
          refine wpAnyH_take (i := 12) (v := ?_) rfl (by kernel_rfl) (by kernel_rfl) (by kernel_rfl) (fun _ _ _ h => h) (Or.inl ⟨by rfl, ?_⟩) (by assumption) ?_
          rotate_left
          · intro w hSw; (try dsimp only at hSw); go_simp <;> with_reducible rfl
          (try simp only [Act.put, List.setIfInBounds_toArray, List.set_cons_zero, List.set_cons_succ])
          refine wpAnyH_done (by kernel_rfl) ?_ _
          obtain ⟨A6, c6, hv6, hi6⟩ := o6.ints (by rw [hl6]; omega)
          obtain ⟨a6, rfl, _⟩ := hi6.at_ (k := 0) (by rw [hl6]; omega)
          rw [hl6] at hv6
          subst hv6
          have T6 : Tp (w.heap.size + 1) _ W6 := TA.trans (Turn.of_kp k6)
          have hwa : bv + 1 ≤ wa.heap.size := by have h1 := TA.size; have h2 := HWB.out; omega
          go_wp2_with fail
          go_roundw
          case rel => exact ⟨j + 1, c6, a6, _, rfl, by go_num, by omega, Lib.hid hl6, o6.mono hwa, T6, cA.kp k6⟩
          case measure => simp [intOf]; omega
      · go_simp
        obtain ⟨k1, l1⟩ := j_lit (Kp.refl wa) (j : Int)
        have hgt : wa.heap.size < ((wa.alloc (.cells #[.int .i64 (j : Int)] 3)).drew).heap.size := by show _ < (wa.alloc _).heap.size; simp
        generalize (wa.alloc (.cells #[.int .i64 (j : Int)] 3)).drew = W1 at *
        refine hK.out _ _ trivial (fun hHeld => ?_)
        clear hK K
        (try simp only [Act.put, List.setIfInBounds_toArray, List.set_cons_zero, List.set_cons_succ])
        refine wpAnyH_ready (rs := [0]) (by kernel_rfl) (by simp) ?_
        refine AllReadyH.cons rfl (fun K hK => ?_) AllReadyH.nil
        go_simp
        obtain ⟨k3, o3⟩ := j_new1 k1
        have l3 := l1.kp ((Kp.refl W1).alloc (.cells #[] 3))
        generalize W1.alloc (.cells #[] 3) = W3 at *
        refine hK.out _ _ trivial (fun hHeld => ?_)
        clear hK K
        (try simp only [Act.put, List.setIfInBounds_toArray, List.set_cons_zero, List.set_cons_succ])
        refine wpAnyH_ready (rs := [4]) (by kernel_rfl) (by simp) ?_
        refine AllReadyH.cons rfl (fun K hK => ?_) AllReadyH.nil
        refine step_app_all rfl (.tmp 27) (.tmp 30) rfl wa.heap.size _ [] (xs.take q) (some ad) q co rfl rfl o3 (hiT.kp k3) hTl (Kp.le k3) (by simp only [hTl, List.length_nil, List.length_cons]; omega) ?_
        intro v2 W2 o2 t2 h2
        have k2 := Own.kp_turn o3 k3 (Nat.le_refl _) t2
        rw [List.nil_append] at o2
        refine hK.out _ _ trivial (fun hHeld => ?_)
        clear hK K
        (try simp only [Act.put, List.setIfInBounds_toArray, List.set_cons_zero, List.set_cons_succ])
        have l4 := ints_turnD l3 t2 (fun ad e => by cases e; intro h; have h5 : W1.heap.size = wa.heap.size := Option.some.inj h; omega)
        refine wpAnyH_ready (rs := [7]) (by kernel_rfl) (by simp) ?_
        refine AllReadyH.cons rfl (fun K hK => ?_) AllReadyH.nil
        refine step_app_all rfl (.tmp 31) (.tmp 33) rfl wa.heap.size _ (xs.take q) [(j : Int)] (some ⟨wa.heap.size, 0, none⟩) 1 1 rfl rfl o2 l4 rfl (Kp.le k2) (by simp only [hTl, List.length_nil, List.length_cons]; omega) ?_
        intro v5 W5 o5 t5 h5
        have k5 := Own.kp_turn o2 k2 (Nat.le_refl _) t5
        have hl5 : (xs.take q ++ [(j : Int)]).length = q + 1 := by rw [List.length_append, hTl]; rfl
        refine hK.out _ _ trivial (fun hHeld => ?_)
        clear hK K
        (try simp only [Act.put, List.setIfInBounds_toArray, List.set_cons_zero, List.set_cons_succ])
        refine wpAnyH_ready (rs := [11]) (by kernel_rfl) (by simp) ?_
        refine AllReadyH.cons rfl (fun K hK => ?_) AllReadyH.nil
        refine step_app_all rfl (.tmp 34) (.tmp 37) rfl wa.heap.size _ (xs.take q ++ [(j : Int)]) (xs.drop q) Ad (j - q) (co - q) rfl rfl o5 (hiD.kp k5) hDl (Kp.le k5) (by rw [hl5, hDl]; omega) ?_
        intro v6 W6 o6 t6 h6
        have k6 := Own.kp_turn o5 k5 (Nat.le_refl _) t6
        have hl6 : (xs.take q ++ [(j : Int)] ++ xs.drop q).length = j + 1 := by rw [List.length_append, hl5, hDl]; omega
        refine hK.out _ _ trivial (fun hHeld => ?_)
        clear hK K
        (try simp only [Act.put, List.setIfInBounds_toArray, List.set_cons_zero, List.set_cons_succ])
        refine wpAnyH_take (i := 12) (v := ?_) rfl (by kernel_rfl) (by kernel_rfl) (by kernel_rfl) (fun _ _ _ h => h) (Or.inl ⟨by rfl, ?_⟩) (by assumption) ?_
        rotate_left
        · intro w hSw; (try dsimp only at hSw); go_simp <;> with_reducible rfl
        (try simp only [Act.put, List.setIfInBounds_toArray, List.set_cons_zero, List.set_cons_succ])
        refine wpAnyH_done (by kernel_rfl) ?_ _
        obtain ⟨A6, c6, hv6, hi6⟩ := o6.ints (by rw [hl6]; omega)
        obtain ⟨a6, rfl, _⟩ := hi6.at_ (k := 0) (by rw [hl6]; omega)
        rw [hl6] at hv6
        subst hv6
        have T6 : Tp (w.heap.size + 1) _ W6 := TA.trans (Turn.of_kp k6)
        have hwa : bv + 1 ≤ wa.heap.size := by have h1 := TA.size; have h2 := HWB.out; omega
        go_wp2_with fail
        go_roundw
        case rel => exact ⟨j + 1, c6, a6, _, rfl, by go_num, by omega, Lib.hid hl6, o6.mono hwa, T6, cA.kp k6⟩
        case measure => simp [intOf]; omega
    · obtain rfl : k9 = j := by omega
      have CP := Lib.hid (one_any (w.heap.size + 1) _ 16 _ cu (by omega) (by omega))
      go_wp2_with fail
      with_reducible refine Calls.mono CP.out ?_
      rintro e w4 ⟨b, rfl, c4, u4⟩
      clear CP
      have ho4 := own_low ho u4 (fun i hi => by omega)
      have T4 := T.trans u4
      clear ho cu T e0 e1 u4
      cases b
      · have hld : DInts w4 (w.heap.size + 2) _ := ⟨xs, ho4.mono (by omega), by have := Hx.out; omega⟩
        have s0 := turn_cellD T4 d0 hbv
        have s1 := turn_cellD T4 d1 hbv
        have td := turn_thereD T4 tv (by omega)
        have kd : Kp w _ := kk.turn T4 (fun i hi => by omega)
        have hfd := hfv.turn T4 (fun i hi => by omega)
        have HE := Lib.hid (drw_ret hfd (by omega) td kd (Nat.le_refl _))
        have hi2 : ∀ i, w.heap.size + 2 ≤ i → ¬ i = w.heap.size := fun i hi => by omega
        have hsz3 : w.heap.size ≤ w.heap.size + 2 := by omega
        go_wp2_with (first | (refine wpList_store_mid rfl 27 (.tmp 2) (.tmp 44) rfl w.heap.size 0 #[.slice A9 n9 c9, .slice B9 k9 d9] rfl rfl td (by kernel_rfl) (by simp [Value.oneCell']) ?_) | fail)
        obtain ⟨z0, z1, z2, z3, z4⟩ := HE.out
        exact bodyPost_ret (v := .tuple #[.agg #[.slice A9 n9 c9, .slice B9 k9 d9], .slice (some ad) (k9) co]) (by simp [results, Tryz.results12, go_sem, z0, z1]) rfl ⟨_, _, rfl, z2, (hld.turn z4 (fun i hi => hi2 i hi)).mono hsz3, z3⟩
      · have hb4 : bv + 1 ≤ w4.heap.size := by have h1 := T4.size; have h2 := HWB.out; omega
        have hys2 : xs.length < 1048576 := by have := Hx.out; omega
        have hxl : xs.length ≤ 90 := by have := Hx.out; omega
        obtain ⟨N6, hN6⟩ : ∃ N6, xs.length + 1 = N6 := ⟨_, rfl⟩
        have hl6 : (xs ++ [0]).length = N6 := by rw [List.length_append, ← hN6]; rfl
        have hi2 : ∀ i, w.heap.size + 2 ≤ i → ¬ i = w.heap.size := fun i hi => by omega
        have hsz3 : w.heap.size ≤ w.heap.size + 2 := by omega
        go_wp2_with (first | (at_builtin; go_loud (refine wpl_app rfl (.tmp 41) (.tmp 42) rfl (bv + 1) _ xs 0 rfl rfl ho4 hb4 hys2 ?_); intro v6 w6 ho6 ht6 h46; have T6 := tp_own T4 ht6 (fun i e => by have h1 := (ho4.lt i e).1; have h2 := HWB.out; omega); obtain ⟨AL, cL, hv6⟩ := ho6.shape; rw [hl6] at hv6; subst hv6; have s0 := turn_cellD T6 d0 hbv; have s1 := turn_cellD T6 d1 hbv; have td := turn_thereD T6 tv (by omega); have kd : Kp w w6 := kk.turn T6 (fun i hi => by omega); have hfd := hfv.turn T6 (fun i hi => by omega); have hld : DInts w6 (w.heap.size + 2) (.slice AL N6 cL) := ⟨xs ++ [0], ho6.mono (by omega), by omega⟩; have HE := Lib.hid (drw_ret hfd (by omega) td kd (Nat.le_refl _))) | (refine wpList_store_mid rfl 27 (.tmp 2) (.tmp 44) rfl w.heap.size 0 #[.slice A9 n9 c9, .slice B9 k9 d9] rfl rfl td (by kernel_rfl) (by simp [Value.oneCell']) ?_) | fail)
        obtain ⟨z0, z1, z2, z3, z4⟩ := HE.out
        exact bodyPost_ret (v := .tuple #[.agg #[.slice A9 n9 c9, .slice B9 k9 d9], .slice AL N6 cL]) (by simp [results, Tryz.results12, go_sem, z0, z1]) rfl ⟨_, _, rfl, z2, (hld.turn z4 (fun i hi => hi2 i hi)).mono hsz3, z3⟩
end Go.Proofs.YtkaammkanapkmaaGreat

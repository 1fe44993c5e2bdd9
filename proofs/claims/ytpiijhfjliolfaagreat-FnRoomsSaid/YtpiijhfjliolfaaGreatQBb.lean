/- The drawing of arguments: a field of any numbers. No condition. -/
import Derived.Test.YtpiijhfjliolfaaGreatQBa
import Derived.Test.YtpiijhfjliolfaaGreatQAb
namespace Go.Proofs.YtpiijhfjliolfaaGreat
open Go.RowKit Go.Sort

theorem amongLit_any (p m : Nat) (xs : List Int) (w : World) (hc : Cur w p m) (hm : m < 2000000000) (h0 : 0 < xs.length) (hL : xs.length ≤ 1000) :
    Calls Tryz.prog 63 #[.pointer (some ⟨p, 0, none⟩), .slice (some ⟨w.heap.size, 0, none⟩) xs.length xs.length] (w.alloc (.cells (xs.map (Value.int .i64)).toArray 3)) fun e w' => ∃ r : Int, e = .returned (.int .i64 r) ∧ r ∈ xs ∧ Cur w' p (m + 2) ∧ Tp p w w' := by
  have hp := hc.lt
  refine (among_any p m _ xs xs.length xs.length _ (hc.kp ((Kp.refl w).alloc _)) (by omega) (lit_intsD w xs hL) rfl h0 hL (fun ad e => by cases e; show w.heap.size ≠ p; omega)).mono ?_
  rintro e w' ⟨r, h1, h2, h3, h4⟩
  exact ⟨r, h1, h2, h3, (Turn.of_kp ((Kp.refl w).alloc _)).trans h4⟩
theorem rs_new {w w3 : World} {p rb m : Nat} {t : TypeId} (k : Tp p w w3) (c : Cur w3 p m) (t3 : w3.there rb 0 2) (h1 : p < rb) (h2 : rb < w3.heap.size) (h3 : w.heap.size ≤ rb) :
    RS w (w3.alloc (.cells #[.slice none 0 0, .slice none 0 0] t)) p rb w3.heap.size (.slice none 0 0) (.slice none 0 0) [] 0 (fun _ => 0) (fun _ => 0) (fun _ _ => 0) m := by
  have hk : Kp w3 (w3.alloc (.cells #[.slice none 0 0, .slice none 0 0] t)) := (Kp.refl w3).alloc _
  obtain ⟨d0, d1⟩ := box2 w3 (.slice none 0 0) (.slice none 0 0) t
  have th := there_newD w3 [.slice none 0 0, .slice none 0 0] t
  exact ⟨d0, d1, th, turn_thereD (Turn.of_kp (S := fun _ => False) hk) t3 (fun h => h), ⟨Own.nil _ _, DMat.nil _ _ _ _ _ _, fun j hj => by omega⟩, c.kp hk, k.trans (Turn.of_kp hk), h1, h2, h3⟩
set_option maxRecDepth 100000 in
set_option maxHeartbeats 2000000 in
theorem rawField_any (p m : Nat) (most : Int) (w : World) (hc : Cur w p m) (hm : m < 1000000000) (hmost : 1 ≤ most) :
    Calls Tryz.prog 103 #[.pointer (some ⟨p, 0, none⟩), .int .i64 most] w fun e w' => ∃ a d, e = .returned (.agg #[a, d]) ∧ DF w' w.heap.size a d ∧ Cur w' p (m + 1000) ∧ Tp p w w' := by
  have hp := hc.lt
  have t0 := there_newD w [.slice none 0 0, .slice none 0 0] 27
  simp only [List.length_cons, List.length_nil, Nat.zero_add, Nat.reduceAdd] at t0
  have k0 : Tp p w (w.alloc (.cells #[.slice none 0 0, .slice none 0 0] 27)) := Turn.of_kp ((Kp.refl w).alloc _)
  have c0 := hc.kp ((Kp.refl w).alloc (.cells #[.slice none 0 0, .slice none 0 0] 27))
  have hsz : (w.alloc (.cells #[.slice none 0 0, .slice none 0 0] 27)).heap.size = w.heap.size + 1 := by simp
  have CC := amongLit_any p (m) [3, 4, 2, 5, 1, 6, 7] (w.alloc (.cells #[.slice none 0 0, .slice none 0 0] 27)) c0 (by omega) (by decide) (by decide)
  simp only [List.map_cons, List.map_nil, List.length_cons, List.length_nil, Nat.zero_add, Nat.reduceAdd] at CC
  replace CC := Lib.hid CC
  rw [hsz] at CC
  go_enter Tryz.func103, Tryz.ntmps103
  go_wp2_with fail
  with_reducible refine Calls.mono CC.out ?_
  rintro e w1 ⟨n0, rfl, hn0, c1, u1⟩
  clear CC
  have k1 := k0.trans u1
  have t1 := turn_thereD u1 t0 (by show ¬ w.heap.size = p; omega)
  have s1 := Nat.le_trans (Nat.le_of_eq hsz.symm) u1.size
  clear t0 k0 c0 hsz u1
  generalize hrb : w.heap.size = rb at *
  replace hrb := Lib.hid hrb
  have CC := amongLit_any p ((m + 2)) [4, 3, 5, 2, 6, 7, 1, 0] w1 c1 (by omega) (by decide) (by decide)
  simp only [List.map_cons, List.map_nil, List.length_cons, List.length_nil, Nat.zero_add, Nat.reduceAdd] at CC
  replace CC := Lib.hid CC
  go_wp2_with fail
  with_reducible refine Calls.mono CC.out ?_
  rintro e w2 ⟨m0, rfl, hm0, c2, u2⟩
  clear CC
  have k2 := k1.trans u2
  have t2 := turn_thereD u2 t1 (by show ¬ rb = p; omega)
  have s2 := Nat.le_trans s1 u2.size
  clear t1 k1 c1 u2 s1
  have CC := amongLit_any p ((m + 2 + 2)) [10, 10, 20, 4] w2 c2 (by omega) (by decide) (by decide)
  simp only [List.map_cons, List.map_nil, List.length_cons, List.length_nil, Nat.zero_add, Nat.reduceAdd] at CC
  replace CC := Lib.hid CC
  go_wp2_with fail
  with_reducible refine Calls.mono CC.out ?_
  rintro e w3 ⟨big, rfl, hbig, c3, u3⟩
  clear CC
  have k3 := k2.trans u3
  have t3 := turn_thereD u3 t2 (by show ¬ rb = p; omega)
  have s3 := Nat.le_trans s2 u3.size
  clear t2 k2 c2 u3 s2
  have hn0b : 1 ≤ n0 ∧ n0 ≤ 7 := by simp at hn0; omega
  have hm0b : 0 ≤ m0 ∧ m0 ≤ 7 := by simp at hm0; omega
  have hbigb : 4 ≤ big ∧ big ≤ 20 := by simp at hbig; omega
  have hst := rs_new (t := 27) k3 c3 t3 (by omega) (by omega) (by rw [hrb.out]; exact Nat.le_refl _)
  have hbf := Nat.lt_of_lt_of_le (Nat.lt_succ_self rb) s3
  clear k3 t3 c3 s3 hn0 hm0 hbig
  go_wp2_with fail
  generalize w3.alloc (.cells #[.slice none 0 0, .slice none 0 0] 27) = wb at *
  generalize w3.heap.size = bf at *
  go_loopw [9] (fun iv wr => ∃ (a : Nat) (ov : Value) (xs : List Int), iv = .int .i64 a ∧ a ≤ 7 ∧ xs.length = a ∧ Hid (∀ x ∈ xs, 0 ≤ x ∧ x < 20) ∧ RS w wr p rb bf ov (.slice none 0 0) xs 0 (fun _ => 0) (fun _ => 0) (fun _ _ => 0) (m + 6 + 2 * a)) (fun iv _ => 7 - (intOf iv).toNat)
  case atStart => exact ⟨0, _, [], rfl, by omega, rfl, (by show ∀ x ∈ _, _; simp), hst⟩
  case round =>
    clear hst
    obtain ⟨a, ov, xs, rfl, ha, hxa, Hxs, hrs⟩ := hrel
    by_cases h12 : (a : Int) < n0 ∧ (a : Int) < most
    · obtain ⟨h1, h2⟩ := h12
      have f0 := hrs.frz.1
      have y0 := hrs.c0
      have hd := hrs.kp (Kp.refl wr).drew
      have CP := Lib.hid (pick_any p _ big wr.drew hd.cu (by omega) (by omega))
      have hxa2 : xs.length < 1048576 := by omega
      go_wp2_with fail
      have hf : wr.drew.frozen? ⟨bf, 0, none⟩ = false := f0
      refine wp_region_last2 (S := fun w' => w'.cell? ⟨bf, 0, none⟩ = some ov) (split_cons (split_cons (split_cons (split_cons (split_cons (split_cons (split_cons (split_cons split_one)))))))) (by kernel_rfl) (by kernel_rfl) ?_
      have hHeld : (fun w' => w'.cell? ⟨bf, 0, none⟩ = some ov) wr.drew := hd.c0
      refine wpAnyH_take (i := 0) (v := ?_) rfl (by kernel_rfl) (by kernel_rfl) (by kernel_rfl) (fun _ _ _ h => h) (Or.inl ⟨by rfl, ?_⟩) (by assumption) ?_
      rotate_left
      · intro w hSw; (try dsimp only at hSw); go_simp <;> with_reducible rfl
      (try simp only [Act.put, List.setIfInBounds_toArray, List.set_cons_zero, List.set_cons_succ])
      refine wpAnyH_take (i := 1) (v := ?_) rfl (by kernel_rfl) (by kernel_rfl) (by kernel_rfl) (fun _ _ _ h => h) (Or.inl ⟨by rfl, ?_⟩) (by assumption) ?_
      rotate_left
      · intro w hSw; (try dsimp only at hSw); go_simp <;> with_reducible rfl
      (try simp only [Act.put, List.setIfInBounds_toArray, List.set_cons_zero, List.set_cons_succ])
      refine wpAnyH_take (i := 2) (v := ?_) rfl (by kernel_rfl) (by kernel_rfl) (by kernel_rfl) (fun _ _ _ h => h) (Or.inl ⟨by rfl, ?_⟩) (by assumption) ?_
      rotate_left
      · intro w hSw; (try dsimp only at hSw); go_simp <;> with_reducible rfl
      (try simp only [Act.put, List.setIfInBounds_toArray, List.set_cons_zero, List.set_cons_succ])
      refine wpAnyH_take (i := 3) (v := ?_) rfl (by kernel_rfl) (by kernel_rfl) (by kernel_rfl) (fun _ _ _ h => h) (Or.inl ⟨by rfl, ?_⟩) (by assumption) ?_
      rotate_left
      · intro w hSw; (try dsimp only at hSw); go_simp <;> with_reducible rfl
      (try simp only [Act.put, List.setIfInBounds_toArray, List.set_cons_zero, List.set_cons_succ])
      refine wpAnyH_ready (rs := [4]) (by kernel_rfl) (by simp) ?_
      refine AllReadyH.cons rfl (fun K hK => ?_) AllReadyH.nil
      go_simp
      with_reducible refine Calls.mono CP.out ?_
      rintro e wp1 ⟨r, rfl, hr, hc1, ht1⟩
      have hq := hd.drawn ht1 hc1
      (try go_wp2_with fail)
      refine hK.out _ _ ?_ (fun hHeld => ?_)
      · (try dsimp only); exact hq.c0
      clear hK K
      (try simp only [Act.put, List.setIfInBounds_toArray, List.set_cons_zero, List.set_cons_succ])
      refine wpAnyH_ready (rs := [5]) (by kernel_rfl) (by simp) ?_
      refine AllReadyH.cons rfl (fun K hK => ?_) AllReadyH.nil
      go_simp
      refine hK.out _ _ ?_ (fun hHeld => ?_)
      · (try dsimp only); exact (((Kp.refl wp1).alloc _).get hq.c0)
      clear hK K
      (try simp only [Act.put, List.setIfInBounds_toArray, List.set_cons_zero, List.set_cons_succ])
      refine wpAnyH_ready (rs := [6]) (by kernel_rfl) (by simp) ?_
      refine AllReadyH.cons rfl (fun K hK => ?_) AllReadyH.nil
      refine step_app (by rfl) (.tmp 34) (.tmp 38) (by rfl) (bf + 1) ov xs r _ (by rfl) (by rfl) (by rfl) hq.rf.op hq.size hxa2 ?_
      intro v2 w2 ho2 ht2 h42
      obtain ⟨A2, cp2, hv2⟩ := ho2.shape
      rw [show (xs ++ [r]).length = a + 1 from by simp [hxa]] at hv2
      subst hv2
      have hst2 := hq.setOp (B' := fun _ => 0) (Cp' := fun _ => 0) (f' := fun _ _ => 0) rfl ht2 ho2
      obtain ⟨g0, g1⟩ := hq.stay0 ht2
      refine hK.out _ _ ?_ (fun hHeld => ?_)
      · (try dsimp only); exact g0
      clear hK K
      (try simp only [Act.put, List.setIfInBounds_toArray, List.set_cons_zero, List.set_cons_succ])
      refine wpAnyH_take (i := 7) (v := ?_) rfl (by kernel_rfl) (by kernel_rfl) (by kernel_rfl) (fun _ _ _ h => h) (Or.inl ⟨by rfl, ?_⟩) (by assumption) ?_
      rotate_left
      · intro w hSw; (try dsimp only at hSw); go_simp <;> with_reducible rfl
      (try simp only [Act.put, List.setIfInBounds_toArray, List.set_cons_zero, List.set_cons_succ])
      refine wpAnyH_done (by kernel_rfl) ?_ _
      change Oper.wp _ _ _ _ _ _
      go_simp
      go_wp2_with fail
      go_roundw
      case rel => exact ⟨a + 1, _, xs ++ [r], by go_num, by omega, by simp [hxa], (by show ∀ x ∈ _, _; intro x hx; rcases List.mem_append.1 hx with h | h; exact Hxs.out x h; rw [List.mem_singleton] at h; rw [h]; have := hr.2.2 (by omega); omega), hst2.more (by omega)⟩
      case measure => simp [intOf]; omega
    · have hx : ¬ (a : Int) < n0 ∨ ((a : Int) < n0 ∧ ¬ (a : Int) < most) := by omega
      clear h12
      have ha1 : 0 < a := by omega
      have hrs0 := hrs.di0 (B' := fun _ => 0) (Cp' := fun _ => 0) (f' := fun _ _ => 0) rfl
      clear hrs
      rcases hx with h1 | ⟨h1, h2⟩ <;> (
        go_wp2_with fail
        clear h1
        (try clear h2)
        go_loopw [10] (fun iv wr => ∃ (j : Nat) (dv : Value) (B Cp : Nat → Nat) (f : Nat → Nat → Int), iv = .int .i64 j ∧ j ≤ 7 ∧ Hid (∀ i b, i < j → b < a → 0 ≤ f i b ∧ f i b < 20) ∧ RS w wr p rb bf ov dv xs j B Cp f (m + 20 + 20 * j)) (fun iv _ => 7 - (intOf iv).toNat)
        case atStart => exact ⟨0, _, _, _, _, rfl, by omega, (by show ∀ i b, _ → _; intro i b hi; omega), hrs0.more (by omega)⟩
        case round =>
          clear hrs0
          obtain ⟨j, dv, B, Cp, f, rfl, hj, Hf, hrs⟩ := hrel
          obtain ⟨wo, rfl⟩ : ∃ wo : World, wo = wr := ⟨_, rfl⟩
          by_cases h12 : (j : Int) < m0 ∧ (j : Int) < most
          · obtain ⟨h1, h2⟩ := h12
            have q0 := hrs.c0
            obtain ⟨Ao, co, hvo⟩ := hrs.rf.op.shape
            rw [hxa] at hvo
            subst hvo
            have hun := hrs.under
            have hN : bf < wo.heap.size := hrs.size
            have hka : Kp wo (wo.alloc (.cells #[] 3)) := (Kp.refl wo).alloc _
            have hro := own_new0 wo wo.heap.size (Nat.le_refl _)
            have hra := hrs.kp hka
            have hlo := hrs.lo
            clear hrs q0
            go_wp2_with fail
            generalize hNe : wo.heap.size = N at *
            generalize wo.alloc (.cells #[] 3) = wi at *
            go_loopw [11, 12] (fun rx iv wr => ∃ (b g c : Nat) (ys : List Int), iv = .int .i64 b ∧ b ≤ a ∧ rx = .slice (some ⟨g, 0, none⟩) b c ∧ ys.length = b ∧ Hid (∀ y ∈ ys, 0 ≤ y ∧ y < 20) ∧ Own wr N (.slice (some ⟨g, 0, none⟩) b c) ys ∧ RS w wr p rb bf (.slice Ao a co) dv xs j B Cp f (m + 20 + 20 * j + 2 * b)) (fun _ iv _ => a - (intOf iv).toNat)
            case atStart => exact ⟨0, N, 0, [], rfl, by omega, rfl, rfl, (by show ∀ y ∈ _, _; simp), hro, hra.more (by omega)⟩
            case round =>
              clear hro hra hka
              obtain ⟨b, g, c, ys, rfl, hb, rfl, hyl, Hys, hrow, hrs⟩ := hrel
              have q0 := hrs.c0
              by_cases hlb : b < a
              · have CP := Lib.hid (pick_any p _ big wr hrs.cu (by omega) (by omega))
                have hyl2 : ys.length < 1048576 := by omega
                go_wp2_with fail
                with_reducible refine Calls.mono CP.out ?_
                rintro e wp1 ⟨r, rfl, hr, hc1, ht1⟩
                clear CP
                have hq := hrs.drawn ht1 hc1
                have hrow1 := own_low hrow ht1 (fun i hi => by omega)
                have hNw : N ≤ wp1.heap.size := by have := (hrow1.lt g rfl); omega
                go_wp2_with (at_builtin; go_loud (refine wpl_app rfl (.tmp 59) (.tmp 63) rfl N _ ys r rfl rfl hrow1 hNw hyl2 ?_); intro v2 w2 ho2 ht2 h42; obtain ⟨g2, c2, hv2⟩ := ho2.someD (by simp); rw [show (ys ++ [r]).length = b + 1 from by simp [hyl]] at hv2; subst hv2)
                have hq2 := hq.far hun ht2 (fun i hi => (hrow1.lt i hi).1)
                go_roundw
                case rel => exact ⟨b + 1, g2, c2, ys ++ [r], by go_num, by omega, rfl, by simp [hyl], (by show ∀ y ∈ _, _; intro y hy; rcases List.mem_append.1 hy with h | h; exact Hys.out y h; rw [List.mem_singleton] at h; rw [h]; have := hr.2.2 (by omega); omega), ho2, hq2.more (by omega)⟩
                case measure => simp [intOf]; omega
              · obtain rfl : b = a := by omega
                have q1 := hrs.c1
                have hbs : bf + 1 ≤ wr.heap.size := hrs.size
                have hj2 : j < 1048576 := by omega
                have hrow1 := hrow.mono (base' := bf + 1) (by omega)
                have hml : mapTo (lget ys) b = ys := by rw [← hyl]; exact mapTo_self ys
                go_wp2_with (at_builtin; go_loud (refine wpl_apph rfl (.tmp 66) (.tmp 68) rfl (bf + 1) dv j _ (.slice (some ⟨g, 0, none⟩) b c) rfl rfl rfl hrs.rf.di.hd hbs hj2 ?_); intro v2 w2 ho2 ht2 h42; obtain ⟨g0, g1⟩ := hrs.stay1 ht2; obtain ⟨A2, c2, hv2⟩ := ownh_shape ho2; subst hv2)
                rw [hxa] at ho2
                have hd2 := (hxa ▸ hrs.rf.di : DMat wr (bf + 1) dv j b B Cp f).push ht2 ho2 (by rw [hml]; exact hrow1) (fun i hi => by have := hun.2.2 i hi; have := (hrow.lt g rfl).1; omega)
                have hst2 := hrs.setDi ht2 (hxa.symm ▸ hd2) (fun i hi => by
                  by_cases e : i = j
                  · rw [e, upd_at]; intro h; have := hun.1 g h; have := (hrow.lt g rfl).1; omega
                  · rw [upd_ne e]; exact hrs.rf.ap i (by omega))
                go_roundw
                case rel => exact ⟨j + 1, _, _, _, _, by go_num, by omega, (by
                  show ∀ i b', _ → _
                  intro i b' hi hb'
                  by_cases e : i = j
                  · rw [e, upd_at]
                    have h := Hys.out (ys[b']'(by omega)) (List.getElem_mem _)
                    rw [lget_at (by omega)]; exact h
                  · rw [upd_ne e]; exact Hf.out i b' (by omega) hb'), hst2.more (by omega)⟩
                case measure => simp [intOf]; omega
          · have hx : ¬ (j : Int) < m0 ∨ ((j : Int) < m0 ∧ ¬ (j : Int) < most) := by omega
            have hrb : RB xs j f := ⟨by omega, by omega, by omega, Hxs.out, fun i b hi hb => Hf.out i b hi (by omega)⟩
            have q0 := hrs.c0
            have q1 := hrs.c1
            obtain ⟨Ao, co, hvo⟩ := hrs.rf.op.shape
            rw [hxa] at hvo
            subst hvo
            obtain ⟨Ad, cd, hvd⟩ := hrs.rf.di.shape
            subst hvd
            have HS := Lib.hid hrs
            clear hrs
            rcases hx with h1 | ⟨h1, h2⟩ <;> (
              go_wp2_with (first | (refine wpList_store_mid rfl 27 (.tmp 4) (.tmp 71) rfl rb 0 #[.slice Ao a co, .slice Ad j cd] rfl rfl HS.out.rt (by kernel_rfl) (by simp [Value.oneCell']) ?_) | fail)
              obtain ⟨z0, z1, z2, z3, z4⟩ := HS.out.ret
              exact bodyPost_ret (v := .agg #[.slice Ao a co, .slice Ad j cd]) (by simp [results, Tryz.results103, go_sem, z0, z1]) rfl ⟨_, _, rfl, ⟨xs, j, B, Cp, f, z2, hrb⟩, z3.mono (by omega), z4⟩))
end Go.Proofs.YtpiijhfjliolfaaGreat

/- The drawing of arguments: what spoils a field. No condition. -/
import Derived.Test.YtpiijhfjliolfaaGreatQBg
namespace Go.Proofs.YtpiijhfjliolfaaGreat
open Go.RowKit Go.Sort

theorem alloc_drewD (w : World) (o : Obj) : w.drew.alloc o = (w.alloc o).drew := rfl
set_option maxRecDepth 100000 in
set_option maxHeartbeats 2000000 in
theorem spoilt2_any (p m : Nat) (a d : Value) (base : Nat) (xs : List Int) (J : Nat) (B Cp : Nat → Nat) (f : Nat → Nat → Int) (w0 w : World) (hc : Cur w p m) (hm : m < 1000000000) (k0 : Tp p w0 w) (hb0 : w0.heap.size ≤ base) (hp0 : p < w0.heap.size) (hb1 : base ≤ w.heap.size) (hr : RF w base a d xs J B Cp f) (hb : RB xs J f) :
    Calls Tryz.prog 102 #[.pointer (some ⟨p, 0, none⟩), .agg #[a, d]] w fun e w' => ∃ v, e = .returned v ∧ DFld w' w0.heap.size v ∧ Cur w' p (m + 100) ∧ Tp p w0 w' := by
  obtain ⟨ga, ca, rfl, _, _⟩ := hr.op.someP hb.pos
  obtain ⟨Ad, cd, hvd⟩ := hr.di.shape
  subst hvd
  obtain ⟨M, hM⟩ : ∃ M, xs.length = M := ⟨_, rfl⟩
  have hM8 : M ≤ 8 := by have := hb.xl; omega
  have hM0 : 0 < M := by have := hb.pos; omega
  have hJ8 := hb.jl
  have HRB := Lib.hid hb
  rw [hM] at hr ⊢
  have hst : SP w0 ((w.alloc (.cells #[.slice (some ⟨ga, 0, none⟩) M ca, .slice Ad J cd] 27)).alloc (.cells #[.slice none 0 0, .slice none 0 0] 27)) p w.heap.size (w.heap.size + 1) m base (.slice (some ⟨ga, 0, none⟩) M ca) (.slice Ad J cd) xs J B Cp f := by
    obtain ⟨d0, d1⟩ := box2 w (.slice (some ⟨ga, 0, none⟩) M ca) (.slice Ad J cd) 27
    have k1 : Kp w (w.alloc (.cells #[.slice (some ⟨ga, 0, none⟩) M ca, .slice Ad J cd] 27)) := (Kp.refl w).alloc _
    have k2 : Kp _ ((w.alloc (.cells #[.slice (some ⟨ga, 0, none⟩) M ca, .slice Ad J cd] 27)).alloc (.cells #[.slice none 0 0, .slice none 0 0] 27)) := (Kp.refl _).alloc _
    have t1 := there_newD w [.slice (some ⟨ga, 0, none⟩) M ca, .slice Ad J cd] 27
    have t0 := there_newD (w.alloc (.cells #[.slice (some ⟨ga, 0, none⟩) M ca, .slice Ad J cd] 27)) [.slice none 0 0, .slice none 0 0] 27
    simp only [List.length_cons, List.length_nil, Nat.zero_add, Nat.reduceAdd, World.size_alloc] at t0
    have kk := k1.trans k2
    have hle := k0.size
    refine ⟨k2.get d0, k2.get d1, turn_thereD (Turn.of_kp (S := fun _ => False) k2) t1 (fun h => h), t0, hr.kp kk, fun g hg => ?_, fun g hg => ?_, fun j hj => ?_, hc.kp kk, k0.trans (Turn.of_kp kk), ?_⟩
    · have := (hr.op.lt g hg).2; omega
    · have := (hr.di.vlt g hg).2; omega
    · have := (hr.di.lt hj).2; omega
    · simp only [World.size_alloc]; omega
  have eM : ((M : Int) == 0) = false := by simp; omega
  clear hr hb hc k0 hb1
  go_enter Tryz.func102, Tryz.ntmps102
  have q0 := hst.c0
  have q1 := hst.c1
  go_wp2_with fail
  generalize (w.alloc (.cells #[.slice (some ⟨ga, 0, none⟩) M ca, .slice Ad J cd] 27)).alloc (.cells #[.slice none 0 0, .slice none 0 0] 27) = wb at *
  have CP := Lib.hid (pick_any p m M wb hst.cu (by omega) (by omega))
  with_reducible refine Calls.mono CP.out ?_
  rintro e w1 ⟨r, rfl, hra, c1, u1⟩
  clear CP
  have hs1 := hst.drawn u1 c1
  obtain ⟨α, rfl⟩ := Int.eq_ofNat_of_zero_le hra.1
  have hα : α < M := by have := hra.2.2 (by omega); omega
  clear q0 q1 hst hra u1 c1
  go_wp2_with fail
  have CP := Lib.hid (pick_any p (m + 2) 60 w1 hs1.cu (by omega) (by omega))
  with_reducible refine Calls.mono CP.out ?_
  rintro e w2 ⟨k, rfl, hk, c2, u2⟩
  clear CP
  have hs2 := hs1.drawn u2 c2
  clear hs1 u2 c2
  have hk5 : k = 0 ∨ k = 1 ∨ k = 2 ∨ k = 3 ∨ k = 4 ∨ 5 ≤ k := by omega
  clear hk
  have q0 := hs2.c0
  have q1 := hs2.c1
  rcases hk5 with rfl | rfl | rfl | rfl | rfl | hk
  · have hd := hs2.kp (Kp.refl w2).drew
    have CC := amongLit_any p (m + 2 + 2) [-1, 99, 100, 4611686018427387904] w2.drew hd.cu (by omega) (by decide) (by decide)
    simp only [List.map_cons, List.map_nil, List.length_cons, List.length_nil, Nat.zero_add, Nat.reduceAdd] at CC
    replace CC := Lib.hid CC
    replace CC := CC.out
    rw [show w2.drew.heap.size = w2.heap.size from rfl, alloc_drewD] at CC
    replace CC := Lib.hid CC
    have hαI : (α : Int) < (M : Int) := by omega
    have n1 : ((α : Int)).toNat = α := Int.toNat_natCast α
    have a1 : (⟨ga, 0, none⟩ : Addr).add α = ⟨ga, α, none⟩ := add0 _ _
    go_wp2_with fail
    refine wp_region_last2 (S := fun w' => w'.cell? ⟨w.heap.size, 0, none⟩ = some (.slice (some ⟨ga, 0, none⟩) M ca)) (split_cons (split_cons (split_cons (split_cons (split_cons (split_cons (split_cons split_one))))))) (by kernel_rfl) (by kernel_rfl) ?_
    have hHeld : (fun w' => w'.cell? ⟨w.heap.size, 0, none⟩ = some (.slice (some ⟨ga, 0, none⟩) M ca)) w2.drew := hd.c0
    refine wpAnyH_take (i := 0) (v := ?_) rfl (by kernel_rfl) (by kernel_rfl) (by kernel_rfl) (fun _ _ _ h => h) (Or.inl ⟨by rfl, ?_⟩) (by assumption) ?_
    rotate_left
    · intro w hSw; (try dsimp only at hSw); go_simp <;> with_reducible rfl
    (try simp only [Act.put, List.setIfInBounds_toArray, List.set_cons_zero, List.set_cons_succ])
    refine wpAnyH_take (i := 1) (v := ?_) rfl (by kernel_rfl) (by kernel_rfl) (by kernel_rfl) (fun _ _ _ h => h) (Or.inl ⟨by rfl, ?_⟩) (by assumption) ?_
    rotate_left
    · intro w hSw; (try dsimp only at hSw); go_simp <;> with_reducible rfl
    (try simp only [Act.put, List.setIfInBounds_toArray, List.set_cons_zero, List.set_cons_succ])
    refine wpAnyH_take (i := 2) (v := ?_) rfl (by kernel_rfl) (by kernel_rfl) (by kernel_rfl) (fun _ _ _ h => h) (Or.inl ⟨by rfl, ?_⟩) (by assumption) ?_
    rotate_left
    · intro w hSw; (try dsimp only at hSw); go_simp <;> with_reducible rfl
    (try simp only [Act.put, List.setIfInBounds_toArray, List.set_cons_zero, List.set_cons_succ])
    refine wpAnyH_take (i := 3) (v := ?_) rfl (by kernel_rfl) (by kernel_rfl) (by kernel_rfl) (fun _ _ _ h => h) (Or.inl ⟨by rfl, ?_⟩) (by assumption) ?_
    rotate_left
    · intro w hSw; (try dsimp only at hSw); go_simp <;> with_reducible rfl
    (try simp only [Act.put, List.setIfInBounds_toArray, List.set_cons_zero, List.set_cons_succ])
    refine wpAnyH_ready (rs := [4]) (by kernel_rfl) (by simp) ?_
    refine AllReadyH.cons rfl (fun K hK => ?_) AllReadyH.nil
    go_simp
    refine hK.out _ _ ?_ (fun hHeld => ?_)
    · (try dsimp only); exact (((Kp.refl w2.drew).alloc _).get hd.c0)
    clear hK K
    (try simp only [Act.put, List.setIfInBounds_toArray, List.set_cons_zero, List.set_cons_succ])
    refine wpAnyH_ready (rs := [5]) (by kernel_rfl) (by simp) ?_
    refine AllReadyH.cons rfl (fun K hK => ?_) AllReadyH.nil
    go_simp
    with_reducible refine Calls.mono CC.out ?_
    rintro e w3 ⟨z, rfl, hz, c3, u3⟩
    (try go_wp2_with fail)
    have hq := hd.drawn u3 c3
    refine hK.out _ _ ?_ (fun hHeld => ?_)
    · (try dsimp only); exact hq.c0
    clear hK K
    (try simp only [Act.put, List.setIfInBounds_toArray, List.set_cons_zero, List.set_cons_succ])
    refine wpAnyH_take (i := 6) (v := ?_) rfl (by kernel_rfl) (by kernel_rfl) (by kernel_rfl) (fun _ _ _ h => h) (Or.inl ⟨by rfl, ?_⟩) (by assumption) ?_
    rotate_left
    · intro w hSw; (try dsimp only at hSw); go_simp <;> with_reducible rfl
    (try simp only [Act.put, List.setIfInBounds_toArray, List.set_cons_zero, List.set_cons_succ])
    obtain ⟨y1, y2, y3⟩ := hq.rf.op.slotL hM hα
    obtain ⟨o3, t3⟩ := y3 z
    refine wpAnyH_done (by kernel_rfl) ?_ _
    change Oper.wp _ _ _ _ _ _
    go_simp
    have HQ := Lib.hid (hq.sqOp HRB.out (t3.mono (fun i hi => by rw [hi]; rfl)) o3 (by rw [List.length_set]; omega) (by rw [List.length_set]; exact hM) hq.na)
    have x0 := turn_cellD t3 hq.c0 (fun e => (hq.na ga rfl).1 e.symm)
    have x1 := turn_cellD t3 hq.c1 (fun e => (hq.na ga rfl).1 e.symm)
    clear hq hd hs2 y1 y2 y3 t3 o3 q0 q1
    generalize w3.setCell ⟨ga, α, none⟩ (.int .i64 z) = w4 at *
    go_wp2_with (first | (refine wpList_store_mid rfl 27 (.tmp 4) (.tmp 66) rfl (w.heap.size + 1) 0 #[.slice (some ⟨ga, 0, none⟩) M ca, .slice Ad J cd] rfl rfl HQ.out.rt (by kernel_rfl) (by simp [Value.oneCell']) ?_) | fail)
    obtain ⟨z0, z1, z2, z3, z4⟩ := HQ.out.ret
    exact bodyPost_ret (v := .agg #[.slice (some ⟨ga, 0, none⟩) M ca, .slice Ad J cd]) (by simp [results, Tryz.results102, go_sem, z0, z1]) rfl ⟨_, rfl, ⟨_, z2⟩, z3.mono (by omega), z4⟩
  · by_cases hJ0 : J = 0
    · subst hJ0
      have HQ := Lib.hid (hs2.sq HRB.out)
      clear hs2
      go_wp2_with (first | (refine wpList_store_mid rfl 27 (.tmp 4) (.tmp 66) rfl (w.heap.size + 1) 0 #[.slice (some ⟨ga, 0, none⟩) M ca, .slice Ad 0 cd] rfl rfl HQ.out.rt (by kernel_rfl) (by simp [Value.oneCell']) ?_) | fail)
      obtain ⟨z0, z1, z2, z3, z4⟩ := HQ.out.ret
      exact bodyPost_ret (v := .agg #[.slice (some ⟨ga, 0, none⟩) M ca, .slice Ad 0 cd]) (by simp [results, Tryz.results102, go_sem, z0, z1]) rfl ⟨_, rfl, ⟨_, z2⟩, z3.mono (by omega), z4⟩
    · have hJp : 0 < J := by omega
      have hJI : (0 : Int) < (J : Int) := by omega
      obtain ⟨g, cap, hdv, hm0⟩ := hs2.rf.di.mat hJp
      simp only [Value.slice.injEq] at hdv
      obtain ⟨rfl, -, rfl⟩ := hdv
      rw [hM] at hm0
      have hd := hs2.kp (Kp.refl w2).drew
      have CC := amongLit_any p (m + 2 + 2) [-1, 99, 100, -9223372036854775808] w2.drew hd.cu (by omega) (by decide) (by decide)
      simp only [List.map_cons, List.map_nil, List.length_cons, List.length_nil, Nat.zero_add, Nat.reduceAdd] at CC
      replace CC := Lib.hid CC
      replace CC := CC.out
      rw [show w2.drew.heap.size = w2.heap.size from rfl, alloc_drewD] at CC
      replace CC := Lib.hid CC
      have hαI : (α : Int) < (M : Int) := by omega
      have n1 : ((α : Int)).toNat = α := Int.toNat_natCast α
      have a1 : (⟨B 0, 0, none⟩ : Addr).add α = ⟨B 0, α, none⟩ := add0 _ _
      have a2 : (⟨g, 0, none⟩ : Addr).add 0 = ⟨g, 0, none⟩ := add0 _ _
      have y0 := (Kp.refl w2).drew.get (hm0.hcell hJp)
      go_wp2_with fail
      refine wp_region_last2 (S := fun w' => w'.cell? ⟨w.heap.size, 1, none⟩ = some (.slice (some ⟨g, 0, none⟩) J cd) ∧ w'.cell? ⟨g, 0, none⟩ = some (.slice (some ⟨B 0, 0, none⟩) M (Cp 0))) (split_cons (split_cons (split_cons (split_cons (split_cons (split_cons (split_cons (split_cons (split_cons split_one))))))))) (by kernel_rfl) (by kernel_rfl) ?_
      have hHeld : (fun w' => w'.cell? ⟨w.heap.size, 1, none⟩ = some (.slice (some ⟨g, 0, none⟩) J cd) ∧ w'.cell? ⟨g, 0, none⟩ = some (.slice (some ⟨B 0, 0, none⟩) M (Cp 0))) w2.drew := ⟨hd.c1, y0⟩
      refine wpAnyH_take (i := 0) (v := ?_) rfl (by kernel_rfl) (by kernel_rfl) (by kernel_rfl) (fun _ _ _ h => h) (Or.inl ⟨by rfl, ?_⟩) (by assumption) ?_
      rotate_left
      · intro w hSw; (try dsimp only at hSw); go_simp <;> with_reducible rfl
      (try simp only [Act.put, List.setIfInBounds_toArray, List.set_cons_zero, List.set_cons_succ])
      refine wpAnyH_take (i := 1) (v := ?_) rfl (by kernel_rfl) (by kernel_rfl) (by kernel_rfl) (fun _ _ _ h => h) (Or.inl ⟨by rfl, ?_⟩) (by assumption) ?_
      rotate_left
      · intro w hSw; (try dsimp only at hSw); go_simp <;> with_reducible rfl
      (try simp only [Act.put, List.setIfInBounds_toArray, List.set_cons_zero, List.set_cons_succ])
      refine wpAnyH_take (i := 2) (v := ?_) rfl (by kernel_rfl) (by kernel_rfl) (by kernel_rfl) (fun _ _ _ h => h) (Or.inl ⟨by rfl, ?_⟩) (by assumption) ?_
      rotate_left
      · intro w hSw; (try dsimp only at hSw); go_simp <;> with_reducible rfl
      (try simp only [Act.put, List.setIfInBounds_toArray, List.set_cons_zero, List.set_cons_succ])
      refine wpAnyH_take (i := 3) (v := ?_) rfl (by kernel_rfl) (by kernel_rfl) (by kernel_rfl) (fun _ _ _ h => h) (Or.inl ⟨by rfl, ?_⟩) (by assumption) ?_
      rotate_left
      · intro w hSw; (try dsimp only at hSw); go_simp <;> with_reducible rfl
      (try simp only [Act.put, List.setIfInBounds_toArray, List.set_cons_zero, List.set_cons_succ])
      refine wpAnyH_take (i := 4) (v := ?_) rfl (by kernel_rfl) (by kernel_rfl) (by kernel_rfl) (fun _ _ _ h => h) (Or.inl ⟨by rfl, ?_⟩) (by assumption) ?_
      rotate_left
      · intro w hSw; (try dsimp only at hSw); go_simp <;> with_reducible rfl
      (try simp only [Act.put, List.setIfInBounds_toArray, List.set_cons_zero, List.set_cons_succ])
      refine wpAnyH_take (i := 5) (v := ?_) rfl (by kernel_rfl) (by kernel_rfl) (by kernel_rfl) (fun _ _ _ h => h) (Or.inl ⟨by rfl, ?_⟩) (by assumption) ?_
      rotate_left
      · intro w hSw; (try dsimp only at hSw); go_simp <;> with_reducible rfl
      (try simp only [Act.put, List.setIfInBounds_toArray, List.set_cons_zero, List.set_cons_succ])
      refine wpAnyH_ready (rs := [6]) (by kernel_rfl) (by simp) ?_
      refine AllReadyH.cons rfl (fun K hK => ?_) AllReadyH.nil
      go_simp
      refine hK.out _ _ ?_ (fun hHeld => ?_)
      · (try dsimp only); exact ⟨((Kp.refl w2.drew).alloc _).get hd.c1, ((Kp.refl w2.drew).alloc _).get y0⟩
      clear hK K
      (try simp only [Act.put, List.setIfInBounds_toArray, List.set_cons_zero, List.set_cons_succ])
      refine wpAnyH_ready (rs := [7]) (by kernel_rfl) (by simp) ?_
      refine AllReadyH.cons rfl (fun K hK => ?_) AllReadyH.nil
      go_simp
      with_reducible refine Calls.mono CC.out ?_
      rintro e w3 ⟨z, rfl, hz, c3, u3⟩
      (try go_wp2_with fail)
      have hq := hd.drawn u3 c3
      have hlo := hs2.lo
      have hgp : g ≠ p := by have := hm0.glt; omega
      refine hK.out _ _ ?_ (fun hHeld => ?_)
      · (try dsimp only); exact ⟨hq.c1, turn_cellD u3 y0 (by show g ≠ p; exact hgp)⟩
      clear hK K
      (try simp only [Act.put, List.setIfInBounds_toArray, List.set_cons_zero, List.set_cons_succ])
      refine wpAnyH_take (i := 8) (v := ?_) rfl (by kernel_rfl) (by kernel_rfl) (by kernel_rfl) (fun _ _ _ h => h) (Or.inl ⟨by rfl, ?_⟩) (by assumption) ?_
      rotate_left
      · intro w hSw; (try dsimp only at hSw); go_simp <;> with_reducible rfl
      (try simp only [Act.put, List.setIfInBounds_toArray, List.set_cons_zero, List.set_cons_succ])
      obtain ⟨g2, cap2, hdv2, hm3⟩ := hq.rf.di.mat hJp
      simp only [Value.slice.injEq, Option.some.injEq, Addr.mk.injEq, and_true, true_and] at hdv2
      obtain ⟨rfl, rfl⟩ := hdv2
      rw [hM] at hm3
      obtain ⟨y1, y2, y3⟩ := hm3.cell hJp hα
      obtain ⟨o3, t3⟩ := y3 z
      refine wpAnyH_done (by kernel_rfl) ?_ _
      change Oper.wp _ _ _ _ _ _
      go_simp
      have HQ := Lib.hid (hq.sqDi HRB.out hJp t3 (by rw [hM]; exact o3.dmat))
      have x0 := turn_cellD t3 hq.c0 (fun e => (hq.nb 0 hJp).1 e.symm)
      have x1 := turn_cellD t3 hq.c1 (fun e => (hq.nb 0 hJp).1 e.symm)
      clear hq hd hs2 y0 y1 y2 y3 t3 o3 q0 q1 hm0 hm3
      generalize w3.setCell ⟨B 0, α, none⟩ (.int .i64 z) = w4 at *
      go_wp2_with (first | (refine wpList_store_mid rfl 27 (.tmp 4) (.tmp 66) rfl (w.heap.size + 1) 0 #[.slice (some ⟨ga, 0, none⟩) M ca, .slice (some ⟨g, 0, none⟩) J cd] rfl rfl HQ.out.rt (by kernel_rfl) (by simp [Value.oneCell']) ?_) | fail)
      obtain ⟨z0, z1, z2, z3, z4⟩ := HQ.out.ret
      exact bodyPost_ret (v := .agg #[.slice (some ⟨ga, 0, none⟩) M ca, .slice (some ⟨g, 0, none⟩) J cd]) (by simp [results, Tryz.results102, go_sem, z0, z1]) rfl ⟨_, rfl, ⟨_, z2⟩, z3.mono (by omega), z4⟩
  · have hlo := hs2.lo
    have hbw : base ≤ w2.heap.size := by omega
    have hxl : xs.length < 1048576 := by omega
    have hfz := hs2.frz.1
    have hl3 : (xs ++ [(1 : Int)]).length = M + 1 := by rw [List.length_append, hM]; rfl
    have hsq := Lib.hid (fun (v3 : Value) (w3 : World) (A3 : Option Addr) (c3 : Nat) (hv : v3 = .slice A3 (M + 1) c3) (ho3 : Own w3 base v3 (xs ++ [1])) (ht3 : Turn (fun i => (Value.slice (some ⟨ga, 0, none⟩) M ca).ownBlock = some i) w2 w3) (h43 : v3.ownBlock = (Value.slice (some ⟨ga, 0, none⟩) M ca).ownBlock ∨ ∀ g, v3.ownBlock = some g → w2.heap.size ≤ g) =>
      (show (w3.cell? ⟨w.heap.size, 0, none⟩).isSome = true ∧ w3.frozen? ⟨w.heap.size, 0, none⟩ = false ∧ (w3.setCell ⟨w.heap.size, 0, none⟩ v3).cell? ⟨w.heap.size, 0, none⟩ = some v3 ∧ (w3.setCell ⟨w.heap.size, 0, none⟩ v3).cell? ⟨w.heap.size, 1, none⟩ = some (.slice Ad J cd) ∧ SQ w0 (w3.setCell ⟨w.heap.size, 0, none⟩ v3) p w.heap.size (w.heap.size + 1) (m + 2 + 2) v3 (.slice Ad J cd) ⟨xs ++ [1], matL J xs.length f⟩ from by
        subst hv
        obtain ⟨y0, y1, y2, y3, y4, y5⟩ := hs2.step ht3 (fun i hi => ⟨(hs2.rf.op.lt i hi).1, hs2.na i hi⟩)
        obtain ⟨y6, y7⟩ := y2 0 (by omega)
        have hna : ∀ g, (Value.slice A3 (M + 1) c3).ownBlock = some g → g ≠ w.heap.size ∧ g ≠ w.heap.size + 1 := fun g hg => by
          rcases h43 with e | e
          · exact hs2.na g (e ▸ hg)
          · have := e g hg; omega
        exact ⟨y6, y7, World.cell?_setCell_same' _ _ _ y6, by rw [World.cell?_setCell_other _ _ _ _ (by intro h; cases h)]; exact y1, (hs2.sqOp HRB.out ht3 ho3 (by simp; omega) (by simp; omega) hna).box hlo.2.1 hlo.2.2.2.1 hlo.2.2.2.2.1⟩))
    go_wp2_with (first
      | (at_builtin; go_loud (refine wpl_app rfl (.tmp 45) (.tmp 46) rfl base _ xs 1 rfl rfl hs2.rf.op hbw hxl ?_); intro v3 w3 ho3 ht3 h43; obtain ⟨A3, c3, hv3⟩ := ho3.shape; rw [hl3] at hv3; have hqq := hsq.out v3 w3 A3 c3 hv3 ho3 ht3 h43; subst hv3; have y6 := hqq.1; have y7 := hqq.2.1; have x0 := hqq.2.2.1; have x1 := hqq.2.2.2.1; have HQ := Lib.hid hqq.2.2.2.2; obtain ⟨vz, y8⟩ := Option.isSome_iff_exists.1 y6)
      | (refine wpList_store_mid rfl 27 (.tmp 4) (.tmp 66) rfl (w.heap.size + 1) 0 #[.slice A3 (M + 1) c3, .slice Ad J cd] rfl rfl HQ.out.rt (by kernel_rfl) (by simp [Value.oneCell']) ?_)
      | fail)
    obtain ⟨z0, z1, z2, z3, z4⟩ := HQ.out.ret
    exact bodyPost_ret (v := .agg #[.slice A3 (M + 1) c3, .slice Ad J cd]) (by simp [results, Tryz.results102, go_sem, z0, z1]) rfl ⟨_, rfl, ⟨_, z2⟩, z3.mono (by omega), z4⟩
  · clear q0 q1
    go_wp2_with fail
    go_loopw [61] (fun _ wr => ∃ (J' : Nat) (dv' : Value) (B' Cp' : Nat → Nat) (f' : Nat → Nat → Int), Hid (RB xs J' f') ∧ SP w0 wr p w.heap.size (w.heap.size + 1) (m + 2 + 2) base (.slice (some ⟨ga, 0, none⟩) M ca) dv' xs J' B' Cp' f') (fun _ wr => 8 - lenD wr w.heap.size)
    case atStart => exact ⟨J, _, B, Cp, f, HRB, hs2⟩
    case round =>
      clear hs2
      obtain ⟨J', dv', B', Cp', f', HRB2, hs⟩ := hrel
      obtain ⟨A9, c9, hv9⟩ := hs.rf.di.shape
      subst hv9
      have q0 := hs.c0
      have q1 := hs.c1
      have hj8 := HRB2.out.jl
      have hlen : lenD wr w.heap.size = J' := by unfold lenD; rw [q1]
      have Hlen := Lib.hid hlen
      clear hlen
      by_cases hlt : J' < 8
      · have hd := hs.kp (Kp.refl wr).drew
        have hio : IntsAt wr.drew (some ⟨ga, 0, none⟩) xs := hd.rf.op.intsOf (by omega)
        have CC := Lib.hid (l1Own_any ⟨ga, 0, none⟩ xs M ca wr.drew hio hM (by omega))
        have hj2 : J' < 1048576 := by omega
        have hlo := hs.lo
        go_wp2_with fail
        refine wp_region_last2 (S := fun w' => w'.cell? ⟨w.heap.size, 0, none⟩ = some (.slice (some ⟨ga, 0, none⟩) M ca) ∧ w'.cell? ⟨w.heap.size, 1, none⟩ = some (.slice A9 J' c9)) (split_cons (split_cons (split_cons (split_cons (split_cons (split_cons (split_cons (split_cons split_one)))))))) (by kernel_rfl) (by kernel_rfl) ?_
        have hHeld : (fun w' => w'.cell? ⟨w.heap.size, 0, none⟩ = some (.slice (some ⟨ga, 0, none⟩) M ca) ∧ w'.cell? ⟨w.heap.size, 1, none⟩ = some (.slice A9 J' c9)) wr.drew := ⟨hd.c0, hd.c1⟩
        refine wpAnyH_take (i := 0) (v := ?_) rfl (by kernel_rfl) (by kernel_rfl) (by kernel_rfl) (fun _ _ _ h => h) (Or.inl ⟨by rfl, ?_⟩) (by assumption) ?_
        rotate_left
        · intro w hSw; (try dsimp only at hSw); go_simp <;> with_reducible rfl
        (try simp only [Act.put, List.setIfInBounds_toArray, List.set_cons_zero, List.set_cons_succ])
        refine wpAnyH_take (i := 1) (v := ?_) rfl (by kernel_rfl) (by kernel_rfl) (by kernel_rfl) (fun _ _ _ h => h) (Or.inl ⟨by rfl, ?_⟩) (by assumption) ?_
        rotate_left
        · intro w hSw; (try dsimp only at hSw); go_simp <;> with_reducible rfl
        (try simp only [Act.put, List.setIfInBounds_toArray, List.set_cons_zero, List.set_cons_succ])
        refine wpAnyH_take (i := 2) (v := ?_) rfl (by kernel_rfl) (by kernel_rfl) (by kernel_rfl) (fun _ _ _ h => h) (Or.inl ⟨by rfl, ?_⟩) (by assumption) ?_
        rotate_left
        · intro w hSw; (try dsimp only at hSw); go_simp <;> with_reducible rfl
        (try simp only [Act.put, List.setIfInBounds_toArray, List.set_cons_zero, List.set_cons_succ])
        refine wpAnyH_take (i := 3) (v := ?_) rfl (by kernel_rfl) (by kernel_rfl) (by kernel_rfl) (fun _ _ _ h => h) (Or.inl ⟨by rfl, ?_⟩) (by assumption) ?_
        rotate_left
        · intro w hSw; (try dsimp only at hSw); go_simp <;> with_reducible rfl
        (try simp only [Act.put, List.setIfInBounds_toArray, List.set_cons_zero, List.set_cons_succ])
        refine wpAnyH_ready (rs := [4]) (by kernel_rfl) (by simp) ?_
        refine AllReadyH.cons rfl (fun K hK => ?_) AllReadyH.nil
        go_simp
        with_reducible refine Calls.mono CC.out ?_
        rintro e w3 ⟨rv, rfl, hrow, hk3⟩
        obtain ⟨gr, cr, hrv⟩ := hrow.someD (by omega)
        rw [hM] at hrv
        subst hrv
        (try go_wp2_with fail)
        have hq := hd.kp hk3
        refine hK.out _ _ ?_ (fun hHeld => ?_)
        · (try dsimp only); exact ⟨hq.c0, hq.c1⟩
        clear hK K
        (try simp only [Act.put, List.setIfInBounds_toArray, List.set_cons_zero, List.set_cons_succ])
        refine wpAnyH_ready (rs := [5]) (by kernel_rfl) (by simp) ?_
        refine AllReadyH.cons rfl (fun K hK => ?_) AllReadyH.nil
        go_simp
        have hka : Kp w3 (w3.alloc (.cells #[.slice (some ⟨gr, 0, none⟩) M cr] 24)) := (Kp.refl w3).alloc _
        have hqa := hq.kp hka
        refine hK.out _ _ ?_ (fun hHeld => ?_)
        · (try dsimp only); exact ⟨hqa.c0, hqa.c1⟩
        clear hK K
        (try simp only [Act.put, List.setIfInBounds_toArray, List.set_cons_zero, List.set_cons_succ])
        refine wpAnyH_ready (rs := [6]) (by kernel_rfl) (by simp) ?_
        refine AllReadyH.cons rfl (fun K hK => ?_) AllReadyH.nil
        refine step_apph (by rfl) (.tmp 56) (.tmp 60) (by rfl) base (.slice A9 J' c9) J' _ (.slice (some ⟨gr, 0, none⟩) M cr) ⟨w3.heap.size, 0, none⟩ rfl (by rfl) (by rfl) hqa.rf.di.hd (by rw [World.cell?_alloc_at _ _ _ _ rfl]; rfl) hqa.lo.2.2.2.2.2.2.2.1 hj2 ?_
        intro v4 w4 ho4 ht4 h44
        obtain ⟨A4, c4, hv4⟩ := ownh_shape ho4
        subst hv4
        have hgr : wr.heap.size ≤ gr := (hrow.lt gr rfl).1
        have hml : mapTo (lget xs) M = xs := by rw [← hM]; exact mapTo_self xs
        have hrow2 : Own (w3.alloc (.cells #[.slice (some ⟨gr, 0, none⟩) M cr] 24)) base (.slice (some ⟨gr, 0, none⟩) M cr) xs := (hrow.mono (by show base ≤ wr.heap.size; omega)).kp hka
        rw [hM] at ho4
        have hd2 := (hM ▸ hqa.rf.di : DMat _ base (.slice A9 J' c9) J' M B' Cp' f').push ht4 ho4 (by rw [hml]; exact hrow2) (fun i hi => Nat.ne_of_lt (Nat.lt_of_lt_of_le (hs.rf.di.lt hi).2 hgr))
        have hst2 := hqa.setD ht4 (hM.symm ▸ hd2) (fun i hi => by
          by_cases e : i = J'
          · rw [e, upd_at]; intro h; have := (hs.rf.op.lt gr h).2; omega
          · rw [upd_ne e]; exact hs.rf.ap i (by omega)) (fun g hg => by
          rcases h44 with e | e
          · exact hs.nd g (e ▸ hg)
          · have h5 := e g hg
            have h6 := hka.le
            have h7 := hk3.le
            have h8 : wr.drew.heap.size = wr.heap.size := rfl
            omega) (fun i hi => by
          by_cases e : i = J'
          · rw [e, upd_at]; omega
          · rw [upd_ne e]; exact hs.nb i (by omega))
        obtain ⟨y0, y1, y2, y3, y4, y5⟩ := hqa.step ht4 (fun i hi => ⟨(hqa.rf.di.vlt i hi).1, hqa.nd i hi⟩)
        have y6 := (y2 1 (by omega)).2
        simp only [Nat.zero_add] at y6
        refine hK.out _ _ ?_ (fun hHeld => ?_)
        · (try dsimp only); exact ⟨y0, y1⟩
        clear hK K
        (try simp only [Act.put, List.setIfInBounds_toArray, List.set_cons_zero, List.set_cons_succ])
        refine wpAnyH_take (i := 7) (v := ?_) rfl (by kernel_rfl) (by kernel_rfl) (by kernel_rfl) (fun _ _ _ h => h) (Or.inl ⟨by rfl, ?_⟩) (by assumption) ?_
        rotate_left
        · intro w hSw; (try dsimp only at hSw); go_simp <;> with_reducible rfl
        (try simp only [Act.put, List.setIfInBounds_toArray, List.set_cons_zero, List.set_cons_succ])
        refine wpAnyH_done (by kernel_rfl) ?_ _
        change Oper.wp _ _ _ _ _ _
        go_simp
        have HRB3 : RB xs (J' + 1) (upd f' J' (lget xs)) := ⟨by omega, by omega, by omega, HRB2.out.xb, fun i b hi hb => by
          by_cases e : i = J'
          · rw [e, upd_at, lget_at hb]; exact HRB2.out.xb _ (List.getElem_mem _)
          · rw [upd_ne e]; exact HRB2.out.fb i b (by omega) hb⟩
        have hlen2 : lenD (w4.setCell ⟨w.heap.size, 1, none⟩ (.slice A4 (J' + 1) c4)) w.heap.size = J' + 1 := by unfold lenD; rw [hst2.c1]
        have hlen1 := Hlen.out
        clear hd hq hqa hs q0 q1 y0 y1 y2 y3 y4 y5 y6
        go_wp2_with fail
        go_roundw
        case rel => exact ⟨J' + 1, _, _, _, _, Lib.hid HRB3, hst2⟩
        case measure => omega
      · have HQ := Lib.hid (hs.sq HRB2.out)
        clear hs
        go_wp2_with (first | (refine wpList_store_mid rfl 27 (.tmp 4) (.tmp 66) rfl (w.heap.size + 1) 0 #[.slice (some ⟨ga, 0, none⟩) M ca, .slice A9 J' c9] rfl rfl HQ.out.rt (by kernel_rfl) (by simp [Value.oneCell']) ?_) | fail)
        obtain ⟨z0, z1, z2, z3, z4⟩ := HQ.out.ret
        exact bodyPost_ret (v := .agg #[.slice (some ⟨ga, 0, none⟩) M ca, .slice A9 J' c9]) (by simp [results, Tryz.results102, go_sem, z0, z1]) rfl ⟨_, rfl, ⟨_, z2⟩, z3.mono (by omega), z4⟩
  · have HQ : Hid (SQ w0 w2 p w.heap.size (w.heap.size + 1) (m + 2 + 2) (.slice none 0 0) (.slice none 0 0) ⟨[], []⟩) := Lib.hid ⟨hs2.rt, FldP.zero _ _, hs2.cu, hs2.tp, hs2.lo.2.2.1, hs2.lo.2.2.2.2.2.1⟩
    go_wp2_with (first | (refine wpList_store_mid rfl 27 (.tmp 4) (.tmp 65) rfl (w.heap.size + 1) 0 #[.slice none 0 0, .slice none 0 0] rfl rfl HQ.out.rt (by kernel_rfl) (by simp [Value.oneCell']) ?_) | fail)
    obtain ⟨z0, z1, z2, z3, z4⟩ := HQ.out.ret
    exact bodyPost_ret (v := .agg #[.slice none 0 0, .slice none 0 0]) (by simp [results, Tryz.results102, go_sem, z0, z1]) rfl ⟨_, rfl, ⟨_, z2⟩, z3.mono (by omega), z4⟩
  · have e0 : (k == 0) = false := by simp; omega
    have e1 : (k == 1) = false := by simp; omega
    have e2 : (k == 2) = false := by simp; omega
    have e3 : (k == 3) = false := by simp; omega
    have e4 : (k == 4) = false := by simp; omega
    have HQ := Lib.hid (hs2.sq HRB.out)
    clear hs2
    go_wp2_with (first | (refine wpList_store_mid rfl 27 (.tmp 4) (.tmp 66) rfl (w.heap.size + 1) 0 #[.slice (some ⟨ga, 0, none⟩) M ca, .slice Ad J cd] rfl rfl HQ.out.rt (by kernel_rfl) (by simp [Value.oneCell']) ?_) | fail)
    obtain ⟨z0, z1, z2, z3, z4⟩ := HQ.out.ret
    exact bodyPost_ret (v := .agg #[.slice (some ⟨ga, 0, none⟩) M ca, .slice Ad J cd]) (by simp [results, Tryz.results102, go_sem, z0, z1]) rfl ⟨_, rfl, ⟨_, z2⟩, z3.mono (by omega), z4⟩
end Go.Proofs.YtpiijhfjliolfaaGreat

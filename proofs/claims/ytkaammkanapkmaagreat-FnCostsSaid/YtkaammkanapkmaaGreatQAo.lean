/- FairShares: the program. No condition. -/
import Derived.Test.YtkaammkanapkmaaGreatQAn
import Derived.Test.YtkaammkanapkmaaGreatQAe
import Derived.Laws.EntriesVeiled
namespace Go.Proofs.YtkaammkanapkmaaGreat
open Go.RowKit Go.Sort

set_option maxRecDepth 100000 in
set_option maxHeartbeats 2000000 in
theorem implFr_any (f : Value) (F : Fld) (w : World) (hf : FldAt w f F) :
    Calls Tryz.prog 15 #[f] w fun e w' => ∃ v, e = .returned (.tuple #[v, .int .i64 (frM F), .bool (goodF F)]) ∧ Own w' w.heap.size v (frL F) ∧ Kp w w' := by
  obtain ⟨A, c, B, d, rfl, hA, hB⟩ := hf
  have hk0 : Kp w (w.alloc (.cells #[.slice A F.op.length c, .slice B F.di.length d] 27)) := (Kp.refl w).alloc _
  obtain ⟨d0, d1⟩ := box2 w (.slice A F.op.length c) (.slice B F.di.length d) 27
  have hFA := FldAt.kp (show FldAt w (.agg #[.slice A F.op.length c, .slice B F.di.length d]) F from ⟨A, c, B, d, rfl, hA, hB⟩) hk0
  clear hA hB
  go_enter Tryz.func15, Tryz.ntmps15
  go_wp2_with fail
  have hsz : Hid ((w.alloc (.cells #[.slice A F.op.length c, .slice B F.di.length d] 27)).heap.size = w.heap.size + 1) := by show _ = _; simp
  generalize w.alloc (.cells #[.slice A F.op.length c, .slice B F.di.length d] 27) = wb at *
  have hkb : Kp wb wb := Kp.refl _
  have hkw := hk0
  have CC := Lib.hid (isField_any _ F _ (hFA.kp hkb))
  with_reducible refine Calls.mono CC.out ?_
  rintro e w1 ⟨rfl, hk1⟩
  clear CC
  replace hkb := hkb.trans hk1
  cases hg_ : goodF F
  · have Hg := Lib.hid hg_
    clear hg_
    have q_d0 := hkb.get d0
    have q_d1 := hkb.get d1
    go_wp2_with fail
    go_ret3
    exact ⟨_, by rw [Hg.out, frM_no Hg.out]; rfl, by rw [frL_no Hg.out]; exact Own.nil _ _, hkw.trans hkb⟩
  have HG := Lib.hid hg_; clear hg_
  have h7 := (goodF_iff.1 HG.out).2.2.1
  have hmk := run_make_row' (P := Tryz.prog) 24 3 (.int .i64 0) 8 Tryz.underlying24 infoInt rfl .i64 .i64 F.di.length (by omega) (by omega)
  have CT := Lib.hid (fun (wx : World) (hx : Kp w1 wx) => costs_any _ F wx (hFA.kp (hkb.trans hx)) HG.out)
  have hmade := Lib.hid (fun (wx : World) => own_made wx wx.heap.size F.di.length (Nat.le_refl _) (by omega))
  have Hml := Lib.hid (mapTo_len (ctF F) (2 ^ F.di.length))
  have z0 := hkb.get d0
  have z1 := hkb.get d1
  have q_d0 := hkb.get d0
  have q_d1 := hkb.get d1
  go_wp2_with fail
  go_cut [5, 6, 7] (fun cv ov mv wc => ∃ (bc bu bm G gt cc : Nat), cv = .pointer (some ⟨bc, 0, none⟩) ∧ ov = .pointer (some ⟨bu, 0, none⟩) ∧ mv = .pointer (some ⟨bm, 0, none⟩) ∧ Hid (FrI w1 wc bc bu bm G gt cc F.di.length (2 ^ F.di.length) (ctF F)))
  case first =>
    refine wp_region_held_drew (S := fun w' => w'.cell? ⟨w.heap.size, 0, none⟩ = some (.slice A F.op.length c) ∧ w'.cell? ⟨w.heap.size, 1, none⟩ = some (.slice B F.di.length d) ∧ Kp w1 w') (by kernel_rfl) (by refine ⟨z0, z1, ?_⟩; exact (Kp.refl _).drew) (fun hHeld => ?_)
    refine wpAnyH_take (i := 0) (v := ?_) rfl (by kernel_rfl) (by kernel_rfl) (by kernel_rfl) (fun _ _ _ h => h) (Or.inl ⟨by rfl, ?_⟩) (by assumption) ?_
    rotate_left
    · intro w hSw; (try dsimp only at hSw); go_simp <;> with_reducible rfl
    simp only [Act.put, List.setIfInBounds_toArray, List.set_cons_zero, List.set_cons_succ]
    refine wpAnyH_take (i := 2) (v := ?_) rfl (by kernel_rfl) (by kernel_rfl) (by kernel_rfl) (fun _ _ _ h => h) (Or.inl ⟨by rfl, ?_⟩) (by assumption) ?_
    rotate_left
    · intro w hSw; (try dsimp only at hSw); go_simp <;> with_reducible rfl
    simp only [Act.put, List.setIfInBounds_toArray, List.set_cons_zero, List.set_cons_succ]
    refine wpAnyH_take (i := 3) (v := ?_) rfl (by kernel_rfl) (by kernel_rfl) (by kernel_rfl) (fun _ _ _ h => h) (Or.inl ⟨by rfl, ?_⟩) (by assumption) ?_
    rotate_left
    · intro w hSw; (try dsimp only at hSw); go_simp <;> with_reducible rfl
    simp only [Act.put, List.setIfInBounds_toArray, List.set_cons_zero, List.set_cons_succ]
    refine wpAnyH_take (i := 4) (v := ?_) rfl (by kernel_rfl) (by kernel_rfl) (by kernel_rfl) (fun _ _ _ h => h) (Or.inl ⟨by rfl, ?_⟩) (by assumption) ?_
    rotate_left
    · intro w hSw; (try dsimp only at hSw); go_simp <;> with_reducible rfl
    simp only [Act.put, List.setIfInBounds_toArray, List.set_cons_zero, List.set_cons_succ]
    refine wpAnyH_actS (fun a0 ha0 => ?_)
    simp only [List.getElem_toArray, List.getElem_cons_zero, List.getElem_cons_succ, Act.put, List.setIfInBounds_toArray, List.set_cons_zero, List.set_cons_succ] at ha0
    have e13 : a0.tmps.getD 13 undef = .agg #[.slice A F.op.length c, .slice B F.di.length d] := by rw [ha0]; rfl
    have e17 : a0.tmps.getD 17 undef = .int .i64 (F.di.length : Int) := by rw [ha0]; rfl
    have es : a0.tmps.size = 25 := by rw [ha0]; rfl
    have HA := Lib.hid ha0
    clear ha0
    refine wpAnyH_invS (I := fun listed a wi => RJ w1 F.di.length (2 ^ F.di.length) (ctF F) a0 listed a wi) ?_ ?_ _ _ _ _ (Nat.le_of_ble_eq_true (by kernel_rfl)) ?_
    · intro i o listed a wi ho h0 hall hI K hK
      have hi : i < 12 := (Array.getElem?_eq_some_iff.1 ho).1
      have hni : ∀ k ∈ [0, 2, 3, 4], i ≠ k := fun k hk e => by
        subst e
        exact onW_not h0 (hI.took i hk) rfl
      have hc : i = 1 ∨ i = 5 ∨ i = 6 ∨ i = 7 ∨ i = 8 ∨ i = 9 ∨ i = 10 ∨ i = 11 := by
        have := fun k hk => hni k hk
        simp only [List.mem_cons, List.not_mem_nil, or_false, forall_eq_or_imp, forall_eq] at this
        omega
      have hkS : ∀ {a' : Act} {w' : World}, RJ w1 F.di.length (2 ^ F.di.length) (ctF F) a0 (listed.setIfInBounds i true) a' w' → K a' w' := fun h => hK _ _ ⟨h.kp.get z0, h.kp.get z1, h.kp⟩ h
      rcases hc with rfl | rfl | rfl | rfl | rfl | rfl | rfl | rfl
      · simp only [List.getElem?_toArray, List.getElem?_cons_zero, List.getElem?_cons_succ, Option.some.injEq] at ho
        subst ho
        rw [if_pos (by rfl)]
        have x13 : a.tmps.getD 13 undef = .agg #[.slice A F.op.length c, .slice B F.di.length d] := by rw [hI.same.2.2 13 (by decide)]; exact e13
        have hnew := Lib.hid (fun (w' : World) (v : Value) (hov : Own w' wi.heap.size v (mapTo (ctF F) (2 ^ F.di.length))) (hk : Kp wi w') => (show K (a.put (some 14) v) w' from by
          obtain ⟨gv, cv, rfl⟩ := hov.at0 Hml.out (Nat.two_pow_pos _)
          exact hkS (hI.new es h0 (by simp [objW]) hk (hov.lt gv rfl).1 (fun _ => ⟨gv, cv, rfl, hov.mono hI.kp.le⟩) (fun e => by omega) (fun e => by simp [ptrW] at e))))
        have CC := Lib.hid (CT.out wi hI.kp)
        clear hK hI hkS hall
        go_simp
        with_reducible refine Calls.mono CC.out ?_
        rintro e w' ⟨v, rfl, hov, hk⟩
        exact hnew.out _ _ hov hk
      · simp only [List.getElem?_toArray, List.getElem?_cons_zero, List.getElem?_cons_succ, Option.some.injEq] at ho
        subst ho
        rw [if_pos (by rfl)]
        have xs : a.tmps.getD 17 undef = .int .i64 (F.di.length : Int) := by rw [hI.same.2.2 17 (by decide)]; exact e17
        refine wp_makeW 24 (.tmp 17) (.tmp 17) rfl xs xs (hmk _) ?_
        exact hkS (hI.new es h0 (by simp [objW]) ((Kp.refl _).alloc _) (Nat.le_refl _) (fun e => by omega) (fun _ => ⟨wi.heap.size, rfl, (hmade.out wi).mono hI.kp.le⟩) (fun e => by simp [ptrW] at e))
      · simp only [List.getElem?_toArray, List.getElem?_cons_zero, List.getElem?_cons_succ, Option.some.injEq] at ho
        subst ho
        rw [if_pos (by rfl)]
        have hb := hkS (hI.new (k := 6) (s := 5) (w' := wi.alloc (.cells #[.slice none 0 0] 24)) (v := .pointer (some ⟨wi.heap.size, 0, none⟩)) es h0 (by simp [objW]) ((Kp.refl _).alloc _) (Nat.le_refl _) (fun e => by omega) (fun e => by omega) (fun _ => ⟨wi.heap.size, rfl, hI.kp.le, by simp, there_newW _ _ _⟩))
        clear hK hI hkS
        go_simp
        exact hb
      · simp only [List.getElem?_toArray, List.getElem?_cons_zero, List.getElem?_cons_succ, Option.some.injEq] at ho
        subst ho
        rw [if_pos (by rfl)]
        have hb := hkS (hI.new (k := 7) (s := 6) (w' := wi.alloc (.cells #[.slice none 0 0] 24)) (v := .pointer (some ⟨wi.heap.size, 0, none⟩)) es h0 (by simp [objW]) ((Kp.refl _).alloc _) (Nat.le_refl _) (fun e => by omega) (fun e => by omega) (fun _ => ⟨wi.heap.size, rfl, hI.kp.le, by simp, there_newW _ _ _⟩))
        clear hK hI hkS
        go_simp
        exact hb
      · simp only [List.getElem?_toArray, List.getElem?_cons_zero, List.getElem?_cons_succ, Option.some.injEq] at ho
        subst ho
        rw [if_pos (by rfl)]
        have hb := hkS (hI.new (k := 8) (s := 7) (w' := wi.alloc (.cells #[.int .i64 0] 3)) (v := .pointer (some ⟨wi.heap.size, 0, none⟩)) es h0 (by simp [objW]) ((Kp.refl _).alloc _) (Nat.le_refl _) (fun e => by omega) (fun e => by omega) (fun _ => ⟨wi.heap.size, rfl, hI.kp.le, by simp, there_newW _ _ _⟩))
        clear hK hI hkS
        go_simp
        exact hb
      · simp only [List.getElem?_toArray, List.getElem?_cons_zero, List.getElem?_cons_succ, Option.some.injEq] at ho
        subst ho
        rw [if_pos (by rfl)]
        have qk : onW listed 6 := hall ⟨6, .data⟩ (by simp) rfl
        obtain ⟨bp, y5, b1, b2, b3⟩ := hI.ptr 6 5 (by simp [ptrW]) qk
        have qv : onW listed 1 := hall ⟨1, .data⟩ (by simp) rfl
        have hb := hkS (hI.store (v := slotW a 14) h0 (by simp [ptrW]) (.inl ⟨rfl, rfl, rfl, qv⟩) qk y5)
        obtain ⟨gv, cv, yv, _⟩ := hI.tab qv
        rw [yv] at hb
        unfold slotW at yv
        obtain ⟨u0, u1, u2⟩ := there_someF b3
        unfold slotW at y5
        clear hK hI hkS hall
        go_simp
        exact hb
      · simp only [List.getElem?_toArray, List.getElem?_cons_zero, List.getElem?_cons_succ, Option.some.injEq] at ho
        subst ho
        rw [if_pos (by rfl)]
        have qk : onW listed 7 := hall ⟨7, .data⟩ (by simp) rfl
        obtain ⟨bp, y5, b1, b2, b3⟩ := hI.ptr 7 6 (by simp [ptrW]) qk
        have qv : onW listed 5 := hall ⟨5, .data⟩ (by simp) rfl
        have hb := hkS (hI.store (v := slotW a 18) h0 (by simp [ptrW]) (.inr (.inl ⟨rfl, rfl, rfl, qv⟩)) qk y5)
        obtain ⟨gv, yv, _⟩ := hI.row qv
        rw [yv] at hb
        unfold slotW at yv
        obtain ⟨u0, u1, u2⟩ := there_someF b3
        unfold slotW at y5
        clear hK hI hkS hall
        go_simp
        exact hb
      · simp only [List.getElem?_toArray, List.getElem?_cons_zero, List.getElem?_cons_succ, Option.some.injEq] at ho
        subst ho
        rw [if_pos (by rfl)]
        have qk : onW listed 8 := hall ⟨8, .data⟩ (by simp) rfl
        obtain ⟨bp, y5, b1, b2, b3⟩ := hI.ptr 8 7 (by simp [ptrW]) qk
        have hb := hkS (hI.store (v := .int .i64 0) h0 (by simp [ptrW]) (.inr (.inr ⟨rfl, rfl, rfl⟩)) qk y5)
        obtain ⟨u0, u1, u2⟩ := there_someF b3
        unfold slotW at y5
        clear hK hI hkS hall
        go_simp
        exact hb
    · intro listed a wc hr hI
      have hl : ∀ k, k ≤ 12 → ∀ m, m < k → onW listed m := by
        intro k
        induction k with
        | zero => intro _ m hm; omega
        | succ k ih =>
          intro hk m hm
          have ih := ih (by omega)
          by_cases e : m = k
          · subst e
            have hx : m = 0 ∨ m = 1 ∨ m = 2 ∨ m = 3 ∨ m = 4 ∨ m = 5 ∨ m = 6 ∨ m = 7 ∨ m = 8 ∨ m = 9 ∨ m = 10 ∨ m = 11 := by omega
            rcases hx with rfl | rfl | rfl | rfl | rfl | rfl | rfl | rfl | rfl | rfl | rfl | rfl <;> exact ready_nextW hr (by rw [hI.sz]; omega) rfl (by kernel_rfl) ih
          · exact ih m (by omega)
      obtain ⟨bc, bu, bm, G, gt, cc, y5, y6, y7, y14, y18, hF⟩ := hI.done (fun k hk => hl 12 (Nat.le_refl _) k hk)
      have HF := Lib.hid hF
      have ea := hI.same.eq (by rw [es]; decide)
      simp only [List.foldl_cons, List.foldl_nil] at ea
      unfold slotW at y5 y6 y7 y14 y18
      rw [y14, y18, y5, y6, y7, HA.out] at ea
      simp only [Act.put, List.setIfInBounds_toArray, List.set_cons_zero, List.set_cons_succ] at ea
      rw [ea]
      clear ea HA hI hr hl y5 y6 y7 y14 y18 hF e13 e17 es
      go_wp2_with fail
      go_meet
      exact ⟨bc, bu, bm, G, gt, cc, rfl, rfl, rfl, HF⟩
    · refine ⟨by simp, ?_, ⟨rfl, rfl, fun _ _ => rfl⟩, (Kp.refl _).drew, ?_, ?_, ?_, ?_, ?_, ?_, ?_, ?_, ?_, ?_⟩
      · intro k hk
        simp only [List.mem_cons, List.not_mem_nil, or_false] at hk
        rcases hk with rfl | rfl | rfl | rfl <;> rfl
      · intro ho; exfalso; cases ho
      · intro ho; exfalso; cases ho
      · intro k s hm ho
        simp only [ptrW, List.mem_cons, List.not_mem_nil, or_false, Prod.mk.injEq] at hm
        exfalso
        rcases hm with ⟨rfl, _⟩ | ⟨rfl, _⟩ | ⟨rfl, _⟩ <;> cases ho
      · intro k s k' s' hm _ _ ho
        simp only [objW, List.mem_cons, List.not_mem_nil, or_false, Prod.mk.injEq] at hm
        exfalso
        rcases hm with ⟨rfl, _⟩ | ⟨rfl, _⟩ | ⟨rfl, _⟩ | ⟨rfl, _⟩ | ⟨rfl, _⟩ <;> cases ho
      · intro ho; exfalso; cases ho
      · intro ho; exfalso; cases ho
      · intro ho; exfalso; cases ho
      · intro ho; exfalso; cases ho
      · intro ho; exfalso; cases ho
      · intro ho; exfalso; cases ho
  case rest =>
    obtain ⟨bc, bu, bm, G, gt, cc, rfl, rfl, rfl, HF⟩ := hcut
    have hmf : ∀ (fn : Fn) (first cap : Array Value) (w : World), (Instr.makeFunc fn first cap).run Tryz.prog w = .ok (.func fn first cap) w := fun _ _ _ _ => rfl
    have hcf := callFunc_of Tryz.func38 (by kernel_rfl) (by kernel_rfl)
    clear CT hmade hmk z0 z1
    go_wp2_with fail
    have k1 : Kp wc (wc.alloc (.cells #[] 3)) := (Kp.refl wc).alloc _
    have k2 := k1.alloc (.cells #[.slice (some ⟨wc.heap.size, 0, none⟩) 0 0] 24)
    have k3 := k2.alloc (.cells #[.func (.func 38) #[] #[.pointer (some ⟨wc.heap.size + 1, 0, none⟩), .pointer (some ⟨bu, 0, none⟩), .pointer (some ⟨bc, 0, none⟩), .pointer (some ⟨bm, 0, none⟩), .pointer (some ⟨wc.heap.size + 1 + 1, 0, none⟩)]] 1)
    have eb := World.block_lt_of_cell? _ _ HF.out.x1
    have ec := World.block_lt_of_cell? _ _ HF.out.x2
    have em := World.block_lt_of_cell? _ _ HF.out.x3
    dsimp only at eb ec em
    have eG := (HF.out.ou.lt G rfl).2
    have eg := (HF.out.tb.lt gt rfl).2
    have hl0 := HF.out.kp.le
    obtain ⟨l1, l2, l3, l4, l5⟩ := HF.out.lo
    obtain ⟨m1, m2, m3, m4, m5, m6, m7, m8, m9, m10⟩ := HF.out.ne
    have hd : FrD w1.heap.size (wc.heap.size + 1) bu bc bm (wc.heap.size + 1 + 1) G gt :=
      ⟨⟨by omega, by omega, by omega, by omega, by omega, by omega⟩, ⟨by omega, by omega, by omega, by omega, by omega⟩, ⟨by omega, by omega, by omega, by omega⟩, by omega, by omega, by omega⟩
    have hpw : 2 ^ F.di.length ≤ 128 := Nat.pow_le_pow_right (by omega) h7
    have hto : Hid (FrS w1 (((wc.alloc (.cells #[] 3)).alloc (.cells #[.slice (some ⟨wc.heap.size, 0, none⟩) 0 0] 24)).alloc (.cells #[.func (.func 38) #[] #[.pointer (some ⟨wc.heap.size + 1, 0, none⟩), .pointer (some ⟨bu, 0, none⟩), .pointer (some ⟨bc, 0, none⟩), .pointer (some ⟨bm, 0, none⟩), .pointer (some ⟨wc.heap.size + 1 + 1, 0, none⟩)]] 1)) (wc.heap.size + 1) bu bc bm (wc.heap.size + 1 + 1) G gt F.di.length (2 ^ F.di.length) cc F.di.length wc.heap.size 0 0 (.func (.func 38) #[] #[.pointer (some ⟨wc.heap.size + 1, 0, none⟩), .pointer (some ⟨bu, 0, none⟩), .pointer (some ⟨bc, 0, none⟩), .pointer (some ⟨bm, 0, none⟩), .pointer (some ⟨wc.heap.size + 1 + 1, 0, none⟩)]) (ctF F) [] (fun _ => 0) 0) := by
      have ho0 := own_new0 wc w1.heap.size hl0
      have hox := (ho0.kp ((Kp.refl _).alloc (.cells #[.slice (some ⟨wc.heap.size, 0, none⟩) 0 0] 24))).kp ((Kp.refl _).alloc (.cells #[.func (.func 38) #[] #[.pointer (some ⟨wc.heap.size + 1, 0, none⟩), .pointer (some ⟨bu, 0, none⟩), .pointer (some ⟨bc, 0, none⟩), .pointer (some ⟨bm, 0, none⟩), .pointer (some ⟨wc.heap.size + 1 + 1, 0, none⟩)]] 1))
      have hou := HF.out.ou.kp k3
      rw [zeros_map'] at hou
      have ht2 := there_newW (wc.alloc (.cells #[] 3)) (.slice (some ⟨wc.heap.size, 0, none⟩) 0 0) 24
      rw [World.size_alloc] at ht2
      exact ⟨⟨HF.out.kp.trans k3, k3.get HF.out.x1, k3.get HF.out.x2, k3.get HF.out.x3, by rw [World.cell?_alloc_at _ _ _ _ (by simp)]; rfl, kpT ht2 ((Kp.refl _).alloc _), kpT HF.out.t3 k3, hou, (HF.out.tb.intsOf (by rw [Hml.out]; omega)).kp k3, Nat.lt_of_lt_of_le eg k3.le⟩,
        ⟨⟨by omega, by omega, by omega, by omega, by omega, by omega, by omega⟩, by omega⟩, ((Kp.refl _).alloc _).get (by rw [World.cell?_alloc_at _ _ _ _ (by simp)]; rfl), hox, rfl⟩
    have CC := Lib.hid (frClo F.di.length h7 (ctF F) (fun c => ctF_bd HG.out c) (2 ^ F.di.length) rfl w1 (wc.heap.size + 1) bu bc bm (wc.heap.size + 1 + 1) G gt cc F.di.length hd F.di.length 0 [] wc.heap.size 0 (fun _ => 0) 0 _ (by omega) (Ord.nil _) (fun j => by have := fac_bd F.di.length h7; show -(900000000 - 10000 * facT F.di.length) ≤ (0 : Int) ∧ (0 : Int) ≤ 900000000 - 10000 * facT F.di.length; omega) (by omega) (by have := fac_bd F.di.length h7; omega) hto.out)
    with_reducible refine Calls.mono CC.out ?_
    rintro e w5 ⟨rfl, gq, co, q5⟩
    clear CC hto hd k1 k2 k3
    have y1 := q5.b.x1
    have y3 := q5.b.x3
    have hcn : (0 : Int) + cnT F.di.length F.di.length [] = frM F := by rw [cnT_eq F.di.length [] (Ord.nil _) (by simp), frM_yes HG.out]; omega
    rw [hcn] at y3
    have Q5 := Lib.hid q5
    clear q5
    go_wp2_with fail
    go_region
    all_goals
      (try go_wp2_with fail)
      go_ret3
      refine ⟨_, by rw [HG.out]; rfl, ?_, ((hkw.trans hkb).trans Q5.out.b.kp).trans (by repeat (first | with_reducible assumption | with_reducible exact Kp.refl _ | with_reducible refine Kp.drew ?_ | with_reducible refine Kp.alloc ?_ _ | with_reducible refine Kp.drewN ?_ _ | refine Kp.setCell ?_ (by dsimp only; omega) _))⟩
      have e : mapTo (fun j => (fun _ => (0 : Int)) j + fsT (ctF F) F.di.length j F.di.length []) F.di.length = frL F := by
        rw [frL_yes HG.out]
        refine mapTo_congr' (fun j hj => ?_)
        rw [fs_eq hj F.di.length [] (Ord.nil _) (by simp), if_neg (by simp), gs_all]
        show (0 : Int) + stT (ctF F) F.di.length j 0 0 = _
        omega
      have ho := Q5.out.b.ou
      rw [e] at ho
      exact (ho.mono (hkw.trans hkb).le).kp (by repeat (first | with_reducible assumption | with_reducible exact Kp.refl _ | with_reducible refine Kp.drew ?_ | with_reducible refine Kp.alloc ?_ _ | with_reducible refine Kp.drewN ?_ _ | refine Kp.setCell ?_ (by dsimp only; omega) _))
end Go.Proofs.YtkaammkanapkmaaGreat

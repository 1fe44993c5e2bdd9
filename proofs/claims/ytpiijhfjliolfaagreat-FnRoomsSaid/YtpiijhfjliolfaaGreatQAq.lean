/- The reference's ways of least cost. No condition. -/
import Derived.Test.YtpiijhfjliolfaaGreatQAp
namespace Go.Proofs.YtpiijhfjliolfaaGreat
open Go.RowKit Go.Sort

def LeastPost (w : World) (J M : Nat) (d : Nat → Nat → Int) (may : Nat → Nat → Bool) (fl : Nat → Nat → Int) (nl lf : Nat → Int) (e : Ending) (w' : World) : Prop :=
  ∃ (gc gs gb gf : Nat) (cl si be fr : List Int), e = .returned (.agg #[.slice (some ⟨gc, 0, none⟩) J J, .slice (some ⟨gs, 0, none⟩) M M, .slice (some ⟨gb, 0, none⟩) J J, .slice (some ⟨gf, 0, none⟩) M M]) ∧
    LabM w' w.heap.size gc gs gb gf J M cl si be fr ∧ (∃ pc ps T, Pot J M d may fl lf pc ps T ∧ Bss J M d may fl pc ps nl cl si be fr) ∧ StopS J M d may fl cl si ∧ Kp w w'
set_option maxRecDepth 100000 in
set_option maxHeartbeats 4000000 in
theorem l7Least_any (f : Value) (F : Fld) (L : NetL) (nl lf rm : Nat → Int) (fl : Nat → Nat → Int) (may : Nat → Nat → Bool) (base : Nat) (w : World) (hf : FldAt w f F) (hg : goodF F = true) (hn : NetS w base L F.di.length F.op.length nl lf fl may) (hN : Net F.di.length F.op.length (dF F) may rm fl lf) (hl : ∀ j, 0 ≤ nl j ∧ nl j ≤ 1000) :
    Calls Tryz.prog 109 #[f, L.val F.di.length F.op.length] w (LeastPost w F.di.length F.op.length (dF F) may fl nl lf) := by
  have h7 := (goodF_iff.1 hg).1
  have h8 := (goodF_iff.1 hg).2.2.1
  obtain ⟨A, c, B, d, rfl, hA, hB⟩ := hf
  have HG := Lib.hid hg
  have HB := Lib.hid hB
  have HS := Lib.hid hn
  have HN := Lib.hid hN
  have HL := Lib.hid hl
  have hmJ := run_make_row' (P := Tryz.prog) 24 3 (.int .i64 0) 8 Tryz.underlying24 infoInt rfl .i64 .i64 F.di.length (by omega) (by omega)
  have hmM := run_make_row' (P := Tryz.prog) 24 3 (.int .i64 0) 8 Tryz.underlying24 infoInt rfl .i64 .i64 F.op.length (by omega) (by omega)
  unfold NetL.val
  clear hA hB hg hn hN hl
  go_enter Tryz.func109, Tryz.ntmps109
  go_wp2_with fail
  have d0 : (((w.alloc (.cells #[.slice A F.op.length c, .slice B F.di.length d] 27)).alloc (.cells #[.slice L.nA F.di.length L.cn, .slice (some ⟨L.gr, 0, none⟩) F.op.length L.cr, .slice L.fA F.di.length L.cf, .slice L.mA F.di.length L.cm] 90)).alloc (.cells #[.slice none 0 0, .slice none 0 0, .slice none 0 0, .slice none 0 0] 109)).cell? ⟨w.heap.size, 0, none⟩ = some (.slice A F.op.length c) := by
    rw [World.cell?_alloc_past _ _ _ (by simp only [World.alloc, Array.size_push]; omega), World.cell?_alloc_past _ _ _ (by simp only [World.alloc, Array.size_push]; omega), World.cell?_alloc_at _ _ _ _ rfl]; rfl
  have d1 : (((w.alloc (.cells #[.slice A F.op.length c, .slice B F.di.length d] 27)).alloc (.cells #[.slice L.nA F.di.length L.cn, .slice (some ⟨L.gr, 0, none⟩) F.op.length L.cr, .slice L.fA F.di.length L.cf, .slice L.mA F.di.length L.cm] 90)).alloc (.cells #[.slice none 0 0, .slice none 0 0, .slice none 0 0, .slice none 0 0] 109)).cell? ⟨w.heap.size, 1, none⟩ = some (.slice B F.di.length d) := by
    rw [World.cell?_alloc_past _ _ _ (by simp only [World.alloc, Array.size_push]; omega), World.cell?_alloc_past _ _ _ (by simp only [World.alloc, Array.size_push]; omega), World.cell?_alloc_at _ _ _ _ rfl]; rfl
  have n0 : (((w.alloc (.cells #[.slice A F.op.length c, .slice B F.di.length d] 27)).alloc (.cells #[.slice L.nA F.di.length L.cn, .slice (some ⟨L.gr, 0, none⟩) F.op.length L.cr, .slice L.fA F.di.length L.cf, .slice L.mA F.di.length L.cm] 90)).alloc (.cells #[.slice none 0 0, .slice none 0 0, .slice none 0 0, .slice none 0 0] 109)).cell? ⟨w.heap.size + 1, 0, none⟩ = some (.slice L.nA F.di.length L.cn) := by
    rw [World.cell?_alloc_past _ _ _ (by simp only [World.alloc, Array.size_push]; omega), World.cell?_alloc_at _ _ _ _ (by simp only [World.size_alloc])]; rfl
  have n1 : (((w.alloc (.cells #[.slice A F.op.length c, .slice B F.di.length d] 27)).alloc (.cells #[.slice L.nA F.di.length L.cn, .slice (some ⟨L.gr, 0, none⟩) F.op.length L.cr, .slice L.fA F.di.length L.cf, .slice L.mA F.di.length L.cm] 90)).alloc (.cells #[.slice none 0 0, .slice none 0 0, .slice none 0 0, .slice none 0 0] 109)).cell? ⟨w.heap.size + 1, 1, none⟩ = some (.slice (some ⟨L.gr, 0, none⟩) F.op.length L.cr) := by
    rw [World.cell?_alloc_past _ _ _ (by simp only [World.alloc, Array.size_push]; omega), World.cell?_alloc_at _ _ _ _ (by simp only [World.size_alloc])]; rfl
  have n2 : (((w.alloc (.cells #[.slice A F.op.length c, .slice B F.di.length d] 27)).alloc (.cells #[.slice L.nA F.di.length L.cn, .slice (some ⟨L.gr, 0, none⟩) F.op.length L.cr, .slice L.fA F.di.length L.cf, .slice L.mA F.di.length L.cm] 90)).alloc (.cells #[.slice none 0 0, .slice none 0 0, .slice none 0 0, .slice none 0 0] 109)).cell? ⟨w.heap.size + 1, 2, none⟩ = some (.slice L.fA F.di.length L.cf) := by
    rw [World.cell?_alloc_past _ _ _ (by simp only [World.alloc, Array.size_push]; omega), World.cell?_alloc_at _ _ _ _ (by simp only [World.size_alloc])]; rfl
  have n3 : (((w.alloc (.cells #[.slice A F.op.length c, .slice B F.di.length d] 27)).alloc (.cells #[.slice L.nA F.di.length L.cn, .slice (some ⟨L.gr, 0, none⟩) F.op.length L.cr, .slice L.fA F.di.length L.cf, .slice L.mA F.di.length L.cm] 90)).alloc (.cells #[.slice none 0 0, .slice none 0 0, .slice none 0 0, .slice none 0 0] 109)).cell? ⟨w.heap.size + 1, 3, none⟩ = some (.slice L.mA F.di.length L.cm) := by
    rw [World.cell?_alloc_past _ _ _ (by simp only [World.alloc, Array.size_push]; omega), World.cell?_alloc_at _ _ _ _ (by simp only [World.size_alloc])]; rfl
  have ht4 : (((w.alloc (.cells #[.slice A F.op.length c, .slice B F.di.length d] 27)).alloc (.cells #[.slice L.nA F.di.length L.cn, .slice (some ⟨L.gr, 0, none⟩) F.op.length L.cr, .slice L.fA F.di.length L.cf, .slice L.mA F.di.length L.cm] 90)).alloc (.cells #[.slice none 0 0, .slice none 0 0, .slice none 0 0, .slice none 0 0] 109)).there (w.heap.size + 2) 0 4 := there_new' _ _ _ (by simp only [World.size_alloc])
  have hkw : Kp w (((w.alloc (.cells #[.slice A F.op.length c, .slice B F.di.length d] 27)).alloc (.cells #[.slice L.nA F.di.length L.cn, .slice (some ⟨L.gr, 0, none⟩) F.op.length L.cr, .slice L.fA F.di.length L.cf, .slice L.mA F.di.length L.cm] 90)).alloc (.cells #[.slice none 0 0, .slice none 0 0, .slice none 0 0, .slice none 0 0] 109)) := (((Kp.refl w).alloc _).alloc _).alloc _
  have hszb : (((w.alloc (.cells #[.slice A F.op.length c, .slice B F.di.length d] 27)).alloc (.cells #[.slice L.nA F.di.length L.cn, .slice (some ⟨L.gr, 0, none⟩) F.op.length L.cr, .slice L.fA F.di.length L.cf, .slice L.mA F.di.length L.cm] 90)).alloc (.cells #[.slice none 0 0, .slice none 0 0, .slice none 0 0, .slice none 0 0] 109)).heap.size = w.heap.size + 3 := by simp only [World.size_alloc]
  generalize ((w.alloc (.cells #[.slice A F.op.length c, .slice B F.di.length d] 27)).alloc (.cells #[.slice L.nA F.di.length L.cn, .slice (some ⟨L.gr, 0, none⟩) F.op.length L.cr, .slice L.fA F.di.length L.cf, .slice L.mA F.di.length L.cm] 90)).alloc (.cells #[.slice none 0 0, .slice none 0 0, .slice none 0 0, .slice none 0 0] 109) = wb at *
  have hkb : Kp wb wb := Kp.refl _
  go_cut [5] (fun pv wc => ∃ (gc gs gb gf bp : Nat), pv = .pointer (some ⟨bp, 0, none⟩) ∧ LSt wb wc bp gc gs gb gf F.di.length F.op.length (List.replicate F.di.length 0) (List.replicate F.op.length 0) (List.replicate F.di.length 0) (List.replicate F.op.length 0))
  case first =>
    refine wp_region_held_drew (S := fun w' => w'.cell? ⟨w.heap.size, 0, none⟩ = some (.slice A F.op.length c) ∧ w'.cell? ⟨w.heap.size, 1, none⟩ = some (.slice B F.di.length d) ∧ Kp wb w') (by kernel_rfl) (by refine ⟨d0, d1, ?_⟩; exact (by repeat (first | with_reducible assumption | with_reducible exact Kp.refl _ | with_reducible refine Kp.drew ?_ | with_reducible refine Kp.alloc ?_ _ | with_reducible refine Kp.drewN ?_ _ | refine Kp.setCell ?_ (by dsimp only; omega) _))) (fun hHeld => ?_)
    refine wpAnyH_take (i := 0) (v := ?_) rfl (by kernel_rfl) (by kernel_rfl) (by kernel_rfl) (fun _ _ _ h => h) (Or.inl ⟨by rfl, ?_⟩) (by assumption) ?_
    rotate_left
    · intro w hSw; (try dsimp only at hSw); go_simp <;> with_reducible rfl
    simp only [Act.put, List.setIfInBounds_toArray, List.set_cons_zero, List.set_cons_succ]
    refine wpAnyH_take (i := 1) (v := ?_) rfl (by kernel_rfl) (by kernel_rfl) (by kernel_rfl) (fun _ _ _ h => h) (Or.inl ⟨by rfl, ?_⟩) (by assumption) ?_
    rotate_left
    · intro w hSw; (try dsimp only at hSw); go_simp <;> with_reducible rfl
    simp only [Act.put, List.setIfInBounds_toArray, List.set_cons_zero, List.set_cons_succ]
    refine wpAnyH_take (i := 2) (v := ?_) rfl (by kernel_rfl) (by kernel_rfl) (by kernel_rfl) (fun _ _ _ h => h) (Or.inl ⟨by rfl, ?_⟩) (by assumption) ?_
    rotate_left
    · intro w hSw; (try dsimp only at hSw); go_simp <;> with_reducible rfl
    simp only [Act.put, List.setIfInBounds_toArray, List.set_cons_zero, List.set_cons_succ]
    refine wpAnyH_take (i := 4) (v := ?_) rfl (by kernel_rfl) (by kernel_rfl) (by kernel_rfl) (fun _ _ _ h => h) (Or.inl ⟨by rfl, ?_⟩) (by assumption) ?_
    rotate_left
    · intro w hSw; (try dsimp only at hSw); go_simp <;> with_reducible rfl
    simp only [Act.put, List.setIfInBounds_toArray, List.set_cons_zero, List.set_cons_succ]
    refine wpAnyH_take (i := 5) (v := ?_) rfl (by kernel_rfl) (by kernel_rfl) (by kernel_rfl) (fun _ _ _ h => h) (Or.inl ⟨by rfl, ?_⟩) (by assumption) ?_
    rotate_left
    · intro w hSw; (try dsimp only at hSw); go_simp <;> with_reducible rfl
    simp only [Act.put, List.setIfInBounds_toArray, List.set_cons_zero, List.set_cons_succ]
    refine wpAnyH_take (i := 6) (v := ?_) rfl (by kernel_rfl) (by kernel_rfl) (by kernel_rfl) (fun _ _ _ h => h) (Or.inl ⟨by rfl, ?_⟩) (by assumption) ?_
    rotate_left
    · intro w hSw; (try dsimp only at hSw); go_simp <;> with_reducible rfl
    simp only [Act.put, List.setIfInBounds_toArray, List.set_cons_zero, List.set_cons_succ]
    refine wpAnyH_take (i := 8) (v := ?_) rfl (by kernel_rfl) (by kernel_rfl) (by kernel_rfl) (fun _ _ _ h => h) (Or.inl ⟨by rfl, ?_⟩) (by assumption) ?_
    rotate_left
    · intro w hSw; (try dsimp only at hSw); go_simp <;> with_reducible rfl
    simp only [Act.put, List.setIfInBounds_toArray, List.set_cons_zero, List.set_cons_succ]
    refine wpAnyH_take (i := 9) (v := ?_) rfl (by kernel_rfl) (by kernel_rfl) (by kernel_rfl) (fun _ _ _ h => h) (Or.inl ⟨by rfl, ?_⟩) (by assumption) ?_
    rotate_left
    · intro w hSw; (try dsimp only at hSw); go_simp <;> with_reducible rfl
    simp only [Act.put, List.setIfInBounds_toArray, List.set_cons_zero, List.set_cons_succ]
    refine wpAnyH_take (i := 10) (v := ?_) rfl (by kernel_rfl) (by kernel_rfl) (by kernel_rfl) (fun _ _ _ h => h) (Or.inl ⟨by rfl, ?_⟩) (by assumption) ?_
    rotate_left
    · intro w hSw; (try dsimp only at hSw); go_simp <;> with_reducible rfl
    simp only [Act.put, List.setIfInBounds_toArray, List.set_cons_zero, List.set_cons_succ]
    refine wpAnyH_take (i := 12) (v := ?_) rfl (by kernel_rfl) (by kernel_rfl) (by kernel_rfl) (fun _ _ _ h => h) (Or.inl ⟨by rfl, ?_⟩) (by assumption) ?_
    rotate_left
    · intro w hSw; (try dsimp only at hSw); go_simp <;> with_reducible rfl
    simp only [Act.put, List.setIfInBounds_toArray, List.set_cons_zero, List.set_cons_succ]
    refine wpAnyH_take (i := 13) (v := ?_) rfl (by kernel_rfl) (by kernel_rfl) (by kernel_rfl) (fun _ _ _ h => h) (Or.inl ⟨by rfl, ?_⟩) (by assumption) ?_
    rotate_left
    · intro w hSw; (try dsimp only at hSw); go_simp <;> with_reducible rfl
    simp only [Act.put, List.setIfInBounds_toArray, List.set_cons_zero, List.set_cons_succ]
    refine wpAnyH_take (i := 14) (v := ?_) rfl (by kernel_rfl) (by kernel_rfl) (by kernel_rfl) (fun _ _ _ h => h) (Or.inl ⟨by rfl, ?_⟩) (by assumption) ?_
    rotate_left
    · intro w hSw; (try dsimp only at hSw); go_simp <;> with_reducible rfl
    simp only [Act.put, List.setIfInBounds_toArray, List.set_cons_zero, List.set_cons_succ]
    refine wpAnyH_act (fun a0 ha0 => ?_)
    simp only [List.getElem_toArray, List.getElem_cons_zero, List.getElem_cons_succ, Act.put, List.setIfInBounds_toArray, List.set_cons_zero, List.set_cons_succ] at ha0
    have e14 : a0.tmps.getD 14 undef = .int .i64 (F.di.length : Int) := by rw [ha0]; rfl
    have e18 : a0.tmps.getD 18 undef = .int .i64 (F.op.length : Int) := by rw [ha0]; rfl
    have e22 : a0.tmps.getD 22 undef = .int .i64 (F.di.length : Int) := by rw [ha0]; rfl
    have e26 : a0.tmps.getD 26 undef = .int .i64 (F.op.length : Int) := by rw [ha0]; rfl
    have es : a0.tmps.size = 180 := by rw [ha0]; rfl
    have HA := Lib.hid ha0
    clear ha0
    refine wpAnyH_inv (I := fun listed a wi => RI wb F.di.length F.op.length a0 listed a wi) ?_ ?_ _ _ _ _ (Nat.le_of_ble_eq_true (by kernel_rfl)) ?_
    · intro i o listed a wi ho h0 hall hI K hK
      have hi : i < 19 := (Array.getElem?_eq_some_iff.1 ho).1
      have hni : ∀ k ∈ [0, 1, 2, 4, 5, 6, 8, 9, 10, 12, 13, 14], i ≠ k := fun k hk e => by
        subst e
        exact onL_not h0 (hI.took i hk) rfl
      have hc : i = 3 ∨ i = 7 ∨ i = 11 ∨ i = 15 ∨ i = 16 ∨ i = 17 ∨ i = 18 := by
        have := fun k hk => hni k hk
        simp only [List.mem_cons, List.not_mem_nil, or_false, forall_eq_or_imp, forall_eq] at this
        omega
      have hkS : ∀ {a' : Act} {w' : World}, RI wb F.di.length F.op.length a0 (listed.setIfInBounds i true) a' w' → K a' w' := fun h => hK _ _ ⟨h.kp.get d0, h.kp.get d1, h.kp⟩ h
      rcases hc with rfl | rfl | rfl | rfl | rfl | rfl | rfl
      · simp only [List.getElem?_toArray, List.getElem?_cons_zero, List.getElem?_cons_succ, Option.some.injEq] at ho
        subst ho
        rw [if_pos (by rfl)]
        have xs : a.tmps.getD 14 undef = .int .i64 (F.di.length : Int) := by rw [hI.same.2.2 14 (by decide)]; exact e14
        refine wp_make' 24 (.tmp 14) (.tmp 14) rfl xs xs (hmJ _) ?_
        refine hkS (hI.new es h0 (by simp [objsL]) ((Kp.refl _).alloc _) rfl (by simp) (fun n hn => ?_) (fun e => by omega))
        have hnn : n = F.di.length := rows_len hn (by simp [rowsL])
        subst hnn
        exact ⟨rfl, own_made' _ _ _ rfl hI.kp.le (by omega)⟩
      · simp only [List.getElem?_toArray, List.getElem?_cons_zero, List.getElem?_cons_succ, Option.some.injEq] at ho
        subst ho
        rw [if_pos (by rfl)]
        have xs : a.tmps.getD 18 undef = .int .i64 (F.op.length : Int) := by rw [hI.same.2.2 18 (by decide)]; exact e18
        refine wp_make' 24 (.tmp 18) (.tmp 18) rfl xs xs (hmM _) ?_
        refine hkS (hI.new es h0 (by simp [objsL]) ((Kp.refl _).alloc _) rfl (by simp) (fun n hn => ?_) (fun e => by omega))
        have hnn : n = F.op.length := rows_len hn (by simp [rowsL])
        subst hnn
        exact ⟨rfl, own_made' _ _ _ rfl hI.kp.le (by omega)⟩
      · simp only [List.getElem?_toArray, List.getElem?_cons_zero, List.getElem?_cons_succ, Option.some.injEq] at ho
        subst ho
        rw [if_pos (by rfl)]
        have xs : a.tmps.getD 22 undef = .int .i64 (F.di.length : Int) := by rw [hI.same.2.2 22 (by decide)]; exact e22
        refine wp_make' 24 (.tmp 22) (.tmp 22) rfl xs xs (hmJ _) ?_
        refine hkS (hI.new es h0 (by simp [objsL]) ((Kp.refl _).alloc _) rfl (by simp) (fun n hn => ?_) (fun e => by omega))
        have hnn : n = F.di.length := rows_len hn (by simp [rowsL])
        subst hnn
        exact ⟨rfl, own_made' _ _ _ rfl hI.kp.le (by omega)⟩
      · simp only [List.getElem?_toArray, List.getElem?_cons_zero, List.getElem?_cons_succ, Option.some.injEq] at ho
        subst ho
        rw [if_pos (by rfl)]
        have xs : a.tmps.getD 26 undef = .int .i64 (F.op.length : Int) := by rw [hI.same.2.2 26 (by decide)]; exact e26
        refine wp_make' 24 (.tmp 26) (.tmp 26) rfl xs xs (hmM _) ?_
        refine hkS (hI.new es h0 (by simp [objsL]) ((Kp.refl _).alloc _) rfl (by simp) (fun n hn => ?_) (fun e => by omega))
        have hnn : n = F.op.length := rows_len hn (by simp [rowsL])
        subst hnn
        exact ⟨rfl, own_made' _ _ _ rfl hI.kp.le (by omega)⟩
      · simp only [List.getElem?_toArray, List.getElem?_cons_zero, List.getElem?_cons_succ, Option.some.injEq] at ho
        subst ho
        rw [if_pos (by rfl)]
        have q3 : onL listed 3 := hall ⟨3, .data⟩ (by simp) rfl
        have q7 : onL listed 7 := hall ⟨7, .data⟩ (by simp) rfl
        have q11 : onL listed 11 := hall ⟨11, .data⟩ (by simp) rfl
        have q15 : onL listed 15 := hall ⟨15, .data⟩ (by simp) rfl
        have hb := hkS (hI.build es h0 ⟨q3, q7, q11, q15⟩)
        obtain ⟨g3, y3, _⟩ := hI.arr 3 15 F.di.length (by simp [rowsL]) q3
        obtain ⟨g7, y7, _⟩ := hI.arr 7 19 F.op.length (by simp [rowsL]) q7
        obtain ⟨g11, y11, _⟩ := hI.arr 11 23 F.di.length (by simp [rowsL]) q11
        obtain ⟨g15, y15, _⟩ := hI.arr 15 27 F.op.length (by simp [rowsL]) q15
        rw [y3, y7, y11, y15] at hb
        have z3 : a.eval (.tmp 15) = _ := y3
        have z7 : a.eval (.tmp 19) = _ := y7
        have z11 : a.eval (.tmp 23) = _ := y11
        have z15 : a.eval (.tmp 27) = _ := y15
        have hbd : Tryz.prog.built 109 [(0, .slice (some ⟨g3, 0, none⟩) F.di.length F.di.length), (1, .slice (some ⟨g7, 0, none⟩) F.op.length F.op.length), (2, .slice (some ⟨g11, 0, none⟩) F.di.length F.di.length), (3, .slice (some ⟨g15, 0, none⟩) F.op.length F.op.length)] = some #[.slice (some ⟨g3, 0, none⟩) F.di.length F.di.length, .slice (some ⟨g7, 0, none⟩) F.op.length F.op.length, .slice (some ⟨g11, 0, none⟩) F.di.length F.di.length, .slice (some ⟨g15, 0, none⟩) F.op.length F.op.length] := by rfl
        have hpl : ((#[(0, Operand.tmp 15), (1, Operand.tmp 19), (2, Operand.tmp 23), (3, Operand.tmp 27)] : Array (Nat × Operand)).map (fun (i, x) => (i, a.eval x))).toList = [(0, .slice (some ⟨g3, 0, none⟩) F.di.length F.di.length), (1, .slice (some ⟨g7, 0, none⟩) F.op.length F.op.length), (2, .slice (some ⟨g11, 0, none⟩) F.di.length F.di.length), (3, .slice (some ⟨g15, 0, none⟩) F.op.length F.op.length)] := by simp [z3, z7, z11, z15]
        refine wp_build _ _ rfl (by rw [hpl, hbd]; rfl) ?_
        rw [hpl, hbd]
        exact hb
      · simp only [List.getElem?_toArray, List.getElem?_cons_zero, List.getElem?_cons_succ, Option.some.injEq] at ho
        subst ho
        rw [if_pos (by rfl)]
        have hb := hkS (hI.new (k := 17) (s := 5) (w' := wi.alloc (.cells #[.slice none 0 0, .slice none 0 0, .slice none 0 0, .slice none 0 0] 109)) (v := .pointer (some ⟨wi.heap.size, 0, none⟩)) es h0 (by simp [objsL]) ((Kp.refl _).alloc _) rfl (by simp) (fun n hn => by simp [rowsL] at hn) (fun _ => ⟨rfl, there_new _ _ _⟩))
        clear hK hI hkS
        go_simp
        exact hb
      · simp only [List.getElem?_toArray, List.getElem?_cons_zero, List.getElem?_cons_succ, Option.some.injEq] at ho
        subst ho
        rw [if_pos (by rfl)]
        have q16 : onL listed 16 := hall ⟨16, .data⟩ (by simp) rfl
        have q17 : onL listed 17 := hall ⟨17, .data⟩ (by simp) rfl
        obtain ⟨q3, q7, q11, q15⟩ := hI.d16 q16
        obtain ⟨bp, y5, b1, b2, b3⟩ := hI.ptr q17
        have y28 := hI.agg q16
        have hb := hkS (hI.store h0 ⟨q16, q17⟩ y5)
        obtain ⟨g3, y3, _⟩ := hI.arr 3 15 F.di.length (by simp [rowsL]) q3
        obtain ⟨g7, y7, _⟩ := hI.arr 7 19 F.op.length (by simp [rowsL]) q7
        obtain ⟨g11, y11, _⟩ := hI.arr 11 23 F.di.length (by simp [rowsL]) q11
        obtain ⟨g15, y15, _⟩ := hI.arr 15 27 F.op.length (by simp [rowsL]) q15
        rw [y3, y7, y11, y15] at hb y28
        exact wp_store_mid 109 (.tmp 5) (.tmp 28) rfl bp 0 _ y5 y28 b3 (by kernel_rfl) (by simp [Value.oneCell']) hb
    · intro listed a wc hr hI
      have b3 : ∀ k, k < 3 → onL listed k := fun k hk => hI.took k (by simp only [List.mem_cons, List.not_mem_nil, or_false]; omega)
      have q3 := ready_next (m := 3) hr (by rw [hI.sz]; omega) rfl (by kernel_rfl) b3
      have b7 : ∀ k, k < 7 → onL listed k := fun k hk => by
        by_cases e : k = 3
        · subst e; exact q3
        · exact hI.took k (by simp only [List.mem_cons, List.not_mem_nil, or_false]; omega)
      have q7 := ready_next (m := 7) hr (by rw [hI.sz]; omega) rfl (by kernel_rfl) b7
      have b11 : ∀ k, k < 11 → onL listed k := fun k hk => by
        by_cases h : k < 7
        · exact b7 k h
        · by_cases e : k = 7
          · subst e; exact q7
          · exact hI.took k (by simp only [List.mem_cons, List.not_mem_nil, or_false]; omega)
      have q11 := ready_next (m := 11) hr (by rw [hI.sz]; omega) rfl (by kernel_rfl) b11
      have b15 : ∀ k, k < 15 → onL listed k := fun k hk => by
        by_cases h : k < 11
        · exact b11 k h
        · by_cases e : k = 11
          · subst e; exact q11
          · exact hI.took k (by simp only [List.mem_cons, List.not_mem_nil, or_false]; omega)
      have q15 := ready_next (m := 15) hr (by rw [hI.sz]; omega) rfl (by kernel_rfl) b15
      have b16 : ∀ k, k < 16 → onL listed k := fun k hk => by
        by_cases e : k = 15
        · subst e; exact q15
        · exact b15 k (by omega)
      have q16 := ready_next (m := 16) hr (by rw [hI.sz]; omega) rfl (by kernel_rfl) b16
      have b17 : ∀ k, k < 17 → onL listed k := fun k hk => by
        by_cases e : k = 16
        · subst e; exact q16
        · exact b16 k (by omega)
      have q17 := ready_next (m := 17) hr (by rw [hI.sz]; omega) rfl (by kernel_rfl) b17
      have b18 : ∀ k, k < 18 → onL listed k := fun k hk => by
        by_cases e : k = 17
        · subst e; exact q17
        · exact b17 k (by omega)
      have q18 := ready_next (m := 18) hr (by rw [hI.sz]; omega) rfl (by kernel_rfl) b18
      obtain ⟨bp, y5, p1, p2, p3⟩ := hI.ptr q17
      obtain ⟨gc, y3, o3⟩ := hI.arr 3 15 F.di.length (by simp [rowsL]) q3
      obtain ⟨gs, y7, o7⟩ := hI.arr 7 19 F.op.length (by simp [rowsL]) q7
      obtain ⟨gb, y11, o11⟩ := hI.arr 11 23 F.di.length (by simp [rowsL]) q11
      obtain ⟨gf, y15, o15⟩ := hI.arr 15 27 F.op.length (by simp [rowsL]) q15
      have y28 := hI.agg q16
      have hst := hI.st q18
      have a1 := hI.apart 3 15 7 19 (by simp [objsL]) (by simp [objsL]) (by decide) q3 q7
      have a2 := hI.apart 3 15 11 23 (by simp [objsL]) (by simp [objsL]) (by decide) q3 q11
      have a3 := hI.apart 3 15 15 27 (by simp [objsL]) (by simp [objsL]) (by decide) q3 q15
      have a4 := hI.apart 7 19 11 23 (by simp [objsL]) (by simp [objsL]) (by decide) q7 q11
      have a5 := hI.apart 7 19 15 27 (by simp [objsL]) (by simp [objsL]) (by decide) q7 q15
      have a6 := hI.apart 11 23 15 27 (by simp [objsL]) (by simp [objsL]) (by decide) q11 q15
      have a7 := hI.apart 17 5 3 15 (by simp [objsL]) (by simp [objsL]) (by decide) q17 q3
      have a8 := hI.apart 17 5 7 19 (by simp [objsL]) (by simp [objsL]) (by decide) q17 q7
      have a9 := hI.apart 17 5 11 23 (by simp [objsL]) (by simp [objsL]) (by decide) q17 q11
      have a10 := hI.apart 17 5 15 27 (by simp [objsL]) (by simp [objsL]) (by decide) q17 q15
      rw [y5] at hst a7 a8 a9 a10
      rw [y3] at hst y28 a1 a2 a3 a7
      rw [y7] at hst y28 a1 a4 a5 a8
      rw [y11] at hst y28 a2 a4 a6 a9
      rw [y15] at hst y28 a3 a5 a6 a10
      have hls : LSt wb wc bp gc gs gb gf F.di.length F.op.length (List.replicate F.di.length 0) (List.replicate F.op.length 0) (List.replicate F.di.length 0) (List.replicate F.op.length 0) := ⟨⟨o3, o7, o11, o15, ⟨a1, a2, a3, a4, a5, a6⟩⟩, hst, ⟨a7, a8, a9, a10⟩, hI.kp⟩
      have ea := hI.same.eq (by rw [es]; decide)
      simp only [List.foldl_cons, List.foldl_nil] at ea
      unfold slotV at y3 y7 y11 y15 y5 y28
      rw [y3, y7, y11, y15, y28, y5, HA.out] at ea
      simp only [Act.put, List.setIfInBounds_toArray, List.set_cons_zero, List.set_cons_succ] at ea
      rw [ea]
      clear ea HA hI hr q3 q7 q11 q15 q16 q17 q18 b3 b7 b11 b15 b16 b17 b18 y3 y7 y11 y15 y28 y5 hst a1 a2 a3 a4 a5 a6 a7 a8 a9 a10 o3 o7 o11 o15 e14 e18 e22 e26 es
      go_wp2_with fail
      go_meet
      exact ⟨gc, gs, gb, gf, bp, rfl, hls⟩
    · refine ⟨by simp, ?_, SameBut.refl _ _, hkb.drew, ?_, ?_, ?_, ?_, ?_, ?_, ?_⟩
      · intro k hk
        simp only [List.mem_cons, List.not_mem_nil, or_false] at hk
        rcases hk with rfl | rfl | rfl | rfl | rfl | rfl | rfl | rfl | rfl | rfl | rfl | rfl <;> rfl
      · intro k s n hr ho
        simp only [rowsL, List.mem_cons, List.not_mem_nil, or_false, Prod.mk.injEq] at hr
        exfalso
        rcases hr with ⟨rfl, _⟩ | ⟨rfl, _⟩ | ⟨rfl, _⟩ | ⟨rfl, _⟩ <;> cases ho
      · intro ho; exfalso; cases ho
      · intro k s k' s' hr _ _ ho
        simp only [objsL, List.mem_cons, List.not_mem_nil, or_false, Prod.mk.injEq] at hr
        exfalso
        rcases hr with ⟨rfl, _⟩ | ⟨rfl, _⟩ | ⟨rfl, _⟩ | ⟨rfl, _⟩ | ⟨rfl, _⟩ <;> cases ho
      · intro ho; exfalso; cases ho
      · intro ho; exfalso; cases ho
      · intro ho; exfalso; cases ho
      · intro ho; exfalso; cases ho
  case rest =>
    obtain ⟨gc, gs, gb, gf, bp, rfl, hst⟩ := hcut
    have Hkw := Lib.hid hkw
    have HS1 := Lib.hid (HS.out.kp hkw)
    have HB1 := Lib.hid (HB.out.kp hkw)
    clear hkb hkw HS HB hmJ hmM
    go_wp2_with fail
    go_loopw [6] (fun iv wr => ∃ j : Nat, j ≤ F.di.length ∧ iv = .int .i64 j ∧ LSt wb wr bp gc gs gb gf F.di.length F.op.length (initN nl F.di.length j) (List.replicate F.op.length 0) (initE F.di.length j) (List.replicate F.op.length 0)) (fun iv _ => F.di.length - (intOf iv).toNat)
    case atStart => exact ⟨0, by omega, rfl, by rw [initN_zero, initE_zero]; exact hst⟩
    case round =>
      clear hst
      obtain ⟨j, hj, rfl, hst⟩ := hrel
      obtain ⟨x0, x1, x2, x3⟩ := hst.fld
      by_cases hlj : j < F.di.length
      · have hljI : (j : Int) < (F.di.length : Int) := by omega
        obtain ⟨b1, b2, b3⟩ := hst.setB (initE_len _ _) hlj
        have hs2 := b3 (-1)
        rw [initE_set] at hs2
        have hn2 := HS1.out.kp hs2.kp
        obtain ⟨n1, _, _, _⟩ := hn2.setNeed hlj
        have na := hn2.na (by omega)
        have hnb := HL.out j
        have n0' := n0
        rw [na] at n0'
        have z0 := hs2.kp.get n0'
        clear n0'
        obtain ⟨y0, y1, y2, y3⟩ := hs2.fld
        have ad1 : (⟨gb, 0, none⟩ : Addr).add j = ⟨gb, j, none⟩ := add0 _ _
        have ad2 : (⟨L.gn, 0, none⟩ : Addr).add j = ⟨L.gn, j, none⟩ := add0 _ _
        have ad3 : (⟨gc, 0, none⟩ : Addr).add j = ⟨gc, j, none⟩ := add0 _ _
        obtain ⟨c1, c2, c3⟩ := hs2.setC (initN_len _ _ _) hlj
        have hs3 := c3 farN
        have HY := Lib.hid (@initN_yes nl F.di.length j)
        have HN2 := Lib.hid (@initN_no nl F.di.length j)
        obtain ⟨nv, Hnv⟩ : ∃ z, Hid (nl j = z) := ⟨_, rfl⟩
        rw [Hnv.out] at HY HN2 hnb n1
        by_cases hz : nv = 0
        · have hzb : (nv == 0) = true := by simp [hz]
          rw [HY.out hz] at hs3
          have HS3 := Lib.hid hs3
          clear hs3 hs2 c3 b3 hn2 hst hz HY HN2 na
          unfold farN at HS3
          go_wp2_with fail
          go_roundw
          case rel => exact ⟨j + 1, by omega, by go_num, HS3.out⟩
          case measure => simp [intOf]; omega
        · have hzb : (nv == 0) = false := by simp [hz]
          rw [← HN2.out hz] at hs2
          have HS3 := Lib.hid hs2
          clear hs3 hs2 c3 b3 hn2 hst hz HY HN2 na
          go_wp2_with fail
          go_roundw
          case rel => exact ⟨j + 1, by omega, by go_num, HS3.out⟩
          case measure => simp [intOf]; omega
      · obtain rfl : j = F.di.length := by omega
        have HST := Lib.hid hst
        clear hst
        go_wp2_with fail
        clear x0 x1 x2 x3
        go_loopw [7] (fun iv wr => ∃ a : Nat, a ≤ F.op.length ∧ iv = .int .i64 a ∧ LSt wb wr bp gc gs gb gf F.di.length F.op.length (initN nl F.di.length F.di.length) (initF F.op.length a) (initE F.di.length F.di.length) (List.replicate F.op.length 0)) (fun iv _ => F.op.length - (intOf iv).toNat)
        case atStart => exact ⟨0, by omega, rfl, by rw [initF_zero]; exact HST.out⟩
        case round =>
          clear HST
          obtain ⟨a, ha, rfl, hst⟩ := hrel
          obtain ⟨x0, x1, x2, x3⟩ := hst.fld
          by_cases hla : a < F.op.length
          · have hlaI : (a : Int) < (F.op.length : Int) := by omega
            obtain ⟨b1, b2, b3⟩ := hst.setS (initF_len _ _) hla
            have hs2 := b3 farN
            rw [initF_set] at hs2
            have HS3 := Lib.hid hs2
            have ad1 : (⟨gs, 0, none⟩ : Addr).add a = ⟨gs, a, none⟩ := add0 _ _
            clear hs2 b3 hst
            unfold farN at HS3
            go_wp2_with fail
            go_roundw
            case rel => exact ⟨a + 1, by omega, by go_num, HS3.out⟩
            case measure => simp [intOf]; omega
          · obtain rfl : a = F.op.length := by omega
            obtain ⟨pc, ps, T, hp⟩ := HN.out.pot
            have HP := Lib.hid hp
            have hbs : Bss F.di.length F.op.length (dF F) may fl pc ps nl (initN nl F.di.length F.di.length) (initF F.op.length F.op.length) (initE F.di.length F.di.length) (List.replicate F.op.length 0) := Bss.init
            have HST := Lib.hid hst
            have HBS := Lib.hid hbs
            clear hst hbs hp
            go_wp2_with fail
            clear x0 x1 x2 x3
            go_loopw [8] (fun cv wr => ∃ (ch : Bool) (cl si be fr : List Int), cv = .bool ch ∧ LSt wb wr bp gc gs gb gf F.di.length F.op.length cl si be fr ∧ Hid (Bss F.di.length F.op.length (dF F) may fl pc ps nl cl si be fr) ∧ Hid (ch = false → StopS F.di.length F.op.length (dF F) may fl cl si)) (fun cv wr => 2 * (memSum wr gc F.di.length + memSum wr gs F.op.length + 40000).toNat + bOf cv)
            case atStart => exact ⟨true, _, _, _, _, rfl, HST.out, HBS.out, fun h => by cases h⟩
            case round =>
              clear HST HBS
              obtain ⟨ch, cl, si, be, fr, rfl, hst, HBS, HStop⟩ := hrel
              obtain ⟨x0, x1, x2, x3⟩ := hst.fld
              cases ch
              · have ht := there_kp ht4 hst.kp
                have x4 := hst.lab
                have HX := Lib.hid (World.rangeAt_setCells_same wr (w.heap.size + 1 + 1) 0 [.slice (some ⟨gc, 0, none⟩) F.di.length F.di.length, .slice (some ⟨gs, 0, none⟩) F.op.length F.op.length, .slice (some ⟨gb, 0, none⟩) F.di.length F.di.length, .slice (some ⟨gf, 0, none⟩) F.op.length F.op.length] ht)
                have htn := turn_setCells (w.heap.size + 1 + 1) [.slice (some ⟨gc, 0, none⟩) F.di.length F.di.length, .slice (some ⟨gs, 0, none⟩) F.op.length F.op.length, .slice (some ⟨gb, 0, none⟩) F.di.length F.di.length, .slice (some ⟨gf, 0, none⟩) F.op.length F.op.length] 0 wr
                have hlab := hst.lab.turn htn (fun k hk => by omega)
                have HPost := Lib.hid (show LeastPost w F.di.length F.op.length (dF F) may fl nl lf (.returned (.agg #[.slice (some ⟨gc, 0, none⟩) F.di.length F.di.length, .slice (some ⟨gs, 0, none⟩) F.op.length F.op.length, .slice (some ⟨gb, 0, none⟩) F.di.length F.di.length, .slice (some ⟨gf, 0, none⟩) F.op.length F.op.length])) (wr.setCells (w.heap.size + 1 + 1) 0 [.slice (some ⟨gc, 0, none⟩) F.di.length F.di.length, .slice (some ⟨gs, 0, none⟩) F.op.length F.op.length, .slice (some ⟨gb, 0, none⟩) F.di.length F.di.length, .slice (some ⟨gf, 0, none⟩) F.op.length F.op.length]) from
                  ⟨gc, gs, gb, gf, cl, si, be, fr, rfl, hlab.mono Hkw.out.le, ⟨pc, ps, T, HP.out, HBS.out⟩, HStop.out rfl, (Hkw.out.trans hst.kp).turn htn (fun k e => by omega)⟩)
                have HT := Lib.hid ht
                clear hst ht htn hlab x4
                go_wp2_with (first | (refine wpList_store_mid rfl 109 (.tmp 4) (.tmp 179) rfl (w.heap.size + 1 + 1) 0 #[.slice (some ⟨gc, 0, none⟩) F.di.length F.di.length, .slice (some ⟨gs, 0, none⟩) F.op.length F.op.length, .slice (some ⟨gb, 0, none⟩) F.di.length F.di.length, .slice (some ⟨gf, 0, none⟩) F.op.length F.op.length] rfl rfl HT.out (by kernel_rfl) (by simp [Value.oneCell']) ?_) | fail)
                have z0 := HX.out 0 _ rfl
                have z1 := HX.out 1 _ rfl
                have z2 := HX.out 2 _ rfl
                have z3 := HX.out 3 _ rfl
                simp only [Nat.zero_add] at z0 z1 z2 z3
                exact bodyPost_ret (v := .agg #[.slice (some ⟨gc, 0, none⟩) F.di.length F.di.length, .slice (some ⟨gs, 0, none⟩) F.op.length F.op.length, .slice (some ⟨gb, 0, none⟩) F.di.length F.di.length, .slice (some ⟨gf, 0, none⟩) F.op.length F.op.length]) (by simp [results, Tryz.results109, go_sem, z0, z1, z2, z3]) rfl HPost.out
              · obtain ⟨s0, Hs0⟩ : ∃ s0, Hid (sumTo (lget cl) F.di.length + sumTo (lget si) F.op.length = s0) := ⟨_, rfl⟩
                have hlow0 : Hid (-39999 ≤ s0) := by
                  show _ ≤ _
                  rw [← Hs0.out]
                  have h1 := low_sum' (n := F.di.length) (xs := cl) 1386 (fun a ha => by have := ((HBS.out.low (dF_bd HG.out)).1 a ha).1; omega)
                  have h2 := low_sum' (n := F.op.length) (xs := si) 1386 (fun a ha => by have := ((HBS.out.low (dF_bd HG.out)).2 a ha).1; omega)
                  omega
                have hmeas := Lib.hid (hst.sum HBS.out.lcl HBS.out.lsi (by omega) (by omega))
                rw [Hs0.out] at hmeas
                obtain ⟨wo, rfl⟩ : ∃ wo : World, wo = wr := ⟨_, rfl⟩
                have hfell : FellS F.di.length F.op.length s0 cl si false := ⟨by rw [Hs0.out]; exact Int.le_refl _, fun h => by cases h⟩
                clear HStop Hs0
                go_wp2_with fail
                clear x0 x1 x2 x3
                go_loopw [8, 9] (fun cv jv wr => ∃ (j : Nat) (ch : Bool) (cl si be fr : List Int), j ≤ F.di.length ∧ jv = .int .i64 j ∧ cv = .bool ch ∧ LSt wb wr bp gc gs gb gf F.di.length F.op.length cl si be fr ∧ Hid (Bss F.di.length F.op.length (dF F) may fl pc ps nl cl si be fr) ∧ Hid (PassS F.di.length F.op.length (dF F) may fl cl si ch j 0) ∧ Hid (FellS F.di.length F.op.length s0 cl si ch)) (fun _ jv _ => F.di.length - (intOf jv).toNat)
                case atStart => exact ⟨0, false, _, _, _, _, by omega, rfl, rfl, hst, HBS, PassS.start, hfell⟩
                case round =>
                  clear hst hfell HBS
                  obtain ⟨j, ch, cl, si, be, fr, hj, rfl, rfl, hst, HBS, HPa, HFe⟩ := hrel
                  obtain ⟨x0, x1, x2, x3⟩ := hst.fld
                  by_cases hlj : j < F.di.length
                  · have hljI : (j : Int) < (F.di.length : Int) := by omega
                    have hma := HS1.out.ma (by omega)
                    have hfa := HS1.out.fa (by omega)
                    have n2' := n2
                    rw [hfa] at n2'
                    have n3' := n3
                    rw [hma] at n3'
                    have ad1 : (⟨L.gm, 0, none⟩ : Addr).add j = ⟨L.gm, j, none⟩ := add0 _ _
                    have ad2 : (⟨L.g, 0, none⟩ : Addr).add j = ⟨L.g, j, none⟩ := add0 _ _
                    have ad3 : (⟨gc, 0, none⟩ : Addr).add j = ⟨gc, j, none⟩ := add0 _ _
                    have ad4 : (⟨gb, 0, none⟩ : Addr).add j = ⟨gb, j, none⟩ := add0 _ _
                    clear hma hfa
                    go_wp2_with fail
                    clear x0 x1 x2 x3
                    go_loopw [8, 10] (fun cv av wr => ∃ (a : Nat) (ch : Bool) (cl si be fr : List Int), a ≤ F.op.length ∧ av = .int .i64 a ∧ cv = .bool ch ∧ LSt wb wr bp gc gs gb gf F.di.length F.op.length cl si be fr ∧ Hid (Bss F.di.length F.op.length (dF F) may fl pc ps nl cl si be fr) ∧ Hid (PassS F.di.length F.op.length (dF F) may fl cl si ch j a) ∧ Hid (FellS F.di.length F.op.length s0 cl si ch)) (fun _ av _ => F.op.length - (intOf av).toNat)
                    case atStart => exact ⟨0, ch, _, _, _, _, by omega, rfl, rfl, hst, HBS, HPa, HFe⟩
                    case round =>
                      clear hst HBS HPa HFe
                      obtain ⟨a, ch, cl, si, be, fr, ha, rfl, rfl, hst, HBS, HPa, HFe⟩ := hrel
                      by_cases hla : a < F.op.length
                      · refine l7Least_round F L nl lf fl may base w wb wr A c B d gc gs gb gf bp pc ps T s0 j a ch cl si be fr _ _ h7 h8 HG HS1 HB1 HP d0 d1 n2' n3' hlj hla hst HBS HPa HFe _ _ _ _ _ _ _ _ _ _ _ _ _ _ _ _ _ _ _ _ _ _ _ _ _ _ _ _ _ _ _ _ _ _ _ _ _ _ _ _ _ _ _ _ _ _ _ _ _ _ _ _ _ _ _ _ _ _ _ _ _ _ _ _ _ _ _ _ _ _ _ _ _ _ _ _ _ _ _ _ _ _ _ _ _ _ _ _ _ _ _ _ _ _ _ _ _ _ _ _ _ _ _ _ _ _ _ _ _ _ _ _ _ _ _ _ _ _ _ _ _ _ _ _ _ _ _ _ _ _ _ _ _ _ _ _ _ _ _ _ _ _ _ _ _ _ _ _ _ _ _ _ _ _ _ _ _ _ _ _ _ _ _ _ _ _ _ _ _ ?_
                        intro ch' cl' si' be' fr' cv av w' x11 x69 x70 x71 x72 x73 x74 x75 x76 x77 x78 x79 x80 x81 x82 x83 x84 x85 x86 x87 x88 x89 x90 x91 x92 x93 x94 x95 x96 x97 x98 x99 x100 x101 x102 x103 x104 x105 x106 x107 x108 x109 x110 x111 x112 x113 x114 x115 x116 x117 x118 x119 x120 x121 x122 x123 x124 x125 x126 x127 x128 x129 x130 x131 x132 x133 x134 x135 x136 x137 x138 x139 x140 x141 x142 x143 x144 x145 x146 x147 x148 x149 x150 x151 x152 x153 x154 x155 x156 x157 x158 x159 x160 x161 x162 x163 x164 x165 x166 x167 x168 x169 x170 x171 x172 x173 x174 x175 x176 x177 x178 hav hcv hst' HBS' HPa' HFe'
                        subst hav hcv
                        refine ⟨?_, ?_⟩
                        · (repeat apply Exists.intro)
                          exact ⟨⟨a + 1, ch', cl', si', be', fr', by omega, rfl, rfl, hst', HBS', HPa', HFe'⟩, rfl⟩
                        · simp [intOf]; omega
                      · obtain rfl : a = F.op.length := by omega
                        have HPr := Lib.hid (HPa.out.row)
                        obtain ⟨x0, x1, x2, x3⟩ := hst.fld
                        have hst' := Lib.hid hst
                        clear HPa hst
                        go_wp2_with fail
                        go_roundw
                        case rel => exact ⟨j + 1, ch, cl, si, be, fr, by omega, by go_num, rfl, hst'.out, HBS, HPr, HFe⟩
                        case measure => simp [intOf]; omega
                  · obtain rfl : j = F.di.length := by omega
                    have hst' := Lib.hid hst
                    clear hst
                    go_wp2_with fail
                    go_roundw
                    case rel => exact ⟨ch, cl, si, be, fr, rfl, hst'.out, HBS, fun h => by subst h; exact HPa.out.done⟩
                    case measure =>
                      have h1 := hst'.out.sum HBS.out.lcl HBS.out.lsi (by omega) (by omega)
                      have h2 := HFe.out
                      have h3 := hmeas.out
                      have h4 := hlow0.out
                      unfold FellS at h2
                      rw [h1, h3]
                      generalize sumTo (lget cl) F.di.length + sumTo (lget si) F.op.length = s1 at *
                      cases ch
                      · show 2 * _ + 0 < 2 * _ + 1
                        omega
                      · have := h2.2 rfl
                        show 2 * _ + 1 < 2 * _ + 1
                        omega
end Go.Proofs.YtpiijhfjliolfaaGreat

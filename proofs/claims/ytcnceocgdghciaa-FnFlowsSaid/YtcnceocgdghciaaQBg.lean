/- The drawing of arguments for the laws on flows: a flow, mostly. No condition. -/
import Derived.Test.YtcnceocgdghciaaQBf
import Derived.Test.YtcnceocgdghciaaQAs
namespace Go.Proofs.Ytcnceocgdghciaa
open Go.RowKit Go.Sort

/-- A table that has been drawn. -/
def DGrid (w : World) (b : Nat) (v : Value) : Prop := ∃ A c rows, v = .slice A rows.length c ∧ GridP w (fun i => b ≤ i) A rows
theorem DGrid.turn {S : Nat → Prop} {w w' : World} {b : Nat} {v : Value} (h : DGrid w b v) (ht : Turn S w w') (hn : ∀ i, b ≤ i → ¬ S i) : DGrid w' b v := by
  obtain ⟨A, c, rows, e, hg⟩ := h
  exact ⟨A, c, rows, e, hg.turn ht hn⟩
theorem DGrid.kp {w w' : World} {b : Nat} {v : Value} (h : DGrid w b v) (hk : Kp w w') : DGrid w' b v := h.turn (Turn.of_kp (S := fun _ => False) hk) (fun _ _ h => h)
theorem DGrid.mono {w : World} {b b' : Nat} {v : Value} (h : DGrid w b v) (hb : b' ≤ b) : DGrid w b' v := by
  obtain ⟨A, c, rows, e, h1, h2⟩ := h
  exact ⟨A, c, rows, e, h1, fun k hk => by
    obtain ⟨bd, A, c, e, hq, hc, hi⟩ := h2 k hk
    exact ⟨bd, A, c, e, Nat.le_trans hb hq, hc, hi.mono (fun i hi => Nat.le_trans hb hi)⟩⟩
theorem DGrid.grid {w : World} {b : Nat} {v : Value} (h : DGrid w b v) : ∃ A c rows, v = .slice A rows.length c ∧ GridAt w A rows ∧ rows.length ≤ 90 := by
  obtain ⟨A, c, rows, e, h1, h2⟩ := h
  refine ⟨A, c, rows, e, ⟨by omega, fun k hk => ?_⟩, h1⟩
  obtain ⟨bd, A, c, e, _, hc, hi⟩ := h2 k hk
  have er : rows.getD k [] = rows[k] := by simp [List.getD, hk]
  rw [er]
  exact ⟨bd, A, c, e, hc, hi.1⟩
theorem Mat.dgrid {w : World} {base b g cap J M : Nat} {B Cp : Nat → Nat} {f : Nat → Nat → Int} (h : Mat w base g cap J M B Cp f) (hJ : J ≤ 90) (hM : M ≤ 100) (hb : b ≤ base) : DGrid w b (.slice (some ⟨g, 0, none⟩) J cap) :=
  ⟨_, cap, matL J M f, by rw [matL_len], h.dmat.gridP hJ hM (fun ad e => by cases e; have := h.glt; show b ≤ g; omega) (fun j hj => by have := h.lt hj; show b ≤ B j; omega)⟩
theorem DGrid.nil {w : World} {b c : Nat} {A : Option Addr} : DGrid w b (.slice A 0 c) := ⟨A, c, [], rfl, by simp, fun k hk => by simp at hk⟩
theorem sub_ok {x : Int} (h : -100 ≤ x ∧ x ≤ 100) : wrap64 (x - 1) = x - 1 ∧ wrap64 (x + 1) = x + 1 ∧ IntKind.i64.wrap (x - 1) = x - 1 ∧ IntKind.i64.wrap (x + 1) = x + 1 :=
  ⟨IntWalk.wrap64_in _ (by omega), IntWalk.wrap64_in _ (by omega), IntWalk.i64_in _ (by omega), IntWalk.i64_in _ (by omega)⟩
set_option maxRecDepth 100000 in
set_option maxHeartbeats 2000000 in
theorem flow7_any (p m b : Nat) (f : Value) (A1 : Option Addr) (n1 c1 : Nat) (A2 : Option Addr) (n2 c2 : Nat) (A3 : Option Addr) (n3 c3 : Nat) (w : World) (hc : Cur w p m) (hm : m < 90000000) (hb : p < b) (hf : DFld w b f) (h1 : DInts w b (.slice A1 n1 c1)) (h2 : DInts w b (.slice A2 n2 c2)) (h3 : DInts w b (.slice A3 n3 c3)) :
    Calls Try.prog 22 #[.pointer (some ⟨p, 0, none⟩), f, .slice A1 n1 c1, .slice A2 n2 c2, .slice A3 n3 c3] w fun e w' => ∃ v, e = .returned v ∧ DGrid w' w.heap.size v ∧ Cur w' p (m + 100) ∧ Tp p w w' := by
  have hp := hc.lt
  obtain ⟨F, A, c, B, d, rfl, hfp, hn9⟩ := hf.openP
  obtain ⟨rs, hrl, hor, hr2⟩ := h1.openP
  obtain ⟨ns, hnl, hon, hn2⟩ := h2.openP
  obtain ⟨S, hSl, hoS, hS2⟩ := h3.openP
  have k0 : Kp w (w.alloc (.cells #[.slice A F.op.length c, .slice B F.di.length d] 27)) := (Kp.refl w).alloc _
  obtain ⟨d0, d1⟩ := box2 w (.slice A F.op.length c) (.slice B F.di.length d) 27
  have T0 : Tp p w (w.alloc (.cells #[.slice A F.op.length c, .slice B F.di.length d] 27)) := Turn.of_kp k0
  have hle := k0.le
  have hbp : w.heap.size ≠ p := by omega
  have hfa := hfp.fld
  have hir := hor.intsK (by omega)
  have hin := hon.intsK (by omega)
  have hiS := hoS.intsK (by omega)
  have CG := Lib.hid (l7Can_any _ F A1 rs n1 c1 A2 ns n2 c2 A3 S n3 c3 _ (hfa.kp k0) (hir.kp k0) hrl (hin.kp k0) hnl (hiS.kp k0) hSl)
  have CA := Lib.hid (fun (wx : World) (hx : Kp w wx) (hP : HaulP F rs ns S) => l7Any_any _ F A1 rs n1 c1 A2 ns n2 c2 A3 S n3 c3 wx (hfa.kp hx) (hir.kp hx) hrl (hin.kp hx) hnl (hiS.kp hx) hSl hP)
  have c0 := hc.kp k0
  clear hfp hor hon hoS hfa hir hin hiS hf h1 h2 h3
  go_enter Try.func22, Try.ntmps22
  go_wp2_with fail
  generalize w.alloc (.cells #[.slice A F.op.length c, .slice B F.di.length d] 27) = wb at *
  with_reducible refine Calls.mono CG.out ?_
  rintro e w1 ⟨rfl, hk⟩
  clear CG
  replace c0 := c0.kp hk
  replace k0 := k0.trans hk
  replace T0 := T0.trans (Turn.of_kp hk)
  replace d0 := hk.get d0
  replace d1 := hk.get d1
  clear hk hle
  cases hg : lfOk F rs ns S
  · have hz1 := lit_intsD w1 [1] (by simp)
    simp only [List.map_cons, List.map_nil] at hz1
    have ka : Kp w1 (w1.alloc (.cells #[.int .i64 1] 3)) := (Kp.refl w1).alloc _
    have kb : Kp (w1.alloc (.cells #[.int .i64 1] 3)) ((w1.alloc (.cells #[.int .i64 1] 3)).alloc (.cells #[.slice (some ⟨w1.heap.size, 0, none⟩) 1 1] 24)) := (Kp.refl _).alloc _
    have hgr : DGrid ((w1.alloc (.cells #[.int .i64 1] 3)).alloc (.cells #[.slice (some ⟨w1.heap.size, 0, none⟩) 1 1] 24)) w.heap.size (.slice (some ⟨(w1.alloc (.cells #[.int .i64 1] 3)).heap.size, 0, none⟩) 1 1) := by
      have hs := k0.le
      refine ⟨_, 1, [[1]], rfl, by simp, fun k hk => ?_⟩
      obtain rfl : k = 0 := by simpa using hk
      refine ⟨_, some ⟨w1.heap.size, 0, none⟩, 1, rfl, ?_, ?_, hz1.kp kb, ?_, by simp⟩
      · show w.heap.size ≤ (w1.alloc _).heap.size
        exact Nat.le_trans hs ka.le
      · rw [add0, World.cell?_alloc_at _ _ _ _ rfl]; rfl
      · intro ad e; cases e; exact hs
    rw [World.size_alloc] at hgr
    have T1 := T0.trans (Turn.of_kp (S := fun i => i = p) (ka.trans kb))
    have c1 := c0.kp (ka.trans kb)
    go_wp2_with fail
    go_ret
    exact ⟨_, rfl, hgr, c1.mono (by omega), T1⟩
  · have h0 := hg
    unfold lfOk at h0
    rw [Bool.and_eq_true, decide_eq_true_eq] at h0
    have hP := haul_p h0.1
    have CB := Lib.hid (CA.out w1 k0 hP)
    have h7 := (goodF_iff.1 hP.good).1
    have h8 := (goodF_iff.1 hP.good).2.2.1
    have HP := Lib.hid hP
    clear CA h0 hg hP
    go_wp2_with fail
    with_reducible refine Calls.mono CB.out ?_
    rintro e w2 ⟨L, nl, lf, fl, rfl, hN, hNN, _, hk⟩
    clear CB
    obtain ⟨J, hJ⟩ : ∃ J, F.di.length = J := ⟨_, rfl⟩
    obtain ⟨M, hM⟩ : ∃ M, F.op.length = M := ⟨_, rfl⟩
    have hfl : ∀ j a, j < J → a < M → -50 ≤ fl j a ∧ fl j a ≤ 50 := fun j a hj ha => by
      have e1 := hNN.net.nn j a (by omega) (by omega)
      have e2 : fl j a ≤ rowS F.op.length fl j := sumTo_ge (g := fl j) (fun a ha => hNN.net.nn j a (by omega) ha) (by omega)
      have e3 := hNN.row j (by omega)
      have e4 := HP.out.nb j
      have e5 := hNN.nb j
      omega
    rw [hJ] at hN d1 h8 ⊢
    rw [hM] at hN d0 h7 ⊢
    have T2 := T0.trans (Turn.of_kp (S := fun i => i = p) hk)
    have c2 := c0.kp hk
    have q0 := hk.get d0
    have hw1 := k0.le
    clear hNN HP hJ hM c0 d0 d1 hk T0 k0
    by_cases hJ0 : J = 0
    · subst hJ0
      go_wp2_with fail
      go_ret
      exact ⟨_, rfl, DGrid.nil, c2.mono (by omega), T2⟩
    · have hJp : 0 < J := by omega
      have hJI : ((J : Int) == 0) = false := by simp; omega
      have hm0 := hN.fl hJp
      rw [hN.fa hJp]
      obtain ⟨g, hg⟩ : ∃ g, L.g = g := ⟨_, rfl⟩
      obtain ⟨cf, hcf⟩ : ∃ g, L.cf = g := ⟨_, rfl⟩
      obtain ⟨Bk, hBk⟩ : ∃ g, L.Bk = g := ⟨_, rfl⟩
      obtain ⟨Ck, hCk⟩ : ∃ g, L.Ck = g := ⟨_, rfl⟩
      rw [hg, hcf, hBk, hCk] at hm0
      rw [hg, hcf]
      replace hm0 := hm0
      clear hN hg hcf hBk hCk
      go_wp2_with fail
      have kd : Kp w2 w2.drew := (Kp.refl w2).drew
      have r0 := kd.get q0
      have CP := Lib.hid (pick_any p m J w2.drew (c2.kp kd) (by omega) (by omega))
      refine wp_region_held_drew (S := fun w' => w'.cell? ⟨w.heap.size, 0, none⟩ = some (.slice A M c)) (by kernel_rfl) r0 (fun hHeld => ?_)
      refine wpAnyH_take (i := 0) (v := ?_) rfl (by kernel_rfl) (by kernel_rfl) (by kernel_rfl) (fun _ _ _ h => h) (Or.inl ⟨by rfl, ?_⟩) (by assumption) ?_
      rotate_left
      · intro w hSw; (try dsimp only at hSw); go_simp <;> with_reducible rfl
      (try simp only [Act.put, List.setIfInBounds_toArray, List.set_cons_zero, List.set_cons_succ])
      refine wpAnyH_take (i := 1) (v := ?_) rfl (by kernel_rfl) (by kernel_rfl) (by kernel_rfl) (fun _ _ _ h => h) (Or.inl ⟨by rfl, ?_⟩) (by assumption) ?_
      rotate_left
      · intro w hSw; (try dsimp only at hSw); go_simp <;> with_reducible rfl
      (try simp only [Act.put, List.setIfInBounds_toArray, List.set_cons_zero, List.set_cons_succ])
      refine wpAnyH_take (i := 2) (v := ?_) rfl (by kernel_rfl) (by kernel_rfl) (by kernel_rfl) (fun _ _ _ h => h) (Or.inl ⟨by rfl, ?_⟩) (by assumption) ?_
      rotate_left
      · intro w hSw; (try dsimp only at hSw); go_simp <;> with_reducible rfl
      (try simp only [Act.put, List.setIfInBounds_toArray, List.set_cons_zero, List.set_cons_succ])
      refine wpAnyH_take (i := 4) (v := ?_) rfl (by kernel_rfl) (by kernel_rfl) (by kernel_rfl) (fun _ _ _ h => h) (Or.inl ⟨by rfl, ?_⟩) (by assumption) ?_
      rotate_left
      · intro w hSw; (try dsimp only at hSw); go_simp <;> with_reducible rfl
      (try simp only [Act.put, List.setIfInBounds_toArray, List.set_cons_zero, List.set_cons_succ])
      refine wpAnyH_take (i := 5) (v := ?_) rfl (by kernel_rfl) (by kernel_rfl) (by kernel_rfl) (fun _ _ _ h => h) (Or.inl ⟨by rfl, ?_⟩) (by assumption) ?_
      rotate_left
      · intro w hSw; (try dsimp only at hSw); go_simp <;> with_reducible rfl
      (try simp only [Act.put, List.setIfInBounds_toArray, List.set_cons_zero, List.set_cons_succ])
      refine wpAnyH_take (i := 6) (v := ?_) rfl (by kernel_rfl) (by kernel_rfl) (by kernel_rfl) (fun _ _ _ h => h) (Or.inl ⟨by rfl, ?_⟩) (by assumption) ?_
      rotate_left
      · intro w hSw; (try dsimp only at hSw); go_simp <;> with_reducible rfl
      (try simp only [Act.put, List.setIfInBounds_toArray, List.set_cons_zero, List.set_cons_succ])
      refine wpAnyH_take (i := 7) (v := ?_) rfl (by kernel_rfl) (by kernel_rfl) (by kernel_rfl) (fun _ _ _ h => h) (Or.inl ⟨by rfl, ?_⟩) (by assumption) ?_
      rotate_left
      · intro w hSw; (try dsimp only at hSw); go_simp <;> with_reducible rfl
      (try simp only [Act.put, List.setIfInBounds_toArray, List.set_cons_zero, List.set_cons_succ])
      refine wpAnyH_take (i := 9) (v := ?_) rfl (by kernel_rfl) (by kernel_rfl) (by kernel_rfl) (fun _ _ _ h => h) (Or.inl ⟨by rfl, ?_⟩) (by assumption) ?_
      rotate_left
      · intro w hSw; (try dsimp only at hSw); go_simp <;> with_reducible rfl
      (try simp only [Act.put, List.setIfInBounds_toArray, List.set_cons_zero, List.set_cons_succ])
      refine wpAnyH_take (i := 10) (v := ?_) rfl (by kernel_rfl) (by kernel_rfl) (by kernel_rfl) (fun _ _ _ h => h) (Or.inl ⟨by rfl, ?_⟩) (by assumption) ?_
      rotate_left
      · intro w hSw; (try dsimp only at hSw); go_simp <;> with_reducible rfl
      (try simp only [Act.put, List.setIfInBounds_toArray, List.set_cons_zero, List.set_cons_succ])
      refine wpAnyH_take (i := 11) (v := ?_) rfl (by kernel_rfl) (by kernel_rfl) (by kernel_rfl) (fun _ _ _ h => h) (Or.inl ⟨by rfl, ?_⟩) (by assumption) ?_
      rotate_left
      · intro w hSw; (try dsimp only at hSw); go_simp <;> with_reducible rfl
      (try simp only [Act.put, List.setIfInBounds_toArray, List.set_cons_zero, List.set_cons_succ])
      refine wpAnyH_take (i := 12) (v := ?_) rfl (by kernel_rfl) (by kernel_rfl) (by kernel_rfl) (fun _ _ _ h => h) (Or.inl ⟨by rfl, ?_⟩) (by assumption) ?_
      rotate_left
      · intro w hSw; (try dsimp only at hSw); go_simp <;> with_reducible rfl
      (try simp only [Act.put, List.setIfInBounds_toArray, List.set_cons_zero, List.set_cons_succ])
      refine wpAnyH_ready (rs := [3]) (by kernel_rfl) (by simp) ?_
      refine AllReadyH.cons rfl (fun K hK => ?_) AllReadyH.nil
      go_simp
      with_reducible refine Calls.mono CP.out ?_
      rintro e w3 ⟨x1, rfl, hx1, c3, u3⟩
      clear CP
      (try go_wp2_with fail)
      have r1 := turn_cellD u3 r0 hbp
      refine hK.out _ _ ?_ (fun hHeld => ?_)
      · (try dsimp only); exact r1
      clear hK K
      (try simp only [Act.put, List.setIfInBounds_toArray, List.set_cons_zero, List.set_cons_succ])
      have CP := Lib.hid (pick_any p _ M w3 c3 (by omega) (by omega))
      refine wpAnyH_ready (rs := [8]) (by kernel_rfl) (by simp) ?_
      refine AllReadyH.cons rfl (fun K hK => ?_) AllReadyH.nil
      go_simp
      with_reducible refine Calls.mono CP.out ?_
      rintro e w4 ⟨x2, rfl, hx2, c4, u4⟩
      clear CP
      (try go_wp2_with fail)
      have r2 := turn_cellD u4 r1 hbp
      refine hK.out _ _ ?_ (fun hHeld => ?_)
      · (try dsimp only); exact r2
      clear hK K
      (try simp only [Act.put, List.setIfInBounds_toArray, List.set_cons_zero, List.set_cons_succ])
      have CP := Lib.hid (pick_any p _ M w4 c4 (by omega) (by omega))
      refine wpAnyH_ready (rs := [13]) (by kernel_rfl) (by simp) ?_
      refine AllReadyH.cons rfl (fun K hK => ?_) AllReadyH.nil
      go_simp
      with_reducible refine Calls.mono CP.out ?_
      rintro e w5 ⟨x3, rfl, hx3, c5, u5⟩
      clear CP
      (try go_wp2_with fail)
      have r3 := turn_cellD u5 r2 hbp
      refine hK.out _ _ ?_ (fun hHeld => ?_)
      · (try dsimp only); exact r3
      clear hK K
      (try simp only [Act.put, List.setIfInBounds_toArray, List.set_cons_zero, List.set_cons_succ])
      refine wpAnyH_take (i := 14) (v := ?_) rfl (by kernel_rfl) (by kernel_rfl) (by kernel_rfl) (fun _ _ _ h => h) (Or.inl ⟨by rfl, ?_⟩) (by assumption) ?_
      rotate_left
      · intro w hSw; (try dsimp only at hSw); go_simp <;> with_reducible rfl
      (try simp only [Act.put, List.setIfInBounds_toArray, List.set_cons_zero, List.set_cons_succ])
      refine wpAnyH_take (i := 15) (v := ?_) rfl (by kernel_rfl) (by kernel_rfl) (by kernel_rfl) (fun _ _ _ h => h) (Or.inl ⟨by rfl, ?_⟩) (by assumption) ?_
      rotate_left
      · intro w hSw; (try dsimp only at hSw); go_simp <;> with_reducible rfl
      (try simp only [Act.put, List.setIfInBounds_toArray, List.set_cons_zero, List.set_cons_succ])
      refine wpAnyH_take (i := 16) (v := ?_) rfl (by kernel_rfl) (by kernel_rfl) (by kernel_rfl) (fun _ _ _ h => h) (Or.inl ⟨by rfl, ?_⟩) (by assumption) ?_
      rotate_left
      · intro w hSw; (try dsimp only at hSw); go_simp <;> with_reducible rfl
      (try simp only [Act.put, List.setIfInBounds_toArray, List.set_cons_zero, List.set_cons_succ])
      refine wpAnyH_done (by kernel_rfl) ?_ _
      obtain ⟨j, rfl⟩ := Int.eq_ofNat_of_zero_le hx1.1
      obtain ⟨a, rfl⟩ := Int.eq_ofNat_of_zero_le hx2.1
      obtain ⟨b2, rfl⟩ := Int.eq_ofNat_of_zero_le hx3.1
      have hj : j < J := by have := hx1.2.2 (by omega); omega
      have ha : a < M := by have := hx2.2.2 (by omega); omega
      have hb2 : b2 < M := by have := hx3.2.2 (by omega); omega
      have T5 := (((T2.trans (Turn.of_kp kd)).trans u3).trans u4).trans u5
      have hpg : ∀ i, w1.heap.size ≤ i → i ≠ p := fun i hi => by omega
      have hm5 := (((hm0.kp kd).turn u3 (hpg _ hm0.glt.1) (fun j hj => hpg _ (hm0.lt hj).1)).turn u4 (hpg _ hm0.glt.1) (fun j hj => hpg _ (hm0.lt hj).1)).turn u5 (hpg _ hm0.glt.1) (fun j hj => hpg _ (hm0.lt hj).1)
      have CP := Lib.hid (pick_any p _ 5 w5 c5 (by omega) (by omega))
      clear hm0 kd r0 r1 r2 r3 u3 u4 u5 T2 c2 c3 c4 q0 hx1 hx2 hx3
      go_wp2_with fail
      with_reducible refine Calls.mono CP.out ?_
      rintro e w6 ⟨r, rfl, _, c6, u6⟩
      clear CP
      have T6 := T5.trans u6
      have hm6 := hm5.turn u6 (hpg _ hm5.glt.1) (fun j hj => hpg _ (hm5.lt hj).1)
      clear hm5 u6 T5 c5
      have hjI : (j : Int) < (J : Int) := by omega
      have haI : (a : Int) < (M : Int) := by omega
      have hbI : (b2 : Int) < (M : Int) := by omega
      obtain ⟨va, hva⟩ : ∃ z, fl j a = z := ⟨_, rfl⟩
      have hvb := hfl j a hj ha
      rw [hva] at hvb
      obtain ⟨e1, e2, e3, e4⟩ := sub_ok (x := va) (by omega)
      by_cases r0 : r = 0
      · subst r0
        have kd := (Kp.refl w6).drew
        have hmd := (hm6).kp kd
        have hh := (hm6).hcell hj
        have hhd := hmd.hcell hj
        obtain ⟨y1, y2, y3⟩ := (hm6).cell hj ha
        obtain ⟨z1, z2, _⟩ := hmd.cell hj ha
        rw [hva] at y1 z1
        obtain ⟨m8, t8⟩ := y3 (va - 1)
        clear y3
        go_wp2_with fail
        go_still_tail 14, (by kernel_rfl)
        change wpList _ _ _ _ _ _
        go_wp2_with fail
        have k8 := (Kp.refl (World.setCell w6 ⟨Bk j, a, none⟩ (.int .i64 (va - 1)))).drew
        have m7 := m8.kp k8
        have c7 := (c6).turn t8 (fun i hi e => by have := (hmd.lt hj).1; omega)
        replace c7 := c7.kp k8
        have T7 := (tp_own T6 t8 (fun i e => by have := (hmd.lt hj).1; omega)).trans (Turn.of_kp (S := fun i => i = p) k8)
        clear m8 t8 k8 hmd hh hhd y1 y2 z1 z2 kd
        clear hm6 c6 T6
        generalize (w6.setCell ⟨Bk j, a, none⟩ (.int .i64 (va - 1))).drew = w7 at *
        obtain ⟨f7, hf7⟩ : ∃ f, upd2 fl j a (va - 1) = f := ⟨_, rfl⟩
        rw [hf7] at m7
        have hv7 : -60 ≤ f7 j b2 ∧ f7 j b2 ≤ 60 := by
          rw [← hf7]
          by_cases h : b2 = a
          · subst h; rw [upd2_at]; omega
          · rw [upd2_ne (.inr h)]; have := hfl j b2 hj hb2; omega
        obtain ⟨vb, hvb2⟩ : ∃ z, f7 j b2 = z := ⟨_, rfl⟩
        rw [hvb2] at hv7
        clear e1 e2 e3 e4
        obtain ⟨e1, e2, e3, e4⟩ := sub_ok (x := vb) (by omega)
        have hm7 := m7
        have c8 := c7
        have T8 := T7
        clear m7 c7 T7
        have kd := (Kp.refl w7).drew
        have hmd := (hm7).kp kd
        have hh := (hm7).hcell hj
        have hhd := hmd.hcell hj
        obtain ⟨y1, y2, y3⟩ := (hm7).cell hj hb2
        obtain ⟨z1, z2, _⟩ := hmd.cell hj hb2
        rw [hvb2] at y1 z1
        obtain ⟨m8, t8⟩ := y3 (vb + 1)
        clear y3
        go_wp2_with fail
        go_still_tail 14, (by kernel_rfl)
        change wpList _ _ _ _ _ _
        go_wp2_with fail
        have k8 := (Kp.refl (World.setCell w7 ⟨Bk j, b2, none⟩ (.int .i64 (vb + 1)))).drew
        have m7 := m8.kp k8
        have c7 := (c8).turn t8 (fun i hi e => by have := (hmd.lt hj).1; omega)
        replace c7 := c7.kp k8
        have T7 := (tp_own T8 t8 (fun i e => by have := (hmd.lt hj).1; omega)).trans (Turn.of_kp (S := fun i => i = p) k8)
        clear m8 t8 k8 hmd hh hhd y1 y2 z1 z2 kd
        go_wp2_with fail
        go_ret
        exact ⟨_, rfl, m7.dgrid (by omega) (by omega) hw1, c7.mono (by omega), T7⟩
      · have q0 : (r == 0) = false := by simp [r0]
        by_cases r1 : r = 1
        · subst r1
          have kd := (Kp.refl w6).drew
          have hmd := (hm6).kp kd
          have hh := (hm6).hcell hj
          have hhd := hmd.hcell hj
          obtain ⟨y1, y2, y3⟩ := (hm6).cell hj ha
          obtain ⟨z1, z2, _⟩ := hmd.cell hj ha
          rw [hva] at y1 z1
          obtain ⟨m8, t8⟩ := y3 (va + 1)
          clear y3
          go_wp2_with fail
          go_still_tail 14, (by kernel_rfl)
          change wpList _ _ _ _ _ _
          go_wp2_with fail
          have k8 := (Kp.refl (World.setCell w6 ⟨Bk j, a, none⟩ (.int .i64 (va + 1)))).drew
          have m7 := m8.kp k8
          have c7 := (c6).turn t8 (fun i hi e => by have := (hmd.lt hj).1; omega)
          replace c7 := c7.kp k8
          have T7 := (tp_own T6 t8 (fun i e => by have := (hmd.lt hj).1; omega)).trans (Turn.of_kp (S := fun i => i = p) k8)
          clear m8 t8 k8 hmd hh hhd y1 y2 z1 z2 kd
          go_wp2_with fail
          go_ret
          exact ⟨_, rfl, m7.dgrid (by omega) (by omega) hw1, c7.mono (by omega), T7⟩
        · have q1 : (r == 1) = false := by simp [r1]
          have m7 := hm6
          have c7 := c6
          have T7 := T6
          go_wp2_with fail
          go_ret
          exact ⟨_, rfl, m7.dgrid (by omega) (by omega) hw1, c7.mono (by omega), T7⟩
end Go.Proofs.Ytcnceocgdghciaa

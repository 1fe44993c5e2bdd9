/- LeastFlow: the reference. No condition. -/
import Derived.Test.YtgdicmeabppngaaQBj
import Derived.Test.YtgdicmeabppngaaQAv
import Derived.Test.YtgdicmeabppngaaQBf
import Derived.Test.YtgdicmeabppngaaQAu
namespace Go.Proofs.Ytgdicmeabppngaa
open Go.RowKit Go.Sort

theorem FirstG.congr {J M : Nat} {d : Nat → Nat → Int} {may : Nat → Nat → Bool} {nd rm : Nat → Int} {c : Int} {t : Nat} {v v' : Nat → Nat → Int} (h : FirstG J M d may nd rm c t v) (e : ∀ j a, j < J → a < M → v' j a = v j a) (hn : ∀ j a, 0 ≤ v' j a) : FirstG J M d may nd rm c t v' :=
  ⟨hn, fun j a hj ha hp => by rw [e j a hj ha]; exact h.zero j a hj ha hp, h.ext.congr (fun j a hj ha _ => (e j a hj ha).symm), fun j a hj ha hp n hlt hx => by
    rw [e j a hj ha] at hlt
    refine h.least j a hj ha hp n hlt (hx.congr (fun i b hi hb _ => ?_))
    rw [upd2_same, upd2_same]
    split
    · rfl
    · exact e i b hi hb⟩
theorem lget_snoc_lt {vs : List Int} {x : Int} {i : Nat} (h : i < vs.length) : lget (vs ++ [x]) i = lget vs i := by
  rw [lget_at (by simp; omega), lget_at h, List.getElem_append_left h]
theorem lget_snoc_eq {vs : List Int} {x : Int} : lget (vs ++ [x]) vs.length = x := by
  rw [lget_at (by simp), List.getElem_append_right (Nat.le_refl _)]; simp
/-- One number more. -/
theorem vG_snoc {M : Nat} {vs : List Int} {x : Int} {j a : Nat} (ht : vs.length = j * M + a) (ha : a < M) : ∀ i b, b < M → vG M (vs ++ [x]) (j * M + a + 1) i b = upd2 (vG M vs (j * M + a)) j a x i b := fun i b hb => by
  rw [vG_succ _ ha i b hb]
  have e1 : lget (vs ++ [x]) (j * M + a) = x := by rw [← ht]; exact lget_snoc_eq
  rw [upd2_same, upd2_same, e1]
  by_cases e : i = j ∧ b = a
  · rw [if_pos e, if_pos e]
  · rw [if_neg e, if_neg e]
    unfold vG
    by_cases h : i * M + b < j * M + a
    · rw [if_pos h, if_pos h, lget_snoc_lt (by omega)]
    · rw [if_neg h, if_neg h]
theorem lsL_sm (F : Fld) (rooms needs S : List Int) : GSm (lsL F rooms needs S) := by
  by_cases h : lfOk F rooms needs S = true
  · have h1 : haulB F rooms needs S = true := by
      unfold lfOk at h
      rw [Bool.and_eq_true] at h
      exact h.1
    have hP := haul_p h1
    have h7 := (goodF_iff.1 hP.good).1
    have h8 := (goodF_iff.1 hP.good).2.2.1
    unfold lsL
    rw [if_pos h]
    refine ⟨by rw [matL_len]; omega, fun j => ?_⟩
    by_cases hj : j < F.di.length
    · rw [matL_at hj, mapTo_len]; omega
    · simp [matL, List.getD, show F.di.length ≤ j by omega]
  · rw [lsL_no (by simpa using h)]
    exact ⟨by simp, fun j => by simp [List.getD]⟩
theorem lget_ge {vs : List Int} {i : Nat} (h : vs.length ≤ i) : lget vs i = 0 := by simp [lget, List.getD, h]
set_option maxRecDepth 100000 in
set_option maxHeartbeats 4000000 in
theorem l7First_any (f : Value) (F : Fld) (A1 : Option Addr) (rooms : List Int) (n1 c1 : Nat) (A2 : Option Addr) (needs : List Int) (n2 c2 : Nat) (A3 : Option Addr) (S : List Int) (n3 c3 : Nat) (w : World) (hf : FldAt w f F) (h1 : IntsAt w A1 rooms) (hn1 : rooms.length = n1) (h2 : IntsAt w A2 needs) (hn2 : needs.length = n2) (h3 : IntsAt w A3 S) (hn3 : S.length = n3) (hok : lfOk F rooms needs S = true) :
    Calls Try.prog 29 #[f, .slice A1 n1 c1, .slice A2 n2 c2, .slice A3 n3 c3] w fun e w' => ∃ v, e = .returned v ∧ OwnGrid w' w.heap.size v (lsL F rooms needs S).length (rowAt (lsL F rooms needs S)) ∧ Kp w w' := by
  obtain ⟨A, c, B, d, rfl, hA, hB⟩ := hf
  have hk0 : Kp w (w.alloc (.cells #[.slice A F.op.length c, .slice B F.di.length d] 27)) := (Kp.refl w).alloc _
  obtain ⟨d0, d1⟩ := box2 w (.slice A F.op.length c) (.slice B F.di.length d) 27
  have hFA := FldAt.kp (show FldAt w (.agg #[.slice A F.op.length c, .slice B F.di.length d]) F from ⟨A, c, B, d, rfl, hA, hB⟩) hk0
  replace h1 := h1.kp hk0
  replace h2 := h2.kp hk0
  replace h3 := h3.kp hk0
  have Hn1 := Lib.hid hn1; have Hn2 := Lib.hid hn2; have Hn3 := Lib.hid hn3
  have Hok := Lib.hid hok
  have HH := Lib.hid (lfOk_iff.1 hok)
  have HP := Lib.hid (haul_p HH.out.1)
  have HL := Lib.hid (lf_lst hok)
  have HBd := Lib.hid (lf_bd hok)
  have h7 := (goodF_iff.1 HP.out.good).1
  have h8 := (goodF_iff.1 HP.out.good).2.2.1
  have C0 := Lib.hid (fun (wx : World) (hx : Kp (w.alloc (.cells #[.slice A F.op.length c, .slice B F.di.length d] 27)) wx) => (l7Any_any (.agg #[.slice A F.op.length c, .slice B F.di.length d]) F A1 rooms n1 c1 A2 needs n2 c2 A3 S n3 c3 wx (hFA.kp hx) (h1.kp hx) Hn1.out (h2.kp hx) Hn2.out (h3.kp hx) Hn3.out HP.out).mono (fun e w' hp => by
    obtain ⟨L, nl, lf, fl, he, hN, hNn, hor, hk⟩ := hp
    have hz : ∀ j, j < F.di.length → nl j = 0 := by
      rcases hor with h | ⟨_, h⟩
      · exact h
      · obtain ⟨x, hx⟩ := any_full HP.out HH.out.2
        exact absurd hx (h x)
    exact (⟨L.fA, L.cf, fl, he, net_grid hN (by omega) (by omega), start_lst HP.out ⟨⟨fl, (net_can hNn hz).1, rfl⟩, (net_can hNn hz).2⟩, start_haul' HP.out (net_can hNn hz).1, hk⟩ : ∃ (fA : Option Addr) (cf : Nat) (fl : Nat → Nat → Int), e = .returned (.slice fA F.di.length cf) ∧ GridAt w' fA (matL F.di.length F.op.length fl) ∧ IsLst F.di.length F.op.length (dF F) (openM S) (lget needs) (lget rooms) (costT F.di.length F.op.length (dF F) fl) ∧ Haul F.di.length F.op.length (startM F S 99) (lget needs) (lget rooms) fl ∧ Kp wx w')))
  have C1 := Lib.hid (fun (wx : World) (hx : Kp (w.alloc (.cells #[.slice A F.op.length c, .slice B F.di.length d] 27)) wx) (fA : Option Addr) (cf : Nat) (fl : Nat → Nat → Int) (hg : GridAt wx fA (matL F.di.length F.op.length fl)) (hl : IsLst F.di.length F.op.length (dF F) (openM S) (lget needs) (lget rooms) (costT F.di.length F.op.length (dF F) fl)) (hh : Haul F.di.length F.op.length (startM F S 99) (lget needs) (lget rooms) fl) =>
    (show Calls Try.prog 52 #[.agg #[.slice A F.op.length c, .slice B F.di.length d], .slice fA F.di.length cf] wx (fun e w' => e = .returned (.int .i64 (lfV F rooms needs S)) ∧ Kp wx w') from by
      rw [lfV_yes Hok.out hl, ← cost_mat fl]
      exact l7Cost_any _ F rooms needs S fA (matL F.di.length F.op.length fl) F.di.length cf wx (hFA.kp hx) hg (matL_len _ _ _) HH.out.1 (haul_flow (S := S) (fun j a _ _ h => by rw [startM_open HP.out.good] at h; exact h) hh)))
  clear hA hB hn1 hn2 hn3 hok
  go_enter Try.func29, Try.ntmps29
  go_wp2_with fail
  have hsz : Hid ((w.alloc (.cells #[.slice A F.op.length c, .slice B F.di.length d] 27)).heap.size = w.heap.size + 1) := by show _ = _; simp
  generalize w.alloc (.cells #[.slice A F.op.length c, .slice B F.di.length d] 27) = wb at *
  have hkb : Kp wb wb := Kp.refl _
  have hkw := hk0
  have q_d0 := hkb.get d0
  have q_d1 := hkb.get d1
  have tok1 : True := trivial
  go_wp2_with fail
  go_region_held3 (fun w' => w'.cell? ⟨w.heap.size, 0, none⟩ = some (.slice A F.op.length c) ∧ w'.cell? ⟨w.heap.size, 1, none⟩ = some (.slice B F.di.length d) ∧ Kp wb w')
    (first | (refine keepc2 d0 d1 ?_; exact (by repeat (first | with_reducible assumption | with_reducible exact Kp.refl _ | with_reducible refine Kp.drew ?_ | with_reducible refine Kp.alloc ?_ _ | with_reducible refine Kp.drewN ?_ _ | refine Kp.setCell ?_ (by dsimp only; omega) _))) | fail)
    (first
      | (have _t := tok1; go_at_call 31; with_reducible refine Calls.mono (C0.out _ (by repeat (first | with_reducible assumption | with_reducible exact Kp.refl _ | with_reducible refine Kp.drew ?_ | with_reducible refine Kp.alloc ?_ _ | with_reducible refine Kp.drewN ?_ _ | refine Kp.setCell ?_ (by dsimp only; omega) _))) ?_; rintro e wr1 ⟨fA, cf, fl, rfl, hg, hl, hh, hka⟩; have hr1 : Kp wb wr1 := Kp.trans (by repeat (first | with_reducible assumption | with_reducible exact Kp.refl _ | with_reducible refine Kp.drew ?_ | with_reducible refine Kp.alloc ?_ _ | with_reducible refine Kp.drewN ?_ _ | refine Kp.setCell ?_ (by dsimp only; omega) _)) hka; have tok2 : True := trivial; clear tok1 _t)
      | (have _t := tok2; go_at_call 52; with_reducible refine Calls.mono (C1.out _ (by repeat (first | with_reducible assumption | with_reducible exact Kp.refl _ | with_reducible refine Kp.drew ?_ | with_reducible refine Kp.alloc ?_ _ | with_reducible refine Kp.drewN ?_ _ | refine Kp.setCell ?_ (by dsimp only; omega) _)) fA cf fl (hg.kp (by repeat (first | with_reducible assumption | with_reducible exact Kp.refl _ | with_reducible refine Kp.drew ?_ | with_reducible refine Kp.alloc ?_ _ | with_reducible refine Kp.drewN ?_ _ | refine Kp.setCell ?_ (by dsimp only; omega) _))) hl hh) ?_; rintro e wr2 ⟨rfl, hka⟩; have hr2 : Kp wb wr2 := Kp.trans (by repeat (first | with_reducible assumption | with_reducible exact Kp.refl _ | with_reducible refine Kp.drew ?_ | with_reducible refine Kp.alloc ?_ _ | with_reducible refine Kp.drewN ?_ _ | refine Kp.setCell ?_ (by dsimp only; omega) _)) hka; have tok3 : True := trivial; clear tok2 _t)
      | fail)
  all_goals
    have hkx := hr2
    clear C0 C1 hr1 hg hl hh
    generalize wr2 = w1 at *
    have ho0 := own_new0 w1 wb.heap.size hkx.le
    have hkx2 := hkx.alloc (.cells #[] 3)
    obtain ⟨P, HPp⟩ : ∃ P, Hid (F.di.length * F.op.length = P) := ⟨_, rfl⟩
    have hPb : P ≤ 49 := by rw [← HPp.out]; exact Nat.le_trans (Nat.mul_le_mul h8 h7.2) (by omega)
    have hwP : IntKind.i64.wrap ((F.di.length : Int) * (F.op.length : Int)) = (P : Int) := by
      rw [← HPp.out]
      push_cast
      exact IntWalk.i64_in _ (by have := hPb; rw [← HPp.out] at this; have h9 : ((F.di.length * F.op.length : Nat) : Int) ≤ 49 := (by omega); push_cast at h9; have h10 : (0 : Int) ≤ (F.di.length : Int) * (F.op.length : Int) := Int.mul_nonneg (by omega) (by omega); omega)
    have HF0 := Lib.hid ((FirstG.start HL.out).congr (v' := vG F.op.length [] 0) (fun j a _ _ => vG_zero _ _ _ _) (fun j a => by rw [vG_zero]; exact Int.le_refl _))
    have HO0 := Lib.hid ho0
    have HK0 := Lib.hid hkx2
    have d0' := hkx2.get d0; have d1' := hkx2.get d1
    clear ho0 hkx2
    go_wp2_with fail
    go_loopw [10] (fun gvv wr => ∃ (t g cg : Nat) (vs : List Int), t ≤ P ∧ vs.length = t ∧ gvv = .slice (some ⟨g, 0, none⟩) t cg ∧ Own wr wb.heap.size (.slice (some ⟨g, 0, none⟩) t cg) vs ∧ Kp wb wr ∧ Hid (∀ i, 0 ≤ lget vs i ∧ lget vs i ≤ 1000) ∧ Hid (FirstG F.di.length F.op.length (dF F) (openM S) (lget needs) (lget rooms) (lfV F rooms needs S) t (vG F.op.length vs t))) (fun gvv _ => P - sLen gvv)
    case atStart => exact ⟨0, _, _, [], by omega, rfl, rfl, HO0.out, HK0.out, fun i => by simp [lget], HF0.out⟩
    case round =>
      clear HO0 HK0 HF0 d0' d1'
      obtain ⟨t, g, cg, vs, htP, hvl, rfl, hown, hkq, Hvb, HFt⟩ := hrel
      obtain ⟨wt, rfl⟩ : ∃ wt : World, wt = wr := ⟨_, rfl⟩
      have q0 := hkq.get d0; have q1 := hkq.get d1
      have Hvl := Lib.hid hvl
      clear hvl
      by_cases hlt : t < P
      · have hMp : 0 < F.op.length := h7.1
        obtain ⟨j, Hj⟩ : ∃ j, Hid (t / F.op.length = j) := ⟨_, rfl⟩
        obtain ⟨a, Ha⟩ : ∃ a, Hid (t % F.op.length = a) := ⟨_, rfl⟩
        have Hja : Hid (t = j * F.op.length + a) := by
          show _ = _
          rw [← Hj.out, ← Ha.out, Nat.mul_comm]; exact (Nat.div_add_mod _ _).symm
        have haM : a < F.op.length := by rw [← Ha.out]; exact Nat.mod_lt _ hMp
        have hjJ : j < F.di.length := by
          rw [← Hj.out]
          exact Nat.div_lt_of_lt_mul (by have := HPp.out; rw [Nat.mul_comm]; omega)
        have hFt := HFt.out
        rw [Hja.out] at hFt
        obtain ⟨ns, hns, hext⟩ := hFt.next hjJ haM (fun j => by have := HP.out.nb j; omega)
        have HFv := Lib.hid hFt
        have Hext := Lib.hid hext
        have Hown := Lib.hid hown
        have Htest := Lib.hid (fun (x : Nat) (hx : x ≤ 1000) => (show ExtG F.di.length F.op.length (dF F) (openM S) (lget needs) (lget rooms) (lfV F rooms needs S) (t + 1) (vG F.op.length (vs ++ [(x : Int)]) (t + 1)) ↔ ExtG F.di.length F.op.length (dF F) (openM S) (lget needs) (lget rooms) (lfV F rooms needs S) (j * F.op.length + a + 1) (upd2 (vG F.op.length vs (j * F.op.length + a)) j a x) from by
          have e := vG_snoc (M := F.op.length) (vs := vs) (x := (x : Int)) (j := j) (a := a) (by rw [Hvl.out, Hja.out]) haM
          rw [Hja.out]
          exact ⟨fun h => h.congr (fun i b _ hb _ => e i b hb), fun h => h.congr (fun i b _ hb _ => (e i b hb).symm)⟩))
        have C2 := Lib.hid (fun (wx : World) (hx : Kp wt wx) => l1Own_all (some ⟨g, 0, none⟩) vs t cg wx ((Hown.out.intsOf (by rw [Hvl.out]; omega)).kp hx) Hvl.out (by omega))
        have C3 := Lib.hid (fun (wx : World) (hx : Kp wt wx) (x : Nat) (hx0 : x ≤ 1000) (vb : Value) (ho : Own wx wt.heap.size vb (vs ++ [(x : Int)])) => (show Calls Try.prog 53 #[.agg #[.slice A F.op.length c, .slice B F.di.length d], .slice A1 n1 c1, .slice A2 n2 c2, .slice A3 n3 c3, vb] wx (fun e w' => ∃ r : Int, e = .returned (.int .i64 r) ∧ (r = lfV F rooms needs S ↔ ExtG F.di.length F.op.length (dF F) (openM S) (lget needs) (lget rooms) (lfV F rooms needs S) (t + 1) (vG F.op.length (vs ++ [(x : Int)]) (t + 1))) ∧ Kp wx w') from by
          obtain ⟨Ab, cb, rfl⟩ := ho.shape
          have hl : (vs ++ [(x : Int)]).length = t + 1 := by rw [List.length_append, Hvl.out]; rfl
          have hi := ho.intsOf (by rw [hl]; omega)
          rw [hl]
          exact l7With_any _ F A1 rooms n1 c1 A2 needs n2 c2 A3 S n3 c3 Ab (vs ++ [(x : Int)]) (t + 1) cb (lfV F rooms needs S) wx (hFA.kp (hkq.trans hx)) (h1.kp (hkq.trans hx)) Hn1.out (h2.kp (hkq.trans hx)) Hn2.out (h3.kp (hkq.trans hx)) Hn3.out hi hl HP.out (by rw [HPp.out]; omega) (fun i => by
            rcases Nat.lt_trichotomy i vs.length with h | h | h
            · rw [lget_snoc_lt h]; exact Hvb.out i
            · rw [h, lget_snoc_eq]; omega
            · rw [lget_ge (by rw [hl, ← Hvl.out]; omega)]; omega) HH.out.1 HL.out))
        clear hFt hext hown
        go_wp2_with fail
        go_loopw [11] (fun xv wr => ∃ x : Nat, x ≤ ns ∧ xv = .int .i64 x ∧ Kp wt wr ∧ Hid (∀ m : Nat, m < x → ¬ ExtG F.di.length F.op.length (dF F) (openM S) (lget needs) (lget rooms) (lfV F rooms needs S) (j * F.op.length + a + 1) (upd2 (vG F.op.length vs (j * F.op.length + a)) j a m))) (fun xv _ => ns + 1 - (intOf xv).toNat)
        case atStart => exact ⟨0, by omega, rfl, Kp.refl _, fun m hm => by omega⟩
        case round =>
          obtain ⟨x, hxn, rfl, hkx, Hm⟩ := hrel
          obtain ⟨wx, rfl⟩ : ∃ wx : World, wx = wr := ⟨_, rfl⟩
          have hkxx : Kp wx wx := Kp.refl _
          have C2x := Lib.hid (fun (w' : World) (hx : Kp wx w') => C2.out w' (hkx.trans hx))
          have C3x := Lib.hid (fun (w' : World) (hx : Kp wx w') (vb : Value) (ho : Own w' wx.heap.size vb (vs ++ [(x : Int)])) => C3.out w' (hkx.trans hx) x (by omega) vb (ho.mono hkx.le))
          have hvlen : vs.length + 1 ≤ 4194304 := by rw [Hvl.out]; omega
          have hvlen2 : vs.length < 1048576 := by rw [Hvl.out]; omega
          have p0 := hkx.get q0; have p1 := hkx.get q1
          clear q_d0 q_d1
          have q_p0 := hkxx.get p0
          have q_p1 := hkxx.get p1
          go_wp2_with fail
          clear q_p0 q_p1
          have q_p0 := hkxx.get p0
          have q_p1 := hkxx.get p1
          have tok1 : True := trivial
          go_wp2_with fail
          go_region_held3 (fun w' => w'.cell? ⟨w.heap.size, 0, none⟩ = some (.slice A F.op.length c) ∧ w'.cell? ⟨w.heap.size, 1, none⟩ = some (.slice B F.di.length d) ∧ Kp wx w')
            (first | (refine keepc2 p0 p1 ?_; exact (by repeat (first | with_reducible assumption | with_reducible exact Kp.refl _ | with_reducible refine Kp.drew ?_ | with_reducible refine Kp.alloc ?_ _ | with_reducible refine Kp.drewN ?_ _ | refine Kp.setCell ?_ (by dsimp only; omega) _))) | fail)
            (first
              | (have _t := tok1; go_at_call 54; with_reducible refine Calls.mono (C2x.out _ (by repeat (first | with_reducible assumption | with_reducible exact Kp.refl _ | with_reducible refine Kp.drew ?_ | with_reducible refine Kp.alloc ?_ _ | with_reducible refine Kp.drewN ?_ _ | refine Kp.setCell ?_ (by dsimp only; omega) _))) ?_; rintro e wr1 ⟨bA, bc, rfl, hbo, hka⟩; have hr1 : Kp wx wr1 := Kp.trans (by repeat (first | with_reducible assumption | with_reducible exact Kp.refl _ | with_reducible refine Kp.drew ?_ | with_reducible refine Kp.alloc ?_ _ | with_reducible refine Kp.drewN ?_ _ | refine Kp.setCell ?_ (by dsimp only; omega) _)) hka; have hob := Own.mono hbo (show wx.heap.size ≤ _ from Kp.le (by first | with_reducible assumption | exact (by repeat (first | with_reducible assumption | with_reducible exact Kp.refl _ | with_reducible refine Kp.drew ?_ | with_reducible refine Kp.alloc ?_ _ | with_reducible refine Kp.drewN ?_ _ | refine Kp.setCell ?_ (by dsimp only; omega) _)))); have tok2 : True := trivial; clear tok1 _t)
              | (have _t := tok2; (first | (refine step_app_all (by rfl) (.tmp 37) (.tmp 39) (by rfl) wx.heap.size _ vs [(x : Int)] (some ⟨wx.heap.size, 0, none⟩) 1 1 (by rfl) (by rfl) (hob.kp (by repeat (first | with_reducible assumption | with_reducible exact Kp.refl _ | with_reducible refine Kp.drew ?_ | with_reducible refine Kp.alloc ?_ _ | with_reducible refine Kp.drewN ?_ _ | refine Kp.setCell ?_ (by dsimp only; omega) _))) ((one_new wx (x : Int)).kp (Kp.trans (by repeat (first | with_reducible assumption | with_reducible exact Kp.refl _ | with_reducible refine Kp.drew ?_ | with_reducible refine Kp.alloc ?_ _ | with_reducible refine Kp.drewN ?_ _ | refine Kp.setCell ?_ (by dsimp only; omega) _)) hka)) rfl hr1.le hvlen ?_; intro v' w' ho' ht' _; have hk4 : Kp wx w' := Own.kp_turn (hob.kp (by repeat (first | with_reducible assumption | with_reducible exact Kp.refl _ | with_reducible refine Kp.drew ?_ | with_reducible refine Kp.alloc ?_ _ | with_reducible refine Kp.drewN ?_ _ | refine Kp.setCell ?_ (by dsimp only; omega) _))) (by repeat (first | with_reducible assumption | with_reducible exact Kp.refl _ | with_reducible refine Kp.drew ?_ | with_reducible refine Kp.alloc ?_ _ | with_reducible refine Kp.drewN ?_ _ | refine Kp.setCell ?_ (by dsimp only; omega) _)) (Nat.le_refl _) ht') | (refine step_app (by rfl) (.tmp 37) (.tmp 39) (by rfl) wx.heap.size _ vs (x : Int) _ (by rfl) (by rfl) (by rfl) (hob.kp (by repeat (first | with_reducible assumption | with_reducible exact Kp.refl _ | with_reducible refine Kp.drew ?_ | with_reducible refine Kp.alloc ?_ _ | with_reducible refine Kp.drewN ?_ _ | refine Kp.setCell ?_ (by dsimp only; omega) _))) (Kp.le (by repeat (first | with_reducible assumption | with_reducible exact Kp.refl _ | with_reducible refine Kp.drew ?_ | with_reducible refine Kp.alloc ?_ _ | with_reducible refine Kp.drewN ?_ _ | refine Kp.setCell ?_ (by dsimp only; omega) _))) hvlen2 ?_; intro v' w' ho' ht' _; have hk4 : Kp wx w' := Own.kp_turn (hob.kp (by repeat (first | with_reducible assumption | with_reducible exact Kp.refl _ | with_reducible refine Kp.drew ?_ | with_reducible refine Kp.alloc ?_ _ | with_reducible refine Kp.drewN ?_ _ | refine Kp.setCell ?_ (by dsimp only; omega) _))) (by repeat (first | with_reducible assumption | with_reducible exact Kp.refl _ | with_reducible refine Kp.drew ?_ | with_reducible refine Kp.alloc ?_ _ | with_reducible refine Kp.drewN ?_ _ | refine Kp.setCell ?_ (by dsimp only; omega) _)) (Nat.le_refl _) ht')); have tok3 : True := trivial; clear tok2 _t)
              | (have _t := tok3; go_at_call 53; with_reducible refine Calls.mono (C3x.out _ (by repeat (first | with_reducible assumption | with_reducible exact Kp.refl _ | with_reducible refine Kp.drew ?_ | with_reducible refine Kp.alloc ?_ _ | with_reducible refine Kp.drewN ?_ _ | refine Kp.setCell ?_ (by dsimp only; omega) _)) _ ho') ?_; rintro e wr3 ⟨r, rfl, hrx, hka⟩; have hr3 : Kp wx wr3 := Kp.trans (by repeat (first | with_reducible assumption | with_reducible exact Kp.refl _ | with_reducible refine Kp.drew ?_ | with_reducible refine Kp.alloc ?_ _ | with_reducible refine Kp.drewN ?_ _ | refine Kp.setCell ?_ (by dsimp only; omega) _)) hka; have tok4 : True := trivial; clear tok3 _t)
              | fail)
          all_goals
            have Hrx := Lib.hid (hrx.trans (Htest.out x (by omega)))
            have hkf := hkx.trans hr3
            clear hrx C2x C3x hr1 hbo hob ho' ht' hk4
            by_cases hreq : r = lfV F rooms needs S
            · have Hx := Lib.hid (Hrx.out.1 hreq)
              have hne : (r != lfV F rooms needs S) = false := by rw [hreq]; simp
              have HF2 := Lib.hid (HFv.out.step hjJ haM x Hx.out Hm.out)
              have HF3 := Lib.hid (show FirstG F.di.length F.op.length (dF F) (openM S) (lget needs) (lget rooms) (lfV F rooms needs S) (t + 1) (vG F.op.length (vs ++ [(x : Int)]) (t + 1)) from by
                rw [Hja.out]
                exact HF2.out.congr (fun i b _ hb => vG_snoc (M := F.op.length) (vs := vs) (x := (x : Int)) (j := j) (a := a) (by rw [Hvl.out, Hja.out]) haM i b hb) (fun i b => by
                  unfold vG
                  split
                  · rcases Nat.lt_trichotomy (i * F.op.length + b) vs.length with h | h | h
                    · rw [lget_snoc_lt h]; exact (Hvb.out _).1
                    · rw [h, lget_snoc_eq]; omega
                    · rw [lget_ge (by simp; omega)]; omega
                  · omega))
              have Hvb2 : Hid (∀ i, 0 ≤ lget (vs ++ [(x : Int)]) i ∧ lget (vs ++ [(x : Int)]) i ≤ 1000) := fun i => by
                rcases Nat.lt_trichotomy i vs.length with h | h | h
                · rw [lget_snoc_lt h]; exact Hvb.out i
                · rw [h, lget_snoc_eq]; omega
                · rw [lget_ge (by simp; omega)]; omega
              have howx := Hown.out.kp hkf
              have hkbx := hkq.trans hkf
              clear hreq
              go_wp2_with (at_builtin; go_loud (refine wpl_app rfl (.tmp 46) (.tmp 48) rfl wb.heap.size _ vs (x : Int) rfl rfl howx hkbx.le hvlen2 ?_; intro v' w' ho' ht' h4'; have hkb' := howx.kp_turn hkbx (Nat.le_refl _) ht'; obtain ⟨g', cg', rfl⟩ := Own.at0 ho' (n := t + 1) (by rw [List.length_append, Hvl.out]; rfl) (by omega)))
              go_roundw
              case rel => exact ⟨t + 1, g', cg', vs ++ [(x : Int)], by omega, by rw [List.length_append, Hvl.out]; rfl, rfl, ho', hkb', Hvb2, HF3⟩
              case measure => simp [sLen]; omega
            · have hne : (r != lfV F rooms needs S) = true := by simp [hreq]
              have Hm2 : Hid (∀ m : Nat, m < x + 1 → ¬ ExtG F.di.length F.op.length (dF F) (openM S) (lget needs) (lget rooms) (lfV F rooms needs S) (j * F.op.length + a + 1) (upd2 (vG F.op.length vs (j * F.op.length + a)) j a m)) := fun m hm => by
                rcases Nat.lt_or_ge m x with h | h
                · exact Hm.out m h
                · obtain rfl : m = x := by omega
                  exact fun he => hreq (Hrx.out.2 he)
              have hxs : x < ns := by
                rcases Nat.lt_or_ge x ns with h | h
                · exact h
                · obtain rfl : x = ns := by omega
                  exact absurd Hext.out (Hm2.out x (by omega))
              go_wp2_with fail
              refine ⟨⟨x + 1, by omega, by go_num, hkf, Hm2⟩, ?_⟩
              simp [intOf]; omega
      · obtain rfl : t = P := by omega
        have Hown := Lib.hid hown
        have hm0 := Lib.hid (mat_nil wt wt.heap.size F.op.length (fun _ => 0) (fun _ => 0) (fun j a => lget vs (j * F.op.length + a)) (Nat.le_refl _))
        have hka := (Kp.refl wt).alloc (.cells #[] 24)
        have hcap := Own.cap hown rfl
        rw [Hvl.out] at hcap
        clear hown
        go_wp2_with fail
        go_loopw [12, 13] (fun ov jv wr => ∃ (j g2 cap : Nat) (Bk Ck : Nat → Nat), j ≤ F.di.length ∧ jv = .int .i64 j ∧ ov = .slice (some ⟨g2, 0, none⟩) j cap ∧ Mat wr wt.heap.size g2 cap j F.op.length Bk Ck (fun j a => lget vs (j * F.op.length + a)) ∧ Kp wt wr) (fun _ jv _ => F.di.length - (intOf jv).toNat)
        case atStart => exact ⟨0, _, _, _, _, by omega, rfl, rfl, hm0.out, hka⟩
        case round =>
          clear hm0 hka
          obtain ⟨j, g2, cap, Bk, Ck, hj, rfl, rfl, hmt, hkx⟩ := hrel
          obtain ⟨wx, rfl⟩ : ∃ wx : World, wx = wr := ⟨_, rfl⟩
          have r0 := hkx.get q0; have r1 := hkx.get q1
          by_cases hlj : j < F.di.length
          · obtain ⟨lo, Hlo⟩ : ∃ lo, Hid (j * F.op.length = lo) := ⟨_, rfl⟩
            obtain ⟨hi, Hhi⟩ : ∃ hi, Hid ((j + 1) * F.op.length = hi) := ⟨_, rfl⟩
            have hlh : lo + F.op.length = hi := by rw [← Hlo.out, ← Hhi.out, Nat.add_mul, Nat.one_mul]
            have hhP : hi ≤ t := by
              rw [← Hhi.out, ← HPp.out]
              exact Nat.mul_le_mul_right _ hlj
            have hw1 : IntKind.i64.wrap ((j : Int) * (F.op.length : Int)) = (lo : Int) := by
              rw [← Hlo.out]
              push_cast
              have h9 : ((j * F.op.length : Nat) : Int) = (lo : Int) := by rw [Hlo.out]
              push_cast at h9
              rw [h9]; exact IntWalk.i64_in _ (by omega)
            have hw2 : IntKind.i64.wrap (((j : Int) + 1) * (F.op.length : Int)) = (hi : Int) := by
              have h9 : (((j + 1) * F.op.length : Nat) : Int) = (hi : Int) := by rw [Hhi.out]
              push_cast at h9
              rw [h9]; exact IntWalk.i64_in _ (by omega)
            have hb1 : (lo : Int) ≤ (hi : Int) := by omega
            have hb2 : (hi : Int) ≤ (cg : Int) := by omega
            have hb3 : lo ≤ hi := by omega
            have hb4 : hi ≤ cg := by omega
            have hd1 := hmt.hd
            go_wp2_with fail
            have hsub := ((Hown.out.kp hkx).intsOf (by rw [Hvl.out]; omega))
            have hsub2 := (hsub.drop lo).take (hi - lo)
            rw [show (⟨g, 0, none⟩ : Addr).add lo = ⟨g, lo, none⟩ from add0 _ _] at hsub2
            have hhl : hi - lo = F.op.length := by omega
            have hrowL : (vs.drop lo).take (hi - lo) = mapTo (fun a => lget vs (j * F.op.length + a)) F.op.length := by
              rw [hhl]
              apply List.ext_getElem
              · rw [mapTo_len, List.length_take, List.length_drop, Hvl.out]; omega
              · intro i h1 h2
                rw [mapTo_len] at h2
                rw [mapTo_get h2, List.getElem_take, List.getElem_drop, Hlo.out, lget_at (by rw [Hvl.out]; omega)]
            have CO := Lib.hid (l1Own_all (some ⟨g, lo, none⟩) ((vs.drop lo).take (hi - lo)) (hi - lo) (cg - lo) wx hsub2 (by rw [hrowL, mapTo_len, hhl]) (by omega))
            rw [hrowL, hhl] at CO
            rw [hhl]
            clear hsub hsub2
            with_reducible refine Calls.mono CO.out ?_
            rintro e w2 ⟨bA, bc, rfl, hbo, hk2⟩
            obtain ⟨gb, cb, e7⟩ := hbo.at0 (mapTo_len _ _) h7.1
            obtain ⟨rfl, -, rfl⟩ : bA = some ⟨gb, 0, none⟩ ∧ F.op.length = F.op.length ∧ bc = cb := by simpa using e7
            clear e7 CO
            have hgb := hbo.lt gb rfl
            have HM := Lib.hid hmt
            have HM2 := Lib.hid (hmt.kp hk2)
            have HBo := Lib.hid (hbo.mono (base' := wt.heap.size) hkx.le)
            have hd2 := hk2.own hd1
            have hbs := (hkx.trans hk2).le
            have hk12 := hkx.trans hk2
            have e8 : ∀ k2 : Nat, (Value.slice (some ⟨g2, 0, none⟩) j cap).ownBlock = some k2 → g2 = k2 := fun k2 hh => by simpa [Value.ownBlock] using hh
            clear hmt hd1 hbo
            go_wp2_with (at_builtin; go_loud (refine wpl_appv rfl (.tmp 58) (.tmp 73) rfl wt.heap.size (.slice (some ⟨g2, 0, none⟩) j cap) j _ (.slice (some ⟨gb, 0, none⟩) F.op.length bc) rfl rfl hd2 rfl hbs (by omega) ?_; intro g' c' w' ho' ht' hg4))
            have HM3 := Lib.hid (Mat.addR HM2.out HBo.out (fun _ _ => rfl) (by have := HM.out.glt; omega) (fun i hi => by have := HM.out.lt hi; omega) ho' ht')
            have HK3 := Lib.hid (hk12.turn ht' (fun k e => by have := e8 k e; have := HM.out.glt; omega))
            clear ho' ht' hg4 hd2
            go_wp2_with fail
            go_roundw
            case rel => exact ⟨j + 1, g', c', _, _, by omega, by go_num, rfl, HM3.out, HK3.out⟩
            case measure => simp [intOf]; omega
          · obtain rfl : j = F.di.length := by omega
            go_wp2_with fail
            go_ret
            refine ⟨_, rfl, ?_, (hkw.trans hkq).trans hkx⟩
            have hl : lsL F rooms needs S = matL F.di.length F.op.length (fun j a => lget vs (j * F.op.length + a)) := by
              unfold lsL
              rw [if_pos Hok.out]
              unfold matL
              refine List.map_congr_left (fun j hj => ?_)
              unfold mapTo
              refine List.map_congr_left (fun a ha => ?_)
              have hjJ := List.mem_range.1 hj
              have haM := List.mem_range.1 ha
              have hF := HFt.out
              rw [← HPp.out] at hF
              have e := fst_eq HL.out hF hjJ haM
              rw [← e]
              unfold vG
              rw [if_pos]
              have := (pos_lt (M := F.op.length) (i := j) (a := a) (j := F.di.length) (b := 0) haM (by omega)).2 (.inl hjJ)
              omega
            rw [hl]
            have hg := (hmt.mono (base' := w.heap.size) (by have := (hkw.trans hkq).le; omega)).ownGrid
            rw [matL_len]
            exact own_grid_congr hg (fun j hj => (matL_at (M := F.op.length) (f := fun j a => lget vs (j * F.op.length + a)) hj).symm)
set_option maxRecDepth 100000 in
set_option maxHeartbeats 1000000 in
theorem specLs_any (f : Value) (F : Fld) (A1 : Option Addr) (rooms : List Int) (n1 c1 : Nat) (A2 : Option Addr) (needs : List Int) (n2 c2 : Nat) (A3 : Option Addr) (S : List Int) (n3 c3 : Nat) (w : World) (hf : FldAt w f F) (h1 : IntsAt w A1 rooms) (hn1 : rooms.length = n1) (h2 : IntsAt w A2 needs) (hn2 : needs.length = n2) (h3 : IntsAt w A3 S) (hn3 : S.length = n3) :
    Calls Try.prog 7 #[f, .slice A1 n1 c1, .slice A2 n2 c2, .slice A3 n3 c3] w fun e w' => ∃ v, e = .returned (.tuple #[v, .bool (lfOk F rooms needs S)]) ∧ GridV w' v (lsL F rooms needs S) ∧ Kp w w' := by
  obtain ⟨A, c, B, d, rfl, hA, hB⟩ := hf
  have hk0 : Kp w (w.alloc (.cells #[.slice A F.op.length c, .slice B F.di.length d] 27)) := (Kp.refl w).alloc _
  obtain ⟨d0, d1⟩ := box2 w (.slice A F.op.length c) (.slice B F.di.length d) 27
  have hFA := FldAt.kp (show FldAt w (.agg #[.slice A F.op.length c, .slice B F.di.length d]) F from ⟨A, c, B, d, rfl, hA, hB⟩) hk0
  replace h1 := h1.kp hk0
  replace h2 := h2.kp hk0
  replace h3 := h3.kp hk0
  have Hn1 := Lib.hid hn1; have Hn2 := Lib.hid hn2; have Hn3 := Lib.hid hn3
  clear hA hB hn1 hn2 hn3
  go_enter Try.func7, Try.ntmps7
  go_wp2_with fail
  have hsz : Hid ((w.alloc (.cells #[.slice A F.op.length c, .slice B F.di.length d] 27)).heap.size = w.heap.size + 1) := by show _ = _; simp
  generalize w.alloc (.cells #[.slice A F.op.length c, .slice B F.di.length d] 27) = wb at *
  have hkb : Kp wb wb := Kp.refl _
  have hkw := hk0
  have CC := Lib.hid (l7Can_any _ F A1 rooms n1 c1 A2 needs n2 c2 A3 S n3 c3 _ (hFA.kp hkb) (h1.kp hkb) Hn1.out (h2.kp hkb) Hn2.out (h3.kp hkb) Hn3.out)
  with_reducible refine Calls.mono CC.out ?_
  rintro e w1 ⟨rfl, hk1⟩
  clear CC
  replace hkb := hkb.trans hk1
  cases hh_ : lfOk F rooms needs S
  · have Hno := Lib.hid (lsL_no hh_)
    have Hl := Lib.hid hh_
    clear hh_
    have q_d0 := hkb.get d0
    have q_d1 := hkb.get d1
    go_wp2_with fail
    go_ret2
    have hle := (hkw.trans hkb).le
    refine ⟨_, by rw [Hl.out]; rfl, ?_, (hkw.trans hkb).alloc _⟩
    rw [Hno.out]
    have hg : OwnGrid _ w.heap.size _ ([] : List (List Int)).length (rowAt []) := own_grid_empty (base' := w.heap.size) (mat_nil w1 w1.heap.size 0 (fun _ => 0) (fun _ => 0) (fun _ _ => 0) (Nat.le_refl _)).ownGrid hle
    exact hg.gridv ⟨by simp, fun j => by simp [List.getD]⟩
  have Hl := Lib.hid hh_
  clear hh_
  have CC := Lib.hid (l7First_any (.agg #[.slice A F.op.length c, .slice B F.di.length d]) F A1 rooms n1 c1 A2 needs n2 c2 A3 S n3 c3 w1 (hFA.kp hkb) (h1.kp hkb) Hn1.out (h2.kp hkb) Hn2.out (h3.kp hkb) Hn3.out Hl.out)
  have q_d0 := hkb.get d0
  have q_d1 := hkb.get d1
  go_wp2_with fail
  with_reducible refine Calls.mono CC.out ?_
  rintro e w2 ⟨v, rfl, hg, hk2⟩
  clear CC
  obtain ⟨vA, vc, rfl⟩ := hg.shape
  go_wp2_with fail
  go_ret2
  exact ⟨_, by rw [Hl.out]; rfl, hg.gridv (lsL_sm F rooms needs S), (hkw.trans hkb).trans hk2⟩
end Go.Proofs.Ytgdicmeabppngaa

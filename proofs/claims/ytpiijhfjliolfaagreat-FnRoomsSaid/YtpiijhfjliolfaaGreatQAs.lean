/- The reference fills a net. No condition. -/
import Derived.Test.YtpiijhfjliolfaaGreatQAq
import Derived.Test.YtpiijhfjliolfaaGreatQAr
namespace Go.Proofs.YtpiijhfjliolfaaGreat
open Go.RowKit Go.Sort

/-- While a net is filled. -/
structure FlS (w wr : World) (base bl : Nat) (L : NetL) (J M : Nat) (nl lf : Nat → Int) (fl : Nat → Nat → Int) (may : Nat → Nat → Bool) (u v : Value) : Prop where
  n : NetS wr base L J M nl lf fl may
  f : wr.rangeAt w.heap.size 0 [u, v]
  rn : wr.rangeAt (w.heap.size + 1) 0 [.slice L.nA J L.cn, .slice (some ⟨L.gr, 0, none⟩) M L.cr, .slice L.fA J L.cf, .slice L.mA J L.cm]
  tn : wr.there (w.heap.size + 1) 0 4
  rt : wr.there (w.heap.size + 1 + 1) 0 4
  tw : Turn (fun i => base ≤ i ∧ i < bl) w wr
  hb : bl ≤ w.heap.size
section
variable {w wr w' : World} {base bl : Nat} {L : NetL} {J M : Nat} {nl lf nl' lf' : Nat → Int} {fl fl' : Nat → Nat → Int} {may : Nat → Nat → Bool} {u v : Value}
theorem FlS.go (h : FlS w wr base bl L J M nl lf fl may u v) (hk : Kp wr w') : FlS w w' base bl L J M nl lf fl may u v :=
  ⟨h.n.kp hk, range_kp h.f hk, range_kp h.rn hk, there_kp h.tn hk, there_kp h.rt hk, h.tw.trans (Turn.of_kp hk), h.hb⟩
theorem FlS.step (h : FlS w wr base bl L J M nl lf fl may u v) (hn : NetS w' base L J M nl' lf' fl' may) (ht : Turn (fun i => base ≤ i ∧ i < bl) wr w') : FlS w w' base bl L J M nl' lf' fl' may u v :=
  ⟨hn, ht.range h.f (by have := h.hb; omega), ht.range h.rn (by have := h.hb; omega), ht.there h.tn (by have := h.hb; omega), ht.there h.rt (by have := h.hb; omega), h.tw.trans ht, h.hb⟩
theorem FlS.put (h : FlS w wr base bl L J M nl lf fl may u v) (hl : NetLo L J w.heap.size) : FlS w (wr.setCells (w.heap.size + 1) 0 [.slice L.nA J L.cn, .slice (some ⟨L.gr, 0, none⟩) M L.cr, .slice L.fA J L.cf, .slice L.mA J L.cm]) base bl L J M nl lf fl may u v := by
  have ht := turn_setCells (w.heap.size + 1) [.slice L.nA J L.cn, .slice (some ⟨L.gr, 0, none⟩) M L.cr, .slice L.fA J L.cf, .slice L.mA J L.cm] 0 wr
  exact ⟨h.n.turnB hl ht (by omega), ht.range h.f (by omega), World.rangeAt_setCells_same wr (w.heap.size + 1) 0 _ h.tn, World.there_setCells h.tn _ _ _, World.there_setCells h.rt _ _ _, h.tw.new ht (by omega), h.hb⟩
theorem FlS.cells (h : FlS w wr base bl L J M nl lf fl may u v) : wr.cell? ⟨w.heap.size + 1, 0, none⟩ = some (.slice L.nA J L.cn) ∧ wr.cell? ⟨w.heap.size + 1, 1, none⟩ = some (.slice (some ⟨L.gr, 0, none⟩) M L.cr) ∧ wr.cell? ⟨w.heap.size + 1, 2, none⟩ = some (.slice L.fA J L.cf) ∧ wr.cell? ⟨w.heap.size + 1, 3, none⟩ = some (.slice L.mA J L.cm) :=
  ⟨h.rn 0 _ rfl, h.rn 1 _ rfl, h.rn 2 _ rfl, h.rn 3 _ rfl⟩
theorem FlS.fld (h : FlS w wr base bl L J M nl lf fl may u v) : wr.cell? ⟨w.heap.size, 0, none⟩ = some u ∧ wr.cell? ⟨w.heap.size, 1, none⟩ = some v := ⟨h.f 0 _ rfl, h.f 1 _ rfl⟩
theorem NetS.sum (h : NetS wr base L J M nl lf fl may) (hJ : J ≤ 1000) : memSum wr L.gn J = sumTo nl J := by
  by_cases h0 : 0 < J
  · obtain ⟨A, c, e, hi⟩ := (h.nd h0).ints (by rw [mapTo_len]; omega)
    simp only [Value.slice.injEq] at e
    obtain ⟨e, _, _⟩ := e
    rw [← e] at hi
    rw [memSum_ints hi (mapTo_len _ _)]
    exact sumTo_congr (fun i hi => mapTo_lget hi)
  · obtain rfl : J = 0 := by omega
    rfl
end
/-- What holds of the numbers of a net that is filled for the needs nd. -/
structure NetN (J M : Nat) (d : Nat → Nat → Int) (may : Nat → Nat → Bool) (rm nd nl lf : Nat → Int) (fl : Nat → Nat → Int) : Prop where
  net : Net J M d may rm fl lf
  row : ∀ j, j < J → rowS M fl j + nl j = nd j
  nb : ∀ j, 0 ≤ nl j ∧ nl j ≤ 1000
def FillPost (w : World) (base : Nat) (L : NetL) (J M : Nat) (d : Nat → Nat → Int) (may : Nat → Nat → Bool) (rm nd : Nat → Int) (e : Ending) (w' : World) : Prop :=
  ∃ (nl lf : Nat → Int) (fl : Nat → Nat → Int), e = .returned (L.val J M) ∧ NetS w' base L J M nl lf fl may ∧ NetN J M d may rm nd nl lf fl ∧ ((∀ j, j < J → nl j = 0) ∨ ((∃ j, j < J ∧ nl j ≠ 0) ∧ ∀ x, ¬ Haul J M may nd rm x)) ∧ Turn (fun i => base ≤ i ∧ i < w.heap.size) w w'
def FillPost2 (w : World) (base bl : Nat) (L : NetL) (J M : Nat) (d : Nat → Nat → Int) (may : Nat → Nat → Bool) (rm nd : Nat → Int) (e : Ending) (w' : World) : Prop :=
  ∃ (nl lf : Nat → Int) (fl : Nat → Nat → Int), e = .returned (L.val J M) ∧ NetS w' base L J M nl lf fl may ∧ NetN J M d may rm nd nl lf fl ∧ ((∀ j, j < J → nl j = 0) ∨ ((∃ j, j < J ∧ nl j ≠ 0) ∧ ∀ x, ¬ Haul J M may nd rm x)) ∧ Turn (fun i => base ≤ i ∧ i < bl) w w'
set_option maxRecDepth 100000 in
set_option maxHeartbeats 4000000 in
theorem l7Fill_any2 (f : Value) (F : Fld) (L : NetL) (nl lf rm nd : Nat → Int) (fl : Nat → Nat → Int) (may : Nat → Nat → Bool) (base bl : Nat) (w0 w : World) (hf : FldAt w0 f F) (hk0 : Kp w0 w) (hb0 : w0.heap.size ≤ base) (hbw : base ≤ w.heap.size) (hg : goodF F = true)
    (hn : NetS w base L F.di.length F.op.length nl lf fl may) (hN : NetN F.di.length F.op.length (dF F) may rm nd nl lf fl) (hrm : ∀ x, x < F.op.length → rm x ≤ 1000) (hlo2 : NetLo L F.di.length bl) (hbl : bl ≤ w.heap.size) :
    Calls Tryz.prog 74 #[f, L.val F.di.length F.op.length] w (FillPost2 w base bl L F.di.length F.op.length (dF F) may rm nd) := by
  have h7 := (goodF_iff.1 hg).1
  have h8 := (goodF_iff.1 hg).2.2.1
  have Hf := Lib.hid hf
  obtain ⟨A, c, B, d, rfl, hA, hB⟩ := hf
  have hs : FlS w (((w.alloc (.cells #[.slice A F.op.length c, .slice B F.di.length d] 27)).alloc (.cells #[.slice L.nA F.di.length L.cn, .slice (some ⟨L.gr, 0, none⟩) F.op.length L.cr, .slice L.fA F.di.length L.cf, .slice L.mA F.di.length L.cm] 90)).alloc (.cells #[.slice none 0 0, .slice none 0 0, .slice none 0 0, .slice none 0 0] 90)) base bl L F.di.length F.op.length nl lf fl may (.slice A F.op.length c) (.slice B F.di.length d) := by
    have hk : Kp w (((w.alloc (.cells #[.slice A F.op.length c, .slice B F.di.length d] 27)).alloc (.cells #[.slice L.nA F.di.length L.cn, .slice (some ⟨L.gr, 0, none⟩) F.op.length L.cr, .slice L.fA F.di.length L.cf, .slice L.mA F.di.length L.cm] 90)).alloc (.cells #[.slice none 0 0, .slice none 0 0, .slice none 0 0, .slice none 0 0] 90)) := ((((Kp.refl w).alloc _).alloc _).alloc _)
    refine ⟨hn.kp hk, ?_, ?_, ?_, ?_, Turn.of_kp hk, hbl⟩
    · exact World.rangeAt_alloc (World.rangeAt_alloc (range_new' _ [.slice A F.op.length c, .slice B F.di.length d] _ rfl) _) _
    · exact World.rangeAt_alloc (range_new' _ [.slice L.nA F.di.length L.cn, .slice (some ⟨L.gr, 0, none⟩) F.op.length L.cr, .slice L.fA F.di.length L.cf, .slice L.mA F.di.length L.cm] _ (by simp only [World.size_alloc])) _
    · exact World.there_alloc (there_new' _ _ _ (by simp only [World.size_alloc])) _
    · exact there_new' _ _ _ (by simp only [World.size_alloc])
  have H0 := Lib.hid hs; have HG := Lib.hid hg; have HN := Lib.hid hN; have Hrm := Lib.hid hrm; have Hk0 := Lib.hid hk0; have HLo := Lib.hid (hn.lo (Nat.le_refl _)); have Hlo2 := Lib.hid hlo2; have Hbl := Lib.hid hbl
  unfold NetL.val
  clear hA hB hg hn hN hrm hs hk0
  go_enter Tryz.func74, Tryz.ntmps74
  go_wp2_with fail
  go_loopw [5, 6, 7] (fun _ _ _ wr => ∃ (nl lf : Nat → Int) (fl : Nat → Nat → Int), FlS w wr base bl L F.di.length F.op.length nl lf fl may (.slice A F.op.length c) (.slice B F.di.length d) ∧ Hid (NetN F.di.length F.op.length (dF F) may rm nd nl lf fl)) (fun _ _ _ wr => (memSum wr L.gn F.di.length).toNat)
  case atStart => exact ⟨nl, lf, fl, H0.out, HN⟩
  case round =>
    clear H0 HN nl lf fl
    obtain ⟨nl, lf, fl, hst, HN⟩ := hrel
    have hkw := Hk0.out.turn hst.tw (fun k e => by omega)
    have CC := Lib.hid (l7Least_any _ F L nl lf rm fl may base wr (Hf.out.kp hkw) HG.out hst.n HN.out.net HN.out.nb)
    unfold NetL.val at CC
    obtain ⟨q0, q1, q2, q3⟩ := hst.cells
    obtain ⟨f0, f1⟩ := hst.fld
    have HSt := Lib.hid hst
    have hmeas := Lib.hid (hst.n.sum (by omega))
    have hwh := hst.tw.size
    obtain ⟨wo, rfl⟩ : ∃ wo : World, wo = wr := ⟨_, rfl⟩
    clear hst hkw
    go_wp2_with fail
    with_reducible refine Calls.mono CC.out ?_
    rintro e w1 ⟨gc, gs, gb, gf, cl, si, be, fr, rfl, hlab, ⟨pc, ps, T, hp, hbs⟩, hstop, hk1⟩
    clear CC q0 q1 q2 q3 f0 f1
    have hkz : Kp wo (w1.alloc (.cells #[.slice (some ⟨gc, 0, none⟩) F.di.length F.di.length, .slice (some ⟨gs, 0, none⟩) F.op.length F.op.length, .slice (some ⟨gb, 0, none⟩) F.di.length F.di.length, .slice (some ⟨gf, 0, none⟩) F.op.length F.op.length] 109)) := hk1.alloc _
    have HF2 := Lib.hid (HSt.out.go hkz)
    have HLb := Lib.hid ((hlab.kp ((Kp.refl w1).alloc (.cells #[.slice (some ⟨gc, 0, none⟩) F.di.length F.di.length, .slice (some ⟨gs, 0, none⟩) F.op.length F.op.length, .slice (some ⟨gb, 0, none⟩) F.di.length F.di.length, .slice (some ⟨gf, 0, none⟩) F.op.length F.op.length] 109))).mono hwh)
    have HR2 := Lib.hid (range_new' w1 [.slice (some ⟨gc, 0, none⟩) F.di.length F.di.length, .slice (some ⟨gs, 0, none⟩) F.op.length F.op.length, .slice (some ⟨gb, 0, none⟩) F.di.length F.di.length, .slice (some ⟨gf, 0, none⟩) F.op.length F.op.length] 109 rfl)
    have HP := Lib.hid hp; have HBs := Lib.hid hbs; have HStop := Lib.hid hstop
    have hsz1 : w.heap.size ≤ w1.heap.size := by have := hk1.le; omega
    have hsz2 : w1.heap.size ≤ (w1.alloc (.cells #[.slice (some ⟨gc, 0, none⟩) F.di.length F.di.length, .slice (some ⟨gs, 0, none⟩) F.op.length F.op.length, .slice (some ⟨gb, 0, none⟩) F.di.length F.di.length, .slice (some ⟨gf, 0, none⟩) F.op.length F.op.length] 109)).heap.size := by simp only [World.size_alloc]; omega
    clear hlab hp hbs hstop hk1 hkz HSt
    go_wp2_with fail
    generalize w1.alloc (.cells #[.slice (some ⟨gc, 0, none⟩) F.di.length F.di.length, .slice (some ⟨gs, 0, none⟩) F.op.length F.op.length, .slice (some ⟨gb, 0, none⟩) F.di.length F.di.length, .slice (some ⟨gf, 0, none⟩) F.op.length F.op.length] 109) = w2 at *
    go_loopw [6, 7] (fun bv av wr => ∃ a : Nat, a ≤ F.op.length ∧ av = .int .i64 a ∧ bv = .int .i64 (bstTo lf si a) ∧ Kp w2 wr) (fun _ av _ => F.op.length - (intOf av).toNat)
    case atStart => exact ⟨0, by omega, rfl, rfl, Kp.refl _⟩
    case round =>
      obtain ⟨a, ha, rfl, rfl, hk2⟩ := hrel
      have p1 := range_kp HR2.out hk2 1 _ rfl
      simp only [Nat.zero_add] at p1
      by_cases hla : a < F.op.length
      · clear p1
        obtain ⟨hl1, _, _, _⟩ := (HF2.out.go hk2).n.setRoom hla
        obtain ⟨q0, q1, q2, q3⟩ := (HF2.out.go hk2).cells
        have p1 := range_kp HR2.out hk2 1 _ rfl
        obtain ⟨hc1, _, _⟩ := (HLb.out.kp hk2).os.slotL HBs.out.lsi hla
        have hlo := (HBs.out.low (dF_bd HG.out)).2 a hla
        simp only [Nat.zero_add] at p1
        have adl : (⟨L.gr, 0, none⟩ : Addr).add a = ⟨L.gr, a, none⟩ := add0 _ _
        have adc : (⟨gs, 0, none⟩ : Addr).add a = ⟨gs, a, none⟩ := add0 _ _
        obtain ⟨b1, b2, _, _⟩ := bst_bd lf si a
        have hlaI : (a : Int) < (F.op.length : Int) := by omega
        obtain ⟨bb, Hbb⟩ : ∃ z, Hid (bstTo lf si a = z) := ⟨_, rfl⟩
        obtain ⟨la, Hla⟩ : ∃ z, Hid (lf a = z) := ⟨_, rfl⟩
        obtain ⟨ca, Hca⟩ : ∃ z, Hid (lget si a = z) := ⟨_, rfl⟩
        have HY := Lib.hid (@bst_yes lf si a)
        have HN2 := Lib.hid (@bst_no lf si a)
        rw [Hbb.out, Hla.out, Hca.out] at HY HN2
        rw [Hbb.out] at b1 b2 ⊢
        rw [Hla.out] at hl1
        rw [Hca.out] at hc1 hlo
        unfold farN at hlo HY HN2
        by_cases hl0 : 0 < la
        · have g1 : decide (0 < la) = true := decide_eq_true hl0
          by_cases hcf : ca < 1099511627776
          · have g2 : decide (ca < 1099511627776) = true := decide_eq_true hcf
            by_cases hbn : bb < 0
            · have g3 : decide (bb < 0) = true := decide_eq_true hbn
              have Hy := Lib.hid (HY.out ⟨hl0, hcf, .inl hbn⟩)
              clear HY HN2
              go_wp2_with fail
              go_quiet (fail)
              go_wp2_with fail
              go_roundw
              case rel => exact ⟨a + 1, by omega, by go_num, by rw [Hy.out], hk2.trans (by repeat (first | with_reducible assumption | with_reducible exact Kp.refl _ | with_reducible refine Kp.drew ?_ | with_reducible refine Kp.alloc ?_ _ | with_reducible refine Kp.drewN ?_ _ | refine Kp.setCell ?_ (by dsimp only; omega) _))⟩
              case measure => simp [intOf]; omega
            · have g3 : decide (bb < 0) = false := decide_eq_false hbn
              obtain ⟨z, rfl⟩ := Int.eq_ofNat_of_zero_le (show 0 ≤ bb by omega)
              obtain ⟨hz1, _, _⟩ := (HLb.out.kp hk2).os.slotL HBs.out.lsi (show z < F.op.length by omega)
              have hlz := (HBs.out.low (dF_bd HG.out)).2 z (show z < F.op.length by omega)
              rw [Int.toNat_natCast] at HY HN2
              obtain ⟨cz, Hcz⟩ : ∃ y, Hid (lget si z = y) := ⟨_, rfl⟩
              rw [Hcz.out] at HY HN2 hz1 hlz
              unfold farN at hlz
              have adz : (⟨gs, 0, none⟩ : Addr).add z = ⟨gs, z, none⟩ := add0 _ _
              have hlzI : (z : Int) < (F.op.length : Int) := by omega
              by_cases hlt : ca < cz
              · have g4 : decide (ca < cz) = true := decide_eq_true hlt
                have Hy := Lib.hid (HY.out ⟨hl0, hcf, .inr hlt⟩)
                clear HY HN2
                go_wp2_with fail
                go_quiet (fail)
                go_wp2_with fail
                go_roundw
                case rel => exact ⟨a + 1, by omega, by go_num, by rw [Hy.out], hk2.trans (by repeat (first | with_reducible assumption | with_reducible exact Kp.refl _ | with_reducible refine Kp.drew ?_ | with_reducible refine Kp.alloc ?_ _ | with_reducible refine Kp.drewN ?_ _ | refine Kp.setCell ?_ (by dsimp only; omega) _))⟩
                case measure => simp [intOf]; omega
              · have g4 : decide (ca < cz) = false := decide_eq_false hlt
                have Hy := Lib.hid (HN2.out (fun h => by rcases h.2.2 with h | h <;> omega))
                clear HY HN2
                go_wp2_with fail
                go_quiet (fail)
                go_wp2_with fail
                go_roundw
                case rel => exact ⟨a + 1, by omega, by go_num, by rw [Hy.out], hk2.trans (by repeat (first | with_reducible assumption | with_reducible exact Kp.refl _ | with_reducible refine Kp.drew ?_ | with_reducible refine Kp.alloc ?_ _ | with_reducible refine Kp.drewN ?_ _ | refine Kp.setCell ?_ (by dsimp only; omega) _))⟩
                case measure => simp [intOf]; omega
          · have g2 : decide (ca < 1099511627776) = false := decide_eq_false hcf
            have Hy := Lib.hid (HN2.out (fun h => hcf h.2.1))
            clear HY HN2
            go_wp2_with fail
            go_quiet (fail)
            go_wp2_with fail
            go_roundw
            case rel => exact ⟨a + 1, by omega, by go_num, by rw [Hy.out], hk2.trans (by repeat (first | with_reducible assumption | with_reducible exact Kp.refl _ | with_reducible refine Kp.drew ?_ | with_reducible refine Kp.alloc ?_ _ | with_reducible refine Kp.drewN ?_ _ | refine Kp.setCell ?_ (by dsimp only; omega) _))⟩
            case measure => simp [intOf]; omega
        · have g1 : decide (0 < la) = false := decide_eq_false hl0
          have Hy := Lib.hid (HN2.out (fun h => hl0 h.1))
          clear HY HN2
          go_wp2_with fail
          go_quiet (fail)
          go_wp2_with fail
          go_roundw
          case rel => exact ⟨a + 1, by omega, by go_num, by rw [Hy.out], hk2.trans (by repeat (first | with_reducible assumption | with_reducible exact Kp.refl _ | with_reducible refine Kp.drew ?_ | with_reducible refine Kp.alloc ?_ _ | with_reducible refine Kp.drewN ?_ _ | refine Kp.setCell ?_ (by dsimp only; omega) _))⟩
          case measure => simp [intOf]; omega
      · obtain rfl : a = F.op.length := by omega
        obtain ⟨b1, b2, b3, _⟩ := bst_bd lf si F.op.length
        have HB3 := Lib.hid b3
        clear b3
        have HL2 := Lib.hid (HBs.out.lab (by omega) (dF_bd HG.out) HStop.out)
        have HF3 := Lib.hid (HF2.out.go hk2)
        obtain ⟨bb, Hbb⟩ : ∃ z, Hid (bstTo lf si F.op.length = z) := ⟨_, rfl⟩
        rw [Hbb.out] at HB3 b1 b2 ⊢
        by_cases hbn : bb < 0
        · have g1 : decide (bb < 0) = true := decide_eq_true hbn
          have hrt := HF3.out.rt
          have HX := Lib.hid (World.rangeAt_setCells_same wr (w.heap.size + 1 + 1) 0 [.slice L.nA F.di.length L.cn, .slice (some ⟨L.gr, 0, none⟩) F.op.length L.cr, .slice L.fA F.di.length L.cf, .slice L.mA F.di.length L.cm] hrt)
          have htn := turn_setCells (w.heap.size + 1 + 1) [.slice L.nA F.di.length L.cn, .slice (some ⟨L.gr, 0, none⟩) F.op.length L.cr, .slice L.fA F.di.length L.cf, .slice L.mA F.di.length L.cm] 0 wr
          have hpost : FillPost2 w base bl L F.di.length F.op.length (dF F) may rm nd (.returned (.agg #[.slice L.nA F.di.length L.cn, .slice (some ⟨L.gr, 0, none⟩) F.op.length L.cr, .slice L.fA F.di.length L.cf, .slice L.mA F.di.length L.cm])) (wr.setCells (w.heap.size + 1 + 1) 0 [.slice L.nA F.di.length L.cn, .slice (some ⟨L.gr, 0, none⟩) F.op.length L.cr, .slice L.fA F.di.length L.cf, .slice L.mA F.di.length L.cm]) := by
            refine ⟨nl, lf, fl, rfl, HF3.out.n.turnB HLo.out htn (by omega), HN.out, ?_, HF3.out.tw.new htn (by omega)⟩
            by_cases hall : ∀ j, j < F.di.length → nl j = 0
            · exact .inl hall
            · obtain ⟨j, hj⟩ := Classical.not_forall.1 hall
              have hj1 : j < F.di.length := Classical.byContradiction (fun h => hj (fun h2 => absurd h2 h))
              have hj2 : nl j ≠ 0 := fun h => hj (fun _ => h)
              exact .inr ⟨⟨j, hj1, hj2⟩, fun x => Bss.no HN.out.net HBs.out HL2.out (fun a ha hr => HB3.out hbn a ha hr) HN.out.row (fun j _ => (HN.out.nb j).1) hj1 hj2 x⟩
          have HPost := Lib.hid hpost
          have HRT := Lib.hid hrt
          obtain ⟨q0, q1, q2, q3⟩ := HF3.out.cells
          clear hpost hrt htn HB3 hk2 HF3
          go_wp2_with (first | (refine wpList_store_mid rfl 90 (.tmp 4) (.tmp 52) rfl (w.heap.size + 1 + 1) 0 #[.slice L.nA F.di.length L.cn, .slice (some ⟨L.gr, 0, none⟩) F.op.length L.cr, .slice L.fA F.di.length L.cf, .slice L.mA F.di.length L.cm] rfl rfl HRT.out (by kernel_rfl) (by simp [Value.oneCell']) ?_) | fail)
          have z0 := HX.out 0 _ rfl
          have z1 := HX.out 1 _ rfl
          have z2 := HX.out 2 _ rfl
          have z3 := HX.out 3 _ rfl
          simp only [Nat.zero_add] at z0 z1 z2 z3
          exact bodyPost_ret (v := .agg #[.slice L.nA F.di.length L.cn, .slice (some ⟨L.gr, 0, none⟩) F.op.length L.cr, .slice L.fA F.di.length L.cf, .slice L.mA F.di.length L.cm]) (by simp [results, Tryz.results74, go_sem, z0, z1, z2, z3]) rfl HPost.out
        · have g1 : decide (bb < 0) = false := decide_eq_false hbn
          obtain ⟨best, rfl⟩ := Int.eq_ofNat_of_zero_le (show 0 ≤ bb by omega)
          have HBe := Lib.hid (bst_best Hbb.out)
          have CC := Lib.hid (l7Send_any L F.di.length F.op.length (dF F) may rm nl lf fl base bl gc gs gb gf cl si be fr pc ps T best wr HF3.out.n ((HLb.out.kp hk2).mono Hbl.out) Hlo2.out (by have := hk2.le; have := Hbl.out; omega) HN.out.net HP.out HBs.out HStop.out HL2.out HBe.out h8 h7.2 HN.out.nb Hrm.out)
          unfold NetL.val at CC
          obtain ⟨q0, q1, q2, q3⟩ := HF3.out.cells
          have r0 := range_kp HR2.out hk2 0 _ rfl
          have r2 := range_kp HR2.out hk2 2 _ rfl
          have r3 := range_kp HR2.out hk2 3 _ rfl
          simp only [Nat.zero_add] at r0 r2 r3
          clear HB3 hk2
          go_wp2_with fail
          with_reducible refine Calls.mono CC.out ?_
          rintro e w3 ⟨f', j0, rfl, hn3, hN3, hj0, hnz, hrow3, ht3⟩
          clear CC q0 q1 q2 q3 r0 r2 r3 p1
          have hF4 := HF3.out.step hn3 ht3
          have HF5 := Lib.hid (hF4.put HLo.out)
          have HTn := Lib.hid hF4.tn
          have hnb := HN.out.nb j0
          have HN4 : Hid (NetN F.di.length F.op.length (dF F) may rm nd (upd nl j0 (nl j0 - 1)) (upd lf best (lf best - 1)) f') := ⟨hN3, fun j hj => by
            rw [hrow3 j hj]
            have := HN.out.row j hj
            by_cases e : j = j0
            · subst e; rw [if_pos rfl, upd_at]; omega
            · rw [if_neg e, upd_ne e]; omega, fun j => by
            by_cases e : j = j0
            · subst e; rw [upd_at]; omega
            · rw [upd_ne e]; exact HN.out.nb j⟩
          have hsum : Hid (sumTo (upd nl j0 (nl j0 - 1)) F.di.length = sumTo nl F.di.length - 1) := by show _ = _; rw [sumTo_upd, if_pos hj0]; omega
          have hpos : Hid (0 < sumTo nl F.di.length) := by
            show 0 < _
            have h1 : nl j0 ≤ sumTo nl F.di.length := sumTo_ge (fun i _ => (HN.out.nb i).1) hj0
            omega
          clear hF4 hn3 hN3 hrow3 ht3 HF3 HF2 HLb HR2
          go_wp2_with (first | (refine wpList_store_mid rfl 90 (.tmp 3) (.tmp 56) rfl (w.heap.size + 1) 0 #[.slice L.nA F.di.length L.cn, .slice (some ⟨L.gr, 0, none⟩) F.op.length L.cr, .slice L.fA F.di.length L.cf, .slice L.mA F.di.length L.cm] rfl rfl HTn.out (by kernel_rfl) (by simp [Value.oneCell']) ?_) | fail)
          go_roundw
          case rel =>
            (repeat apply Exists.intro)
            exact ⟨⟨_, _, _, HF5.out, HN4⟩, rfl⟩
          case measure =>
            have h1 := HF5.out.n.sum (by omega)
            have h2 := hmeas.out
            have h3 := hsum.out
            have h4 := hpos.out
            rw [h1, h2, h3]
            omega
theorem l7Fill_any (f : Value) (F : Fld) (L : NetL) (nl lf rm nd : Nat → Int) (fl : Nat → Nat → Int) (may : Nat → Nat → Bool) (base : Nat) (w0 w : World) (hf : FldAt w0 f F) (hk0 : Kp w0 w) (hb0 : w0.heap.size ≤ base) (hbw : base ≤ w.heap.size) (hg : goodF F = true)
    (hn : NetS w base L F.di.length F.op.length nl lf fl may) (hN : NetN F.di.length F.op.length (dF F) may rm nd nl lf fl) (hrm : ∀ x, x < F.op.length → rm x ≤ 1000) :
    Calls Tryz.prog 74 #[f, L.val F.di.length F.op.length] w (FillPost w base L F.di.length F.op.length (dF F) may rm nd) :=
  l7Fill_any2 f F L nl lf rm nd fl may base w.heap.size w0 w hf hk0 hb0 hbw hg hn hN hrm (hn.lo (Nat.le_refl _)) (Nat.le_refl _)
end Go.Proofs.YtpiijhfjliolfaaGreat

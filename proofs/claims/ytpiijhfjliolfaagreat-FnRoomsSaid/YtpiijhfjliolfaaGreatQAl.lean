/- One more unit of a client: the program. No condition. -/
import Derived.Test.YtpiijhfjliolfaaGreatQAk
namespace Go.Proofs.YtpiijhfjliolfaaGreat
open Go.RowKit Go.Sort

def PushPost (w : World) (base g cap J M : Nat) (Bk Ck : Nat → Nat) (d : Nat → Nat → Int) (may : Nat → Nat → Bool) (rm : Nat → Int) (fl : Nat → Nat → Int) (gl cl first : Nat) (e : Ending) (w' : World) : Prop :=
  (∃ fl' lf', e = .returned (.bool true) ∧ Mat w' base g cap J M Bk Ck fl' ∧ Own w' base (.slice (some ⟨gl, 0, none⟩) M cl) (mapTo lf' M) ∧ Net J M d may rm fl' lf' ∧ (∀ i, i < J → rowS M fl' i = rowS M fl i + if i = first then 1 else 0) ∧ Turn (fun i => base ≤ i) w w') ∨
  (e = .returned (.bool false) ∧ Kp w w' ∧ ∀ nd, (∀ j, j < J → rowS M fl j ≤ nd j) → rowS M fl first < nd first → (∀ x, ¬ Haul J M may nd rm x) ∧ sumTo (fun a => if may first a = true then rm a else 0) M < sumTo nd J)
theorem dist_row {F : Fld} (hg : goodF F = true) {w : World} {B : Option Addr} (h : GridAt w B F.di) {i : Nat} (hi : i < F.di.length) : ∃ bd ar cr, B = some bd ∧ w.cell? (bd.add i) = some (.slice (some ar) F.op.length cr) ∧ ∀ a, a < F.op.length → w.cell? (ar.add a) = some (.int .i64 (dF F i a)) := by
  obtain ⟨bd, A, cr, e, hc, hr⟩ := h.at_ hi
  have hl := ((goodF_iff.1 hg).2.2.2 _ (List.getElem_mem hi)).2
  have h1 := (goodF_iff.1 hg).1.1
  obtain ⟨ar, rfl, _⟩ := hr.at_ (k := 0) (by omega)
  rw [hl] at hc
  exact ⟨bd, ar, cr, e, hc, fun a ha => by
    have := hr.some_ (k := a) (by omega)
    rw [this]
    unfold dF
    rw [dAt_at hi (by omega)]⟩
theorem two_own {w : World} {base ga gb n ca cb j k : Nat} {xs ys : List Int} (ha : Own w base (.slice (some ⟨ga, 0, none⟩) n ca) xs) (hb : Own w base (.slice (some ⟨gb, 0, none⟩) n cb) ys) (hx : xs.length = n) (hy : ys.length = n) (hne : ga ≠ gb) (hj : j < n) (hk : k < n) (u v : Int) :
    w.frozen? ⟨ga, j, none⟩ = false ∧ w.cell? ⟨ga, j, none⟩ = some (.int .i64 (lget xs j)) ∧ (w.setCell ⟨ga, j, none⟩ (.int .i64 u)).frozen? ⟨gb, k, none⟩ = false ∧ (w.setCell ⟨ga, j, none⟩ (.int .i64 u)).cell? ⟨gb, k, none⟩ = some (.int .i64 (lget ys k)) ∧
    Own ((w.setCell ⟨ga, j, none⟩ (.int .i64 u)).setCell ⟨gb, k, none⟩ (.int .i64 v)) base (.slice (some ⟨ga, 0, none⟩) n ca) (xs.set j u) ∧ Own ((w.setCell ⟨ga, j, none⟩ (.int .i64 u)).setCell ⟨gb, k, none⟩ (.int .i64 v)) base (.slice (some ⟨gb, 0, none⟩) n cb) (ys.set k v) ∧
    Turn (fun i => i = ga ∨ i = gb) w ((w.setCell ⟨ga, j, none⟩ (.int .i64 u)).setCell ⟨gb, k, none⟩ (.int .i64 v)) := by
  obtain ⟨c1, c2, c3⟩ := ha.slotL hx hj
  obtain ⟨o1, t1⟩ := c3 u
  have b1 := hb.other t1 (Ne.symm hne)
  obtain ⟨e1, e2, e3⟩ := b1.slotL hy hk
  obtain ⟨o2, t2⟩ := e3 v
  exact ⟨c2, c1, e2, e1, o1.other t2 hne, o2, (t1.mono fun i hi => .inl hi).trans (t2.mono fun i hi => .inr hi)⟩
def bOf : Value → Nat
  | .bool true => 1
  | _ => 0
theorem low_sum {M : Nat} {co : List Int} (h : ∀ a, a < M → -693 ≤ lget co a) : -(M * 693 : Int) ≤ sumTo (lget co) M := by
  have h1 : sumTo (fun _ => (-693 : Int)) M ≤ sumTo (lget co) M := sumTo_mono' h
  have h2 : ∀ k : Nat, sumTo (fun _ => (-693 : Int)) k = -(k * 693 : Int) := fun k => by
    induction k with
    | zero => rfl
    | succ k ih => rw [sumTo_succ, ih]; omega
  rw [h2] at h1; exact h1
/-- The site that the program picks of the first k. -/
def bstTo (lf : Nat → Int) (co : List Int) : Nat → Int
  | 0 => -1
  | a + 1 => if 0 < lf a ∧ lget co a < farN ∧ (bstTo lf co a < 0 ∨ lget co a < lget co (bstTo lf co a).toNat) then (a : Int) else bstTo lf co a
theorem bst_yes {lf : Nat → Int} {co : List Int} {a : Nat} (h : 0 < lf a ∧ lget co a < farN ∧ (bstTo lf co a < 0 ∨ lget co a < lget co (bstTo lf co a).toNat)) : bstTo lf co (a + 1) = a := if_pos h
theorem bst_no {lf : Nat → Int} {co : List Int} {a : Nat} (h : ¬ (0 < lf a ∧ lget co a < farN ∧ (bstTo lf co a < 0 ∨ lget co a < lget co (bstTo lf co a).toNat))) : bstTo lf co (a + 1) = bstTo lf co a := if_neg h
theorem bst_bd (lf : Nat → Int) (co : List Int) : ∀ k : Nat, -1 ≤ bstTo lf co k ∧ bstTo lf co k < k ∧ (bstTo lf co k < 0 → ∀ a, a < k → lget co a < farN → ¬ 0 < lf a) ∧ (0 ≤ bstTo lf co k → lget co (bstTo lf co k).toNat < farN ∧ 0 < lf (bstTo lf co k).toNat ∧ ∀ a, a < k → lget co a < farN → 0 < lf a → lget co (bstTo lf co k).toNat ≤ lget co a)
  | 0 => ⟨by simp [bstTo], by simp [bstTo], fun _ a ha => by omega, fun h => by simp [bstTo] at h⟩
  | k + 1 => by
    obtain ⟨h1, h2, h3, h4⟩ := bst_bd lf co k
    by_cases h : 0 < lf k ∧ lget co k < farN ∧ (bstTo lf co k < 0 ∨ lget co k < lget co (bstTo lf co k).toNat)
    · rw [bst_yes h]
      refine ⟨by omega, by omega, fun hn => by omega, fun _ => ⟨by simpa using h.2.1, by simpa using h.1, fun a ha hr hl => ?_⟩⟩
      rw [Int.toNat_natCast]
      by_cases e : a = k
      · subst e; exact Int.le_refl _
      · rcases h.2.2 with hh | hh
        · exact absurd hl (h3 hh a (by omega) hr)
        · have hb0 : 0 ≤ bstTo lf co k ∨ bstTo lf co k < 0 := by omega
          rcases hb0 with hb | hb
          · have := (h4 hb).2.2 a (by omega) hr hl; omega
          · exact absurd hl (h3 hb a (by omega) hr)
    · rw [bst_no h]
      refine ⟨h1, by omega, fun hn a ha hr hl => ?_, fun hp => ⟨(h4 hp).1, (h4 hp).2.1, fun a ha hr hl => ?_⟩⟩
      · by_cases e : a = k
        · subst e; exact h ⟨hl, hr, .inl hn⟩
        · exact h3 hn a (by omega) hr hl
      · by_cases e : a = k
        · subst e
          by_cases hlt : lget co a < lget co (bstTo lf co a).toNat
          · exact absurd ⟨hl, hr, .inr hlt⟩ h
          · omega
        · exact (h4 hp).2.2 a (by omega) hr hl
theorem bst_best {M : Nat} {lf : Nat → Int} {co : List Int} {best : Nat} (h : bstTo lf co M = (best : Int)) : BestS M lf co best := by
  obtain ⟨h1, h2, h3, h4⟩ := bst_bd lf co M
  rw [h] at h2 h4
  obtain ⟨h5, h6, h7⟩ := h4 (by omega)
  rw [Int.toNat_natCast] at h5 h6 h7
  exact ⟨by omega, h5, h6, h7⟩
set_option maxRecDepth 100000 in
set_option maxHeartbeats 4000000 in
theorem push_any (f : Value) (F : Fld) (J M g cap : Nat) (Bk Ck : Nat → Nat) (fl : Nat → Nat → Int) (gl cl : Nat) (lf rm : Nat → Int) (first : Nat) (FN : FuncId) (caps : Array Value) (may : Nat → Nat → Bool) (base : Nat) (w : World) (hf : FldAt w f F) (hg : goodF F = true) (hJ : F.di.length = J) (hM : F.op.length = M)
    (hm : Mat w base g cap J M Bk Ck fl) (hl : Own w base (.slice (some ⟨gl, 0, none⟩) M cl) (mapTo lf M)) (hgl : ∀ j, j < J → Bk j ≠ gl) (hcan : Can FN caps J M may w) (hfi : first < J) (hn : Net J M (dF F) may rm fl lf) (hrm : ∀ x, x < M → rm x ≤ 1000) :
    Calls Tryz.prog 97 #[f, .slice (some ⟨g, 0, none⟩) J cap, .slice (some ⟨gl, 0, none⟩) M cl, .int .i64 (first : Int), .func (.func FN) #[] caps] w (PushPost w base g cap J M Bk Ck (dF F) may rm fl gl cl first) := by
  subst hJ
  subst hM
  have h7 := (goodF_iff.1 hg).1
  have h8 := (goodF_iff.1 hg).2.2.1
  obtain ⟨A, c, B, d, rfl, hA, hB⟩ := hf
  have hk0 : Kp w (w.alloc (.cells #[.slice A F.op.length c, .slice B F.di.length d] 27)) := (Kp.refl w).alloc _
  obtain ⟨d0, d1⟩ := box2 w (.slice A F.op.length c) (.slice B F.di.length d) 27
  have hFA := FldAt.kp (show FldAt w (.agg #[.slice A F.op.length c, .slice B F.di.length d]) F from ⟨A, c, B, d, rfl, hA, hB⟩) hk0
  have HG := Lib.hid hg
  have HC := Lib.hid (hcan.kp hk0)
  have HF := hcan.run
  have HMt := Lib.hid (hm.kp hk0)
  have HLf := Lib.hid (hl.kp hk0)
  have HN := Lib.hid hn
  have HR := Lib.hid hrm
  have HGl := Lib.hid hgl
  have HB := Lib.hid (hB.kp hk0)
  clear hA hB hg hcan hm hl hn hrm hgl
  go_enter Tryz.func97, Tryz.ntmps97
  go_wp2_with fail
  have hsz : Hid ((w.alloc (.cells #[.slice A F.op.length c, .slice B F.di.length d] 27)).heap.size = w.heap.size + 1) := by show _ = _; simp
  generalize w.alloc (.cells #[.slice A F.op.length c, .slice B F.di.length d] 27) = wb at *
  have hkb : Kp wb wb := Kp.refl _
  have hkw := hk0
  have ka := (Kp.refl wb).alloc (.cells #[.int .i64 1099511627776] 3)
  have CC := Lib.hid (rep_any 1099511627776 F.op.length (w.heap.size + 1) _ (show (wb.alloc (.cells #[.int .i64 1099511627776] 3)).cell? ⟨w.heap.size + 1, 0, none⟩ = some (.int .i64 1099511627776) from by rw [← hsz.out, World.cell?_alloc_at _ _ _ _ rfl]; rfl) h7.1 (by omega))
  with_reducible refine Calls.mono CC.out ?_
  rintro e w1 ⟨gc, rfl, hgc, oc, hk1⟩
  clear CC
  replace hkb := ka.trans hk1
  go_wp2_with fail
  have kb := (Kp.refl w1).alloc (.cells #[.int .i64 (-1)] 3)
  have CC := Lib.hid (rep_any (-1) F.op.length w1.heap.size _ (show (w1.alloc (.cells #[.int .i64 (-1)] 3)).cell? ⟨w1.heap.size, 0, none⟩ = some (.int .i64 (-1)) from by rw [World.cell?_alloc_at _ _ _ _ rfl]; rfl) h7.1 (by omega))
  with_reducible refine Calls.mono CC.out ?_
  rintro e w2 ⟨gf, rfl, hgf, of, hk2⟩
  clear CC
  replace hk2 := kb.trans hk2
  go_wp2_with fail
  have kc := (Kp.refl w2).alloc (.cells #[.int .i64 (-1)] 3)
  have CC := Lib.hid (rep_any (-1) F.op.length w2.heap.size _ (show (w2.alloc (.cells #[.int .i64 (-1)] 3)).cell? ⟨w2.heap.size, 0, none⟩ = some (.int .i64 (-1)) from by rw [World.cell?_alloc_at _ _ _ _ rfl]; rfl) h7.1 (by omega))
  with_reducible refine Calls.mono CC.out ?_
  rintro e w3 ⟨gb, rfl, hgb, ob, hk3⟩
  clear CC
  replace hk3 := kc.trans hk3
  simp only [World.size_alloc] at hgc hgf hgb oc of ob
  have hne : gc ≠ gf ∧ gc ≠ gb ∧ gf ≠ gb := by
    have l1 := (oc.lt gc rfl).2; have l2 := (of.lt gf rfl).2; have := hk2.le; have := hk3.le
    omega
  have hsz2 := hkb.le; have hsz3 := hk2.le
  have oc3 := ((oc.mono (base' := wb.heap.size) (by omega)).kp hk2).kp hk3
  have of3 := (of.mono (base' := wb.heap.size) (by omega)).kp hk3
  have ob3 := ob.mono (base' := wb.heap.size) (by omega)
  rw [show (1099511627776 : Int) = farN from rfl, ← initC_zero (dF F) may first F.op.length] at oc3
  rw [← initB_zero may first F.op.length] at ob3
  replace hkb := (hkb.trans hk2).trans hk3
  clear oc of ob hgc hgf hgb ka kb kc hk1 hk2 hk3 hsz2 hsz3
  have Hne := Lib.hid hne
  clear hne
  go_wp2_with fail
  go_loopw [38] (fun iv wr => ∃ a : Nat, a ≤ F.op.length ∧ iv = .int .i64 a ∧ Own wr wb.heap.size (.slice (some ⟨gc, 0, none⟩) F.op.length F.op.length) (initC (dF F) may first F.op.length a) ∧ Own wr wb.heap.size (.slice (some ⟨gf, 0, none⟩) F.op.length F.op.length) (List.replicate F.op.length (-1)) ∧ Own wr wb.heap.size (.slice (some ⟨gb, 0, none⟩) F.op.length F.op.length) (initB may first F.op.length a) ∧ Kp wb wr) (fun iv _ => F.op.length - (intOf iv).toNat)
  case atStart => exact ⟨0, by omega, rfl, oc3, of3, ob3, hkb⟩
  case round =>
    clear oc3 of3 ob3 hkb
    obtain ⟨a, ha, rfl, oc, of, ob, hkb⟩ := hrel
    by_cases hla : a < F.op.length
    · have CN := Lib.hid (HC.out.at_ first a wr (hkw.trans hkb |> fun _ => hkb) hfi hla)
      go_wp2_with fail
      with_reducible refine Calls.mono CN.out ?_
      rintro e wq ⟨rfl, hdr⟩
      have hkq := hdr.kp
      clear CN hdr
      replace hkb := hkb.trans hkq
      replace oc := oc.kp hkq
      replace of := of.kp hkq
      replace ob := ob.kp hkq
      cases hmy : may first a
      · have Ec := Lib.hid (initC_no (d := dF F) (first := first) (M := F.op.length) hmy)
        have Eb := Lib.hid (initB_no (first := first) (M := F.op.length) hmy)
        go_wp2_with fail
        go_roundw
        case rel => exact ⟨a + 1, by omega, by go_num, by rw [Ec.out]; exact oc, of, by rw [Eb.out]; exact ob, hkb⟩
        case measure => simp [intOf]; omega
      · have Ec := Lib.hid (initC_yes (d := dF F) (first := first) (M := F.op.length) hmy)
        have Eb := Lib.hid (initB_yes (first := first) (M := F.op.length) hmy)
        obtain ⟨bd, ar, cr, rfl, hc1, hc2⟩ := dist_row HG.out (HB.out.kp hkb) hfi
        have hc3 := hc2 a hla
        have q0 := hkb.get d0
        have q1 := hkb.get d1
        obtain ⟨x1, x2, x3, x4, x5, x6, x7⟩ := two_own oc ob (initC_len _ _ _ _ _) (initB_len _ _ _ _) Hne.out.2.1 hla hla (dF F first a) (first : Int)
        have hc := (oc.lt gc rfl).1
        have hb := (ob.lt gb rfl).1
        have of' := of.turn x7 (fun k hk e => by have e1 : gf = k := by simpa [Value.ownBlock] using hk
                                                 have := Hne.out; omega)
        have hkz := hkb.turn x7 (fun k e => by rcases e with rfl | rfl <;> assumption)
        rw [Ec.out] at x5
        rw [Eb.out] at x6
        have X5 := Lib.hid x5; have X6 := Lib.hid x6; have OF := Lib.hid of'; have KZ := Lib.hid hkz
        have hlaI : (a : Int) < (F.op.length : Int) := by omega
        have hfiI : (first : Int) < (F.di.length : Int) := by omega
        have ad0 : (⟨gc, 0, none⟩ : Addr).add a = ⟨gc, a, none⟩ := add0 _ _
        have ad1 : (⟨gb, 0, none⟩ : Addr).add a = ⟨gb, a, none⟩ := add0 _ _
        clear x5 x6 x7 of' hkz Ec Eb hc2 hmy oc of ob hkb
        go_wp2_with fail
        go_roundw
        case rel => exact ⟨a + 1, by omega, by go_num, X5.out, OF.out, X6.out, KZ.out⟩
        case measure => simp [intOf]; omega
    · obtain rfl : a = F.op.length := by omega
      obtain ⟨pc, ps, T, hp⟩ := HN.out.pot
      have HP := Lib.hid hp
      have hst : PSt wb wr gc gf gb F.di.length F.op.length (dF F) may fl ps first (initC (dF F) may first F.op.length F.op.length) (List.replicate F.op.length (-1)) (initB may first F.op.length F.op.length) := ⟨oc, of, ob, Hne.out, Bfs.init (dF_bd HG.out) hfi, hkb⟩
      clear hp oc of ob hkb
      go_wp2_with fail
      go_loopw [16] (fun cv wr => ∃ (ch : Bool) (co fr b : List Int), cv = .bool ch ∧ PSt wb wr gc gf gb F.di.length F.op.length (dF F) may fl ps first co fr b ∧ Hid (ch = false → StopI F.di.length F.op.length (dF F) may fl co)) (fun cv wr => 2 * (memSum wr gc F.op.length + 4851).toNat + bOf cv)
      case atStart => exact ⟨true, _, _, _, rfl, hst, fun h => by cases h⟩
      case round =>
        clear hst
        obtain ⟨ch, co, fr, b, rfl, hst, HS⟩ := hrel
        cases ch
        · have HS2 := Lib.hid (HS.out rfl)
          clear HS
          go_wp2_with fail
          go_loopw [23, 139] (fun bv iv wr => ∃ a : Nat, a ≤ F.op.length ∧ iv = .int .i64 a ∧ bv = .int .i64 (bstTo lf co a) ∧ PSt wb wr gc gf gb F.di.length F.op.length (dF F) may fl ps first co fr b) (fun _ iv _ => F.op.length - (intOf iv).toNat)
          case atStart => exact ⟨0, by omega, rfl, rfl, hst⟩
          case round =>
            clear hst
            obtain ⟨a, ha, rfl, rfl, hst⟩ := hrel
            by_cases hla : a < F.op.length
            · obtain ⟨hc1, _, _⟩ := hst.cells hla
              obtain ⟨hl1, _, _⟩ := (HLf.out.kp hst.kp).slotL (mapTo_len _ _) hla
              rw [mapTo_lget hla] at hl1
              have hlo := hst.bf.low (dF_bd HG.out) hla
              have adl : (⟨gl, 0, none⟩ : Addr).add a = ⟨gl, a, none⟩ := add0 _ _
              have adc : (⟨gc, 0, none⟩ : Addr).add a = ⟨gc, a, none⟩ := add0 _ _
              obtain ⟨b1, b2, _, _⟩ := bst_bd lf co a
              have hlaI : (a : Int) < (F.op.length : Int) := by omega
              obtain ⟨bb, Hbb⟩ : ∃ z, Hid (bstTo lf co a = z) := ⟨_, rfl⟩
              obtain ⟨la, Hla⟩ : ∃ z, Hid (lf a = z) := ⟨_, rfl⟩
              obtain ⟨ca, Hca⟩ : ∃ z, Hid (lget co a = z) := ⟨_, rfl⟩
              have HY := Lib.hid (@bst_yes lf co a)
              have HN2 := Lib.hid (@bst_no lf co a)
              rw [Hbb.out, Hla.out, Hca.out] at HY HN2
              rw [Hbb.out] at b1 b2 ⊢
              rw [Hla.out] at hl1
              rw [Hca.out] at hc1 hlo
              unfold farN at hlo HY HN2
              by_cases hl0 : 0 < la
              · have g1 : decide (0 < la) = true := decide_eq_true hl0
                by_cases hcf : ca < 1099511627776
                · have g2 : decide (ca < 1099511627776) = true := decide_eq_true hcf
                  by_cases hbn : bb < 0
                  · have g3 : decide (bb < 0) = true := decide_eq_true hbn
                    have Hy := Lib.hid (HY.out ⟨hl0, hcf, .inl hbn⟩)
                    clear HY HN2
                    go_wp2_with fail
                    go_quiet (fail)
                    go_wp2_with fail
                    go_roundw
                    case rel => exact ⟨a + 1, by omega, by go_num, by rw [Hy.out], hst.go ((Kp.refl _).drewN _)⟩
                    case measure => simp [intOf]; omega
                  · have g3 : decide (bb < 0) = false := decide_eq_false hbn
                    obtain ⟨z, rfl⟩ := Int.eq_ofNat_of_zero_le (show 0 ≤ bb by omega)
                    obtain ⟨hz1, _, _⟩ := hst.cells (show z < F.op.length by omega)
                    have hlz := hst.bf.low (dF_bd HG.out) (show z < F.op.length by omega)
                    rw [Int.toNat_natCast] at HY HN2
                    obtain ⟨cz, Hcz⟩ : ∃ y, Hid (lget co z = y) := ⟨_, rfl⟩
                    rw [Hcz.out] at HY HN2 hz1 hlz
                    unfold farN at hlz
                    have adz : (⟨gc, 0, none⟩ : Addr).add z = ⟨gc, z, none⟩ := add0 _ _
                    have hlzI : (z : Int) < (F.op.length : Int) := by omega
                    by_cases hlt : ca < cz
                    · have g4 : decide (ca < cz) = true := decide_eq_true hlt
                      have Hy := Lib.hid (HY.out ⟨hl0, hcf, .inr hlt⟩)
                      clear HY HN2
                      go_wp2_with fail
                      go_quiet (fail)
                      go_wp2_with fail
                      go_roundw
                      case rel => exact ⟨a + 1, by omega, by go_num, by rw [Hy.out], hst.go ((Kp.refl _).drewN _)⟩
                      case measure => simp [intOf]; omega
                    · have g4 : decide (ca < cz) = false := decide_eq_false hlt
                      have Hy := Lib.hid (HN2.out (fun h => by rcases h.2.2 with h | h <;> omega))
                      clear HY HN2
                      go_wp2_with fail
                      go_quiet (fail)
                      go_wp2_with fail
                      go_roundw
                      case rel => exact ⟨a + 1, by omega, by go_num, by rw [Hy.out], hst.go ((Kp.refl _).drewN _)⟩
                      case measure => simp [intOf]; omega
                · have g2 : decide (ca < 1099511627776) = false := decide_eq_false hcf
                  have Hy := Lib.hid (HN2.out (fun h => hcf h.2.1))
                  clear HY HN2
                  go_wp2_with fail
                  go_quiet (fail)
                  go_wp2_with fail
                  go_roundw
                  case rel => exact ⟨a + 1, by omega, by go_num, by rw [Hy.out], hst.go ((Kp.refl _).drewN _)⟩
                  case measure => simp [intOf]; omega
              · have g1 : decide (0 < la) = false := decide_eq_false hl0
                have Hy := Lib.hid (HN2.out (fun h => hl0 h.1))
                clear HY HN2
                go_wp2_with fail
                go_quiet (fail)
                go_wp2_with fail
                go_roundw
                case rel => exact ⟨a + 1, by omega, by go_num, by rw [Hy.out], hst.go ((Kp.refl _).drewN _)⟩
                case measure => simp [intOf]; omega
            · obtain rfl : a = F.op.length := by omega
              have HLb := Lib.hid (hst.bf.lab HP.out hfi (by omega) (dF_bd HG.out) HN.out.mayf HS2.out)
              obtain ⟨b1, b2, b3, _⟩ := bst_bd lf co F.op.length
              have HB3 := Lib.hid b3
              clear b3
              obtain ⟨bb, Hbb⟩ : ∃ z, Hid (bstTo lf co F.op.length = z) := ⟨_, rfl⟩
              rw [Hbb.out] at HB3 b1 b2 ⊢
              by_cases hbn : bb < 0
              · have HNo := Lib.hid (fun (nd : Nat → Int) (h1 : ∀ j, j < F.di.length → rowS F.op.length fl j ≤ nd j) (h2 : rowS F.op.length fl first < nd first) => (⟨fun x => Bfs.no (nd := nd) HN.out hfi HLb.out (HB3.out hbn) h1 h2 x,
                  full_no HN.out (may first) (fun a ha hm => by
                    have h3 := hst.bf.root a ha hm
                    have h4 := (dF_bd HG.out first a).2
                    have h5 := HB3.out hbn a ha (by unfold farN; omega)
                    have h6 := HN.out.lf0 a ha
                    omega) h1 hfi h2⟩ : (∀ x, ¬ Haul F.di.length F.op.length may nd rm x) ∧ sumTo (fun a => if may first a = true then rm a else 0) F.op.length < sumTo nd F.di.length))
                have hkf := hkw.trans hst.kp
                have hpost : PushPost w base g cap F.di.length F.op.length Bk Ck (dF F) may rm fl gl cl first (.returned (.bool false)) wr := .inr ⟨rfl, hkf, HNo.out⟩
                clear HB3
                go_wp2_with fail
                go_ret
                exact hpost
              · obtain ⟨best, rfl⟩ := Int.eq_ofNat_of_zero_le (show 0 ≤ bb by omega)
                have HBe := Lib.hid (bst_best Hbb.out)
                obtain ⟨tm, now, ht⟩ := hst.bf.tree
                have HT := Lib.hid ht
                have HBf := Lib.hid hst.bf
                have hbM := HBe.out.lt
                obtain ⟨hl1, hl2, hl3⟩ := (HLf.out.kp hst.kp).slotL (mapTo_len _ _) hbM
                rw [mapTo_lget hbM] at hl1
                obtain ⟨ol, tl⟩ := hl3 (lf best - 1)
                rw [mapTo_set] at ol
                have hlf0 := HBe.out.room
                have hlf1 : lf best ≤ 1000 := by
                  have h1 := HN.out.col best hbM
                  have h2 := HR.out best hbM
                  have h3 : 0 ≤ colT F.di.length fl best := sumTo_nn (fun j hj => HN.out.nn j best hj hbM)
                  omega
                have hgl0 := (HLf.out.lt gl rfl)
                have of2 := hst.of.other tl (by have := (hst.of.lt gf rfl).1; omega)
                have ob2 := hst.ob.other tl (by have := (hst.ob.lt gb rfl).1; omega)
                have hgg := own_ne_hd HLf.out HMt.out.hd (k := gl) rfl
                have hmt2 := (HMt.out.kp hst.kp).turn tl (fun e => hgg e.symm) (fun j hj e => HGl.out j hj e)
                have htw : Turn (fun i => base ≤ i) w (wr.setCell ⟨gl, best, none⟩ (.int .i64 (lf best - 1))) := ((Turn.of_kp (hkw.trans hst.kp)).trans (tl.mono fun i e => by have := hgl0.1; show base ≤ i; omega))
                have hsn : Snd F.di.length F.op.length (dF F) may fl ps first co tm best best fl := Snd.start HBe.out HN.out.nn
                have HM2 := Lib.hid hmt2; have OL := Lib.hid ol; have OF := Lib.hid of2; have OB := Lib.hid ob2; have HTW := Lib.hid htw; have HSN := Lib.hid hsn
                have adl : (⟨gl, 0, none⟩ : Addr).add best = ⟨gl, best, none⟩ := add0 _ _
                have hbI : (best : Int) < (F.op.length : Int) := by omega
                obtain ⟨lb, Hlb⟩ : ∃ z, Hid (lf best = z) := ⟨_, rfl⟩
                rw [Hlb.out] at hl1 hlf0 hlf1 HM2 OL OF OB HTW
                have hwl : IntKind.i64.wrap (lb - 1) = lb - 1 := IntWalk.i64_in _ (by omega)
                clear hmt2 ol of2 ob2 htw hsn tl hl3 hst ht HB3
                go_wp2_with fail
                go_loopw [25] (fun av wr => ∃ (a : Int) (f' : Nat → Nat → Int), av = .int .i64 a ∧ Mat wr base g cap F.di.length F.op.length Bk Ck f' ∧ Own wr base (.slice (some ⟨gl, 0, none⟩) F.op.length cl) (mapTo (upd lf best (lb - 1)) F.op.length) ∧ Own wr wb.heap.size (.slice (some ⟨gf, 0, none⟩) F.op.length F.op.length) fr ∧ Own wr wb.heap.size (.slice (some ⟨gb, 0, none⟩) F.op.length F.op.length) b ∧ Turn (fun i => base ≤ i) w wr ∧ Hid (Snd F.di.length F.op.length (dF F) may fl ps first co tm best a f')) (fun av _ => if 0 ≤ intOf av then cntN (List.range F.op.length) ps (labL co) tm (intOf av).toNat + 1 else 0)
                case atStart => exact ⟨best, fl, rfl, HM2.out, OL.out, OF.out, OB.out, HTW.out, HSN.out⟩
                case round =>
                  clear HM2 OL OF OB HTW HSN
                  obtain ⟨a, f', rfl, hmt, ol, of, ob, htw, HS⟩ := hrel
                  have hcur := HS.out.cur
                  by_cases ha : 0 ≤ a
                  · obtain ⟨an, rfl⟩ := Int.eq_ofNat_of_zero_le ha
                    have han : an < F.op.length := by omega
                    obtain ⟨k1, k2⟩ := HS.out.ok ha
                    rw [Int.toNat_natCast] at k1 k2
                    obtain ⟨i, hbi, hiJ, htight, hway⟩ := tight_of HBf.out HT.out HLb.out HP.out han k1 k2
                    have HW := Lib.hid hway; have HTg := Lib.hid htight; have Hbi := Lib.hid hbi
                    clear hway htight hbi
                    obtain ⟨m1, m2, m3⟩ := hmt.cell hiJ han
                    have hh := hmt.hcell hiJ
                    obtain ⟨b1, _, _⟩ := ob.slotL HBf.out.lb han
                    obtain ⟨f1, _, _⟩ := of.slotL HBf.out.lfr han
                    rw [Hbi.out] at b1
                    have hf0 := HS.out.nn i an hiJ han
                    have hf1 : f' i an ≤ 2001 := by
                      have h1 := HS.out.col an han
                      have h2 := HN.out.col an han
                      have h3 := HR.out an han
                      have h4 := HN.out.lf0 an han
                      have h5 : f' i an ≤ colT F.di.length f' an := sumTo_ge (g := fun j => f' j an) (fun j hj => HS.out.nn j an hj han) hiJ
                      have h6 : colT F.di.length f' an ≤ colT F.di.length fl an + 1 := by rw [h1]; split <;> split <;> omega
                      omega
                    obtain ⟨hm3, t3⟩ := m3 (f' i an + 1)
                    have hBi := hmt.lt hiJ
                    have hBg := hmt.gne hiJ
                    have gfw := (of.lt gf rfl).1; have gbw := (ob.lt gb rfl).1
                    have hBo := HMt.out.lt hiJ
                    have of3 := of.other t3 (by omega)
                    have ob3 := ob.other t3 (by omega)
                    have ol3 := ol.other t3 (fun e => HGl.out i hiJ e.symm)
                    have htw3 := htw.trans (t3.mono fun k e => by show base ≤ k; omega)
                    have hh3 := hm3.hcell hiJ
                    obtain ⟨c1, _, _⟩ := ob3.slotL HBf.out.lb han
                    obtain ⟨e1, _, _⟩ := of3.slotL HBf.out.lfr han
                    rw [Hbi.out] at c1
                    have hiI : (i : Int) < (F.di.length : Int) := by omega
                    have haI : (an : Int) < (F.op.length : Int) := by omega
                    have ad1 : (⟨gb, 0, none⟩ : Addr).add an = ⟨gb, an, none⟩ := add0 _ _
                    have ad2 : (⟨gf, 0, none⟩ : Addr).add an = ⟨gf, an, none⟩ := add0 _ _
                    have ad3 : (⟨g, 0, none⟩ : Addr).add i = ⟨g, i, none⟩ := add0 _ _
                    have ad4 : (⟨Bk i, 0, none⟩ : Addr).add an = ⟨Bk i, an, none⟩ := add0 _ _
                    have Hm3 := Lib.hid hm3; have OF3 := Lib.hid of3; have OB3 := Lib.hid ob3; have OL3 := Lib.hid ol3; have HTW3 := Lib.hid htw3
                    obtain ⟨fv, Hfv⟩ : ∃ z, Hid (f' i an = z) := ⟨_, rfl⟩
                    rw [Hfv.out] at hf0 hf1 m1 hh3 c1 e1 Hm3 OF3 OB3 OL3 HTW3
                    have hwf : IntKind.i64.wrap (fv + 1) = fv + 1 := IntWalk.i64_in _ (by omega)
                    clear m3 t3 hm3 of3 ob3 ol3 htw3 hmt of ob ol htw
                    rcases HW.out with ⟨hneg, hfst⟩ | ⟨u, hu, huM, hua, hfu, hru, hbu, hleu⟩
                    · have hm1 : lget fr an = -1 := by have := (HBf.out.fr_ an han).1; omega
                      have hSn := Lib.hid (Snd.root (first := first) HS.out hfi (hfst ▸ HTg.out))
                      rw [hm1] at f1 e1
                      subst hfst
                      rw [Hfv.out] at hSn
                      clear hneg hm1 HW
                      go_wp2_with fail
                      go_roundw
                      case rel => exact ⟨-1, _, rfl, Hm3.out, OL3.out, OF3.out, OB3.out, HTW3.out, hSn.out⟩
                      case measure => simp [intOf]
                    · obtain ⟨hpos, hSn⟩ := HS.out.step hiJ huM hua HTg.out hfu hru hbu hleu
                      rw [Hfv.out] at hpos hSn
                      rw [hu] at f1 e1
                      obtain ⟨n1, n2, n3⟩ := (Hm3.out.kp (Kp.refl _).drew).cell hiJ huM
                      have hub : upd2 f' i an (fv + 1) i u ≤ 2001 := by
                        rw [upd2_ne (.inr hua)]
                        have h1 := HS.out.col u huM
                        have h2 := HN.out.col u huM
                        have h3 := HR.out u huM
                        have h4 := HN.out.lf0 u huM
                        have h5 : f' i u ≤ colT F.di.length f' u := sumTo_ge (g := fun j => f' j u) (fun j hj => HS.out.nn j u hj huM) hiJ
                        have h6 : colT F.di.length f' u ≤ colT F.di.length fl u + 1 := by rw [h1]; split <;> split <;> omega
                        omega
                      have HSn := Lib.hid hSn
                      clear hSn HS HW hu
                      obtain ⟨fu, Hfu⟩ : ∃ z, Hid (upd2 f' i an (fv + 1) i u = z) := ⟨_, rfl⟩
                      rw [Hfu.out] at hpos hub n1 HSn
                      obtain ⟨hm4, t4⟩ := n3 (fu - 1)
                      have of4 := (OF3.out.kp (Kp.refl _).drew).other t4 (by omega)
                      have ob4 := (OB3.out.kp (Kp.refl _).drew).other t4 (by omega)
                      have ol4 := (OL3.out.kp (Kp.refl _).drew).other t4 (fun e => HGl.out i hiJ e.symm)
                      have htw4 := (HTW3.out.trans (Turn.of_kp (Kp.refl _).drew)).trans (t4.mono fun k e => by show base ≤ k; omega)
                      obtain ⟨f4, _, _⟩ := of4.slotL HBf.out.lfr han
                      rw [show lget fr an = (u : Int) from by have := e1; simpa using (Option.some.inj ((OF3.out.slotL HBf.out.lfr han).1.symm.trans e1))] at f4
                      have Hm4 := Lib.hid hm4; have OF4 := Lib.hid of4; have OB4 := Lib.hid ob4; have OL4 := Lib.hid ol4; have HTW4 := Lib.hid htw4
                      have huI : (u : Int) < (F.op.length : Int) := by omega
                      have ad5 : (⟨Bk i, 0, none⟩ : Addr).add u = ⟨Bk i, u, none⟩ := add0 _ _
                      have hwu : IntKind.i64.wrap (fu - 1) = fu - 1 := IntWalk.i64_in _ (by omega)
                      clear n3 t4 hm4 of4 ob4 ol4 htw4 Hm3 OF3 OB3 OL3 HTW3
                      go_wp2_with fail
                      go_region
                      all_goals
                        (try go_wp2_with fail)
                        go_roundw
                        case rel => exact ⟨u, _, rfl, Hm4.out, OL4.out, OF4.out, OB4.out, HTW4.out, HSn.out⟩
                        case measure =>
                          have h1 := cnt_lt (nodes := List.range F.op.length) (p := ps) (l := labL co) (tm := tm) (u := u) (v := an) (List.mem_range.2 huM) (befN_iff.1 hbu)
                          simp [intOf]; omega
                  · obtain rfl : a = -1 := by omega
                    have hpost : PushPost w base g cap F.di.length F.op.length Bk Ck (dF F) may rm fl gl cl first (.returned (.bool true)) wr := .inl ⟨f', upd lf best (lb - 1), rfl, hmt, ol, by rw [← Hlb.out]; exact HS.out.net HN.out HP.out HBe.out HLb.out, fun i hi => by rw [HS.out.row i hi]; simp, htw⟩
                    clear ha
                    go_wp2_with fail
                    go_ret
                    exact hpost
        · have hs0 := Lib.hid (hst.sum (by omega))
          obtain ⟨s0, Hs0⟩ : ∃ s0, Hid (sumTo (lget co) F.op.length = s0) := ⟨_, rfl⟩
          have hlow0 : Hid (-4851 ≤ s0) := by
            show _ ≤ _
            rw [← Hs0.out]
            have := low_sum (fun a ha => by have := (hst.bf.low (dF_bd HG.out) ha).1; omega : ∀ a, a < F.op.length → -693 ≤ lget co a)
            omega
          obtain ⟨wo, rfl⟩ : ∃ wo : World, wo = wr := ⟨_, rfl⟩
          have hfell : Fell F.op.length s0 co false := ⟨by rw [Hs0.out]; exact Int.le_refl _, fun h => by cases h⟩
          clear HS
          go_wp2_with fail
          go_loopw [16, 64] (fun cv iv wr => ∃ (i : Nat) (ch : Bool) (co fr b : List Int), i ≤ F.di.length ∧ iv = .int .i64 i ∧ cv = .bool ch ∧ PSt wb wr gc gf gb F.di.length F.op.length (dF F) may fl ps first co fr b ∧ Hid (PassI F.di.length F.op.length (dF F) may fl co ch i 0 0) ∧ Hid (Fell F.op.length s0 co ch)) (fun _ iv _ => F.di.length - (intOf iv).toNat)
          case atStart => exact ⟨0, false, _, _, _, by omega, rfl, rfl, hst, PassI.start, hfell⟩
          case round =>
            clear hst hfell
            obtain ⟨i, ch, co, fr, b, hi, rfl, rfl, hst, HPa, HFe⟩ := hrel
            by_cases hli : i < F.di.length
            · have hm := HMt.out.kp (hst.kp)
              have hh := hm.hcell hli
              have adh : (⟨g, 0, none⟩ : Addr).add i = ⟨g, i, none⟩ := add0 _ _
              have hliI : (i : Int) < (F.di.length : Int) := by omega
              clear hm
              go_wp2_with fail
              clear hh
              go_loopw [16, 71] (fun cv iv wr => ∃ (a : Nat) (ch : Bool) (co fr b : List Int), a ≤ F.op.length ∧ iv = .int .i64 a ∧ cv = .bool ch ∧ PSt wb wr gc gf gb F.di.length F.op.length (dF F) may fl ps first co fr b ∧ Hid (PassI F.di.length F.op.length (dF F) may fl co ch i a 0) ∧ Hid (Fell F.op.length s0 co ch)) (fun _ iv _ => F.op.length - (intOf iv).toNat)
              case atStart => exact ⟨0, ch, _, _, _, by omega, rfl, rfl, hst, HPa, HFe⟩
              case round =>
                clear hst HPa HFe
                obtain ⟨a, ch, co, fr, b, ha, rfl, rfl, hst, HPa, HFe⟩ := hrel
                by_cases hla : a < F.op.length
                · obtain ⟨hm1, _, _⟩ := (HMt.out.kp hst.kp).cell hli hla
                  have adr : (⟨Bk i, 0, none⟩ : Addr).add a = ⟨Bk i, a, none⟩ := add0 _ _
                  have adc : (⟨gc, 0, none⟩ : Addr).add a = ⟨gc, a, none⟩ := add0 _ _
                  obtain ⟨hc1, _, _⟩ := hst.cells hla
                  have hn0 := HN.out.nn i a hli hla
                  obtain ⟨fa, Hfa⟩ : ∃ fa, Hid (fl i a = fa) := ⟨_, rfl⟩
                  obtain ⟨ca, Hca⟩ : ∃ ca, Hid (lget co a = ca) := ⟨_, rfl⟩
                  rw [Hfa.out] at hm1 hn0
                  rw [Hca.out] at hc1
                  have hlaI : (a : Int) < (F.op.length : Int) := by omega
                  have hlo := hst.bf.low (dF_bd HG.out) hla
                  rw [Hca.out] at hlo
                  by_cases hz : fa = 0
                  · have hzb : (fa == 0) = true := by simp [hz]
                    have HPn := Lib.hid (HPa.out.skip (fun h => by have := h.1; rw [Hfa.out] at this; omega))
                    clear hz
                    go_wp2_with fail
                    go_roundw
                    case rel => exact ⟨a + 1, ch, co, fr, b, by omega, by go_num, rfl, hst, HPn, HFe⟩
                    case measure => simp [intOf]; omega
                  · have hzb : (fa == 0) = false := by simp [hz]
                    have hfp : Hid (0 < fl i a) := by show 0 < _; rw [Hfa.out]; omega
                    by_cases hfar : ca = 1099511627776
                    · have hfb : (ca == 1099511627776) = true := by simp [hfar]
                      have HPn := Lib.hid (HPa.out.skip (fun h => by have := h.2; rw [Hca.out, hfar] at this; unfold farN at this; omega))
                      clear hfar
                      go_wp2_with fail
                      go_roundw
                      case rel => exact ⟨a + 1, ch, co, fr, b, by omega, by go_num, rfl, hst, HPn, HFe⟩
                      case measure => simp [intOf]; omega
                    · have hfb : (ca == 1099511627776) = false := by simp [hfar]
                      have hfl : Hid (lget co a < farN) := by show _ < _; rw [Hca.out]; unfold farN at *; omega
                      clear hfar hz
                      go_wp2_with fail
                      go_loopw [16, 86] (fun cv iv wr => ∃ (x : Nat) (ch : Bool) (co fr b : List Int), x ≤ F.op.length ∧ iv = .int .i64 x ∧ cv = .bool ch ∧ PSt wb wr gc gf gb F.di.length F.op.length (dF F) may fl ps first co fr b ∧ Hid (PassI F.di.length F.op.length (dF F) may fl co ch i a x) ∧ Hid (Fell F.op.length s0 co ch) ∧ Hid (lget co a < farN)) (fun _ iv _ => F.op.length - (intOf iv).toNat)
                      case atStart => exact ⟨0, ch, _, _, _, by omega, rfl, rfl, hst, HPa, HFe, hfl⟩
                      case round =>
                        clear hst HPa HFe hfl hc1 hm1 hlo Hca hfb
                        obtain ⟨x, ch, co, fr, b, hx, rfl, rfl, hst, HPa, HFe, hfl⟩ := hrel
                        by_cases hlx : x < F.op.length
                        · obtain ⟨hc1, _, _⟩ := hst.cells hla
                          obtain ⟨hx1, hx2, hx3⟩ := hst.cells hlx
                          have hkb := hst.kp
                          obtain ⟨bd, ar, cr, rfl, hd1, hd2⟩ := dist_row HG.out (HB.out.kp hkb) hli
                          have hda := hd2 a hla
                          have hdx := hd2 x hlx
                          have q0 := hkb.get d0
                          have q1 := hkb.get d1
                          obtain ⟨da0, da1⟩ := dF_bd HG.out i a
                          obtain ⟨dx0, dx1⟩ := dF_bd HG.out i x
                          have hlo := hst.bf.low (dF_bd HG.out) hla
                          have hlx2 := hst.bf.low (dF_bd HG.out) hlx
                          have hfl2 := hfl.out
                          have hsum := Lib.hid (sum_set (z := lget co a - dF F i a + dF F i x) hst.bf.lc hlx)
                          have HRe := Lib.hid (fun (wz : World) (hz : PSt wb wz gc gf gb F.di.length F.op.length (dF F) may fl ps first co fr b) (hm : may i x = true) (hlt : lget co a - dF F i a + dF F i x < lget co x) => hz.relax HP.out hli hla hlx hfp.out hm hfl.out hlt)
                          have hcx : Hid ((co.set x (lget co a - dF F i a + dF F i x)).length = F.op.length) := by show _ = _; rw [List.length_set]; exact hst.bf.lc
                          have hgx : Hid (lget co a - dF F i a + dF F i x < lget co x → lget (co.set x (lget co a - dF F i a + dF F i x)) a < farN) := fun h => by
                            rw [lget_set (by rw [hst.bf.lc]; exact hlx)]
                            split
                            · have := hlx2.2; omega
                            · exact hfl.out
                          obtain ⟨ca, Hca⟩ : ∃ z, Hid (lget co a = z) := ⟨_, rfl⟩
                          obtain ⟨cx, Hcx⟩ : ∃ z, Hid (lget co x = z) := ⟨_, rfl⟩
                          obtain ⟨da, Hda⟩ : ∃ z, Hid (dF F i a = z) := ⟨_, rfl⟩
                          obtain ⟨dx, Hdx⟩ : ∃ z, Hid (dF F i x = z) := ⟨_, rfl⟩
                          rw [Hca.out, Hda.out, Hdx.out] at hsum HRe hcx hgx
                          rw [Hcx.out] at HRe hgx
                          rw [Hca.out] at hc1 hlo hfl2
                          rw [Hcx.out] at hx1 hlx2
                          rw [Hda.out] at hda da0 da1
                          rw [Hdx.out] at hdx dx0 dx1
                          unfold farN at hfl2 hlo hlx2
                          have hw1 : IntKind.i64.wrap (ca - da) = ca - da := IntWalk.i64_in _ (by omega)
                          have hw2 : IntKind.i64.wrap (ca - da + dx) = ca - da + dx := IntWalk.i64_in _ (by omega)
                          have hlaI : (a : Int) < (F.op.length : Int) := by omega
                          have hlxI : (x : Int) < (F.op.length : Int) := by omega
                          have hliI : (i : Int) < (F.di.length : Int) := by omega
                          have adc : (⟨gc, 0, none⟩ : Addr).add a = ⟨gc, a, none⟩ := add0 _ _
                          have adx : (⟨gc, 0, none⟩ : Addr).add x = ⟨gc, x, none⟩ := add0 _ _
                          have CN := Lib.hid (fun (wz : World) (hz : Kp wr wz) => HC.out.at_ i x wz (hkb.trans hz) hli hlx)
                          clear hd2 hkb
                          cases hmy : may i x
                          · rw [hmy] at CN
                            have HPn := Lib.hid (HPa.out.next (fun h => by rw [hmy] at h; cases h))
                            clear hmy HRe hsum hgx
                            go_wp2_with fail
                            go_quiet (fail)
                            go_wp2_with fail
                            with_reducible refine Calls.mono (CN.out _ ((Kp.refl _).drewN nq)) ?_
                            rintro e wq ⟨rfl, hdr⟩
                            have hkq := ((Kp.refl wr).drewN nq).trans hdr.kp
                            clear hdr CN
                            go_wp2_with fail
                            go_roundw
                            case rel => exact ⟨x + 1, ch, co, fr, b, by omega, by go_num, rfl, hst.go hkq, HPn, HFe, hfl⟩
                            case measure => simp [intOf]; omega
                          · rw [hmy] at CN
                            go_wp2_with fail
                            go_quiet (fail)
                            go_wp2_with fail
                            with_reducible refine Calls.mono (CN.out _ ((Kp.refl _).drewN nq)) ?_
                            rintro e wq ⟨rfl, hdr⟩
                            have hkq := ((Kp.refl wr).drewN nq).trans hdr.kp
                            clear hdr CN
                            by_cases hlt : ca - da + dx < cx
                            · have hdec : decide (ca - da + dx < cx) = true := decide_eq_true hlt
                              have HFn : Hid (Fell F.op.length s0 (co.set x (ca - da + dx)) true) := by
                                have h1 := HFe.out.1
                                have h2 := hsum.out
                                rw [Hcx.out] at h2
                                exact ⟨by omega, fun _ => by omega⟩
                              have hfn := Lib.hid (hgx.out hlt)
                              obtain ⟨r1, r2, r3, r4, r5, r6⟩ := HRe.out _ (hst.go hkq) hmy hlt
                              obtain ⟨y1, _, _⟩ := (hst.go hkq).cells hlx
                              rw [Hcx.out] at y1
                              have R1 := Lib.hid r1
                              have adf : (⟨gf, 0, none⟩ : Addr).add x = ⟨gf, x, none⟩ := add0 _ _
                              have adb : (⟨gb, 0, none⟩ : Addr).add x = ⟨gb, x, none⟩ := add0 _ _
                              clear r1 HRe hmy hc1 hx1 hx2 hx3 hd1 hda hdx q0 q1 hsum hgx
                              go_wp2_with fail
                              go_roundw
                              case rel => exact ⟨x + 1, true, _, _, _, by omega, by go_num, rfl, R1.out, PassI.yes, HFn, hfn⟩
                              case measure => simp [intOf]; omega
                            · have hdec : decide (ca - da + dx < cx) = false := decide_eq_false hlt
                              have HPn := Lib.hid (HPa.out.next (fun _ => by rw [Hca.out, Hcx.out, Hda.out, Hdx.out]; omega))
                              obtain ⟨y1, _, _⟩ := (hst.go hkq).cells hlx
                              rw [Hcx.out] at y1
                              clear hmy HRe hsum hgx hlt
                              go_wp2_with fail
                              go_roundw
                              case rel => exact ⟨x + 1, ch, co, fr, b, by omega, by go_num, rfl, hst.go hkq, HPn, HFe, hfl⟩
                              case measure => simp [intOf]; omega
                        · obtain rfl : x = F.op.length := by omega
                          have HPn := Lib.hid (HPa.out.site)
                          go_wp2_with fail
                          go_roundw
                          case rel => exact ⟨a + 1, ch, co, fr, b, by omega, by go_num, rfl, hst, HPn, HFe⟩
                          case measure => simp [intOf]; omega
                · obtain rfl : a = F.op.length := by omega
                  have HPn := Lib.hid (HPa.out.row)
                  go_wp2_with fail
                  go_roundw
                  case rel => exact ⟨i + 1, ch, co, fr, b, by omega, by go_num, rfl, hst, HPn, HFe⟩
                  case measure => simp [intOf]; omega
            · obtain rfl : i = F.di.length := by omega
              have hs1 := hst.sum (by omega)
              have hlow : -4851 ≤ sumTo (lget co) F.op.length := by
                have := low_sum (fun a ha => by have := (hst.bf.low (dF_bd HG.out) ha).1; omega : ∀ a, a < F.op.length → -693 ≤ lget co a)
                omega
              go_wp2_with fail
              go_roundw
              case rel => exact ⟨ch, co, fr, b, rfl, hst, fun h => by subst h; exact HPa.out.done⟩
              case measure =>
                have h1 := hs0.out; have h2 := Hs0.out; have h3 := HFe.out; have h4 := hlow0.out
                rw [h1, hs1, h2]
                cases ch
                · simp only [bOf]; have := h3.1; omega
                · have := h3.2 rfl; simp only [bOf]; omega
end Go.Proofs.YtpiijhfjliolfaaGreat

/- LeastFlowPrices: the reference. No condition. -/
import Derived.Test.YtgdicmeabppngaaQBl
namespace Go.Proofs.Ytgdicmeabppngaa
open Go.RowKit Go.Sort

theorem own_two (w : World) : Own ((w.alloc (.cells #[] 3)).alloc (.cells #[] 3)) w.heap.size (.slice (some ⟨w.heap.size, 0, none⟩) 0 0) [] ∧ Own ((w.alloc (.cells #[] 3)).alloc (.cells #[] 3)) w.heap.size (.slice (some ⟨w.heap.size + 1, 0, none⟩) 0 0) [] := by
  constructor
  · exact (own_new0 w _ (Nat.le_refl _)).kp ((Kp.refl _).alloc _)
  · have := own_new0 (w.alloc (.cells #[] 3)) w.heap.size (by simp only [World.size_alloc]; omega)
    rw [World.size_alloc] at this
    exact this
set_option maxRecDepth 100000 in
set_option maxHeartbeats 4000000 in
theorem specLp_any (f : Value) (F : Fld) (A1 : Option Addr) (rooms : List Int) (n1 c1 : Nat) (A2 : Option Addr) (needs : List Int) (n2 c2 : Nat) (A3 : Option Addr) (S : List Int) (n3 c3 : Nat) (w : World) (hf : FldAt w f F) (h1 : IntsAt w A1 rooms) (hn1 : rooms.length = n1) (h2 : IntsAt w A2 needs) (hn2 : needs.length = n2) (h3 : IntsAt w A3 S) (hn3 : S.length = n3) :
    Calls Try.prog 9 #[f, .slice A1 n1 c1, .slice A2 n2 c2, .slice A3 n3 c3] w fun e w' => ∃ uv wv, e = .returned (.tuple #[uv, wv, .bool (lfOk F rooms needs S)]) ∧ Own w' w.heap.size uv (lpU F rooms needs S) ∧ Own w' w.heap.size wv (lpW F rooms needs S) ∧ Apart uv wv ∧ Kp w w' := by
  obtain ⟨A, c, B, d, rfl, hA, hB⟩ := hf
  have hk0 : Kp w (w.alloc (.cells #[.slice A F.op.length c, .slice B F.di.length d] 27)) := (Kp.refl w).alloc _
  obtain ⟨d0, d1⟩ := box2 w (.slice A F.op.length c) (.slice B F.di.length d) 27
  have hFA := FldAt.kp (show FldAt w (.agg #[.slice A F.op.length c, .slice B F.di.length d]) F from ⟨A, c, B, d, rfl, hA, hB⟩) hk0
  replace h1 := h1.kp hk0
  replace h2 := h2.kp hk0
  replace h3 := h3.kp hk0
  have HB0 := Lib.hid (hB.kp hk0)
  have Hn1 := Lib.hid hn1; have Hn2 := Lib.hid hn2; have Hn3 := Lib.hid hn3
  clear hA hB hn1 hn2 hn3
  go_enter Try.func9, Try.ntmps9
  go_wp2_with fail
  have hsz : Hid ((w.alloc (.cells #[.slice A F.op.length c, .slice B F.di.length d] 27)).heap.size = w.heap.size + 1) := by show _ = _; simp
  generalize w.alloc (.cells #[.slice A F.op.length c, .slice B F.di.length d] 27) = wb at *
  have hkb : Kp wb wb := Kp.refl _
  have hkw := hk0
  have hx0 : Kp wb ((wb.alloc (.cells #[] 3)).alloc (.cells #[] 3)) := ((Kp.refl wb).alloc _).alloc _
  obtain ⟨hu0, hv0⟩ := own_two wb
  have CC := Lib.hid (l7Can_any _ F A1 rooms n1 c1 A2 needs n2 c2 A3 S n3 c3 _ (hFA.kp hx0) (h1.kp hx0) Hn1.out (h2.kp hx0) Hn2.out (h3.kp hx0) Hn3.out)
  go_wp2_with fail
  with_reducible refine Calls.mono CC.out ?_
  rintro e w1 ⟨rfl, hkc⟩
  clear CC
  replace hu0 := hu0.kp hkc
  replace hv0 := hv0.kp hkc
  have hkb := hx0.trans hkc
  rw [hsz.out] at hu0 hv0
  clear hx0 hkc
  cases hh_ : lfOk F rooms needs S
  · have Hno : Hid (lfOk F rooms needs S = false) := hh_
    clear hh_
    have HU := Lib.hid hu0
    have HV := Lib.hid hv0
    clear hu0 hv0
    go_wp2_with fail
    refine bodyPost_ret (v := .tuple #[.slice (some ⟨w.heap.size + 1, 0, none⟩) 0 0, .slice (some ⟨w.heap.size + 1 + 1, 0, none⟩) 0 0, .bool false]) (by simp [results, Try.results9, go_sem]) rfl ?_
    obtain ⟨e1, e2⟩ := lp_no Hno.out
    exact ⟨_, _, by rw [Hno.out], by rw [e2]; exact HU.out.mono (by omega), by rw [e1]; exact HV.out.mono (by omega), fun k hk e => by have := slb hk; have := slb e; omega, hkw.trans hkb⟩
  have Hok := Lib.hid hh_
  have HH : Hid (haulB F rooms needs S = true ∧ needs.sum ≤ roomS rooms S) := by
    have := hh_
    unfold lfOk at this
    rw [Bool.and_eq_true, decide_eq_true_eq] at this
    exact this
  have HP := Lib.hid (haul_p HH.out.1)
  clear hh_ hv0
  have h7 := (goodF_iff.1 HP.out.good).1
  have h8 := (goodF_iff.1 HP.out.good).2.2.1
  have CC := Lib.hid ((l7Any_any _ F A1 rooms n1 c1 A2 needs n2 c2 A3 S n3 c3 w1 (hFA.kp hkb) (h1.kp hkb) Hn1.out (h2.kp hkb) Hn2.out (h3.kp hkb) Hn3.out HP.out).mono (fun e w' hp => by
    obtain ⟨L, nl, lf, fl, he, hN, hNn, hor, hk⟩ := hp
    have hz : ∀ j, j < F.di.length → nl j = 0 := by
      rcases hor with h | ⟨_, h⟩
      · exact h
      · obtain ⟨x, hx⟩ := any_full HP.out HH.out.2
        exact absurd hx (h x)
    exact (⟨L, nl, lf, fl, he, hN, opt_spec HP.out.good hNn.net (fun j hj => by have := hNn.row j hj; have := hz j hj; omega), hk⟩ : ∃ (L : NetL) (nl lf : Nat → Int) (fl : Nat → Nat → Int), e = .returned (.slice L.fA F.di.length L.cf) ∧ NetS w' w1.heap.size L F.di.length F.op.length nl lf fl (startM F S 99) ∧ OptN F rooms needs S fl ∧ Kp w1 w')))
  have q0 := hkb.get d0
  have q1 := hkb.get d1
  go_wp2_with fail
  with_reducible refine Calls.mono CC.out ?_
  rintro e wk ⟨L, nl, lf, fl, rfl, hNs, hop, hkc⟩
  clear CC q0 q1
  have HOp := Lib.hid hop
  have HNs := Lib.hid hNs
  obtain ⟨fA, HfA⟩ : ∃ fA, Hid (L.fA = fA) := ⟨_, rfl⟩
  rw [HfA.out]
  have hkb2 := hkb.trans hkc
  have b0 := hkb2.get d0
  have b1 := hkb2.get d1
  have HU0 := Lib.hid (hu0.kp hkc)
  have HB := Lib.hid (HB0.out.kp hkb2)
  have H3 := Lib.hid (h3.kp hkb2)
  have Hkb := Lib.hid hkb2
  have HFA := Lib.hid hFA
  have H3b := Lib.hid h3
  have HKw := Lib.hid hkw
  have D0 := Lib.hid d0
  have D1 := Lib.hid d1
  have HG := Lib.hid HP.out.good
  have HS := Lib.hid (set_mem HP.out.set_)
  have HOb := Lib.hid (haulB_iff.1 HH.out.1).1
  have hn37 : n3 ≤ 7 := by have := bitsL_len F.op.length (bagN S); rw [set_bits HP.out.set_, Hn3.out] at this; omega
  have HSm : Hid (∃ w', PrOk F.di.length F.op.length (dF F) (fun a => flHas S a) fl w' ∧ ∀ a, a < F.op.length → w' a ≤ 198) := by
    obtain ⟨lf, hN⟩ := HOp.out.net
    obtain ⟨ws, s1, _⟩ := pr_star hN
    exact pr_small (fun j a => dF_bd HP.out.good j a) s1 (fun j a hj ha hx => hN.mayf j a hj ha hx) (set_ex HP.out)
  have hmM := run_make_row' (P := Try.prog) 24 3 (.int .i64 0) 8 Try.underlying24 infoInt rfl .i64 .i64 F.op.length (by omega) (by omega)
  have hzz : mapTo (fun _ => (0 : Int)) F.op.length = List.replicate F.op.length 0 := by
    apply List.ext_getElem
    · simp [mapTo]
    · intro i h1 h2; simp [mapTo]
  have hw0 : Own (wk.alloc (.cells (madeCells #[.int .i64 0] F.op.length) 3)) wk.heap.size (.slice (some ⟨wk.heap.size, 0, none⟩) F.op.length F.op.length) (mapTo (fun _ => 0) F.op.length) := by rw [hzz]; exact own_made' _ _ _ rfl (Nat.le_refl _) (by omega)
  have hkx : Kp wk (wk.alloc (.cells (madeCells #[.int .i64 0] F.op.length) 3)) := (Kp.refl wk).alloc _
  clear hzz h1 h2 h3 hFA HB0 hNs hop hkb2 hkw hkb hkc d0 d1 hu0
  go_wp2_with fail
  go_loopw [14] (fun cv wr => ∃ (ch : Bool) (pw : Nat → Int), cv = .bool ch ∧ Own wr wk.heap.size (.slice (some ⟨wk.heap.size, 0, none⟩) F.op.length F.op.length) (mapTo pw F.op.length) ∧ Hid (LowPr F.di.length F.op.length (dF F) (fun a => flHas S a) fl pw) ∧ Kp wk wr ∧ Hid (ch = false → LeastPr F.di.length F.op.length (dF F) (fun a => flHas S a) fl pw)) (fun cv wr => 2 * (1386 - memSum wr wk.heap.size F.op.length).toNat + bOf cv)
  case atStart => exact ⟨true, _, rfl, hw0, LowPr.zero, hkx, fun h => by cases h⟩
  case round =>
    clear hw0 hkx
    obtain ⟨ch, pw, rfl, how, HLo, hkb, HLe⟩ := hrel
    cases ch
    · have HL := Lib.hid (HLe.out rfl)
      have HWs := Lib.hid (lpW_yes Hok.out HP.out HOp.out HL.out)
      have HUs := Lib.hid (lpU_yes Hok.out)
      rw [HWs.out] at HUs
      have hbw := Hkb.out.trans hkb
      have hap0 : Apart (.slice (some ⟨w.heap.size + 1, 0, none⟩) 0 0) (.slice (some ⟨wk.heap.size, 0, none⟩) F.op.length F.op.length) := fun k hk e => by
        have h1 := slb hk; have h2 := slb e
        have h3 := (HU0.out.lt (w.heap.size + 1) rfl).2
        omega
      have hou0 : Own wr (w.heap.size + 1) (.slice (some ⟨w.heap.size + 1, 0, none⟩) 0 0) (mapTo (fun j => offF F S (mapTo pw F.op.length) j) 0) := HU0.out.kp hkb
      have how0 : Own wr (w.heap.size + 1) (.slice (some ⟨wk.heap.size, 0, none⟩) F.op.length F.op.length) (mapTo pw F.op.length) := how.mono (by have := Hkb.out.le; have := hsz.out; omega)
      have hbd : Hid (∀ x ∈ mapTo pw F.op.length, 0 ≤ x ∧ x ≤ 999) := fun x hx => by
        simp only [mapTo, List.mem_map, List.mem_range] at hx
        obtain ⟨a, ha, rfl⟩ := hx
        have := HLo.out.bd HSm.out ha
        omega
      have hwm := hbw.le
      rw [hsz.out] at hwm
      clear HLe how hkb HNs b0 b1
      go_wp2_with fail
      go_loopw [11, 19] (fun ov iv wr => ∃ (i : Nat) (v : Value), i ≤ F.di.length ∧ iv = .int .i64 i ∧ v = ov ∧ Own wr (w.heap.size + 1) v (mapTo (fun j => offF F S (mapTo pw F.op.length) j) i) ∧ Own wr (w.heap.size + 1) (.slice (some ⟨wk.heap.size, 0, none⟩) F.op.length F.op.length) (mapTo pw F.op.length) ∧ Apart v (.slice (some ⟨wk.heap.size, 0, none⟩) F.op.length F.op.length) ∧ Kp wb wr) (fun _ iv _ => F.di.length - (intOf iv).toNat)
      case atStart => exact ⟨0, _, by omega, rfl, rfl, hou0, how0, hap0, hbw⟩
      case round =>
        clear hou0 how0 hap0 hbw
        obtain ⟨i, ov, hi, rfl, rfl, hown, how, hap, hkr⟩ := hrel
        by_cases hli : i < F.di.length
        · have z0 := hkr.get D0.out
          have z1 := hkr.get D1.out
          have hliI : (i : Int) < (F.di.length : Int) := by omega
          have CC := Lib.hid (l7Offer_any _ F A3 S n3 c3 _ (mapTo pw F.op.length) F.op.length F.op.length i wr (HFA.out.kp hkr) (H3b.out.kp hkr) Hn3.out (how.intsOf (by rw [mapTo_len]; omega)) (mapTo_len _ _) HOb.out hbd.out (mapTo_len _ _) hli)
          go_wp2_with fail
          with_reducible refine Calls.mono CC.out ?_
          rintro e wy ⟨rfl, hky⟩
          clear CC z0 z1
          have hown2 := hown.kp hky
          have how2 := how.kp hky
          have hkr2 := hkr.trans hky
          have hbl := hkr2.le
          rw [hsz.out] at hbl
          have hlen2 := mapTo_len (fun j => offF F S (mapTo pw F.op.length) j) i
          have hsu := Lib.hid (mapTo_succ' (fun j => offF F S (mapTo pw F.op.length) j) i)
          clear hown how hkr hky
          go_wp2_with (at_builtin; go_loud (refine wpl_app rfl (.tmp 115) (.tmp 121) rfl (w.heap.size + 1) _ (mapTo (fun j => offF F S (mapTo pw F.op.length) j) i) (offF F S (mapTo pw F.op.length) i) rfl rfl hown2 hbl (by omega) ?_; intro v' w' ho' ht' h4'; have hkb' := hown2.kp_turn hkr2 (Nat.le_of_eq hsz.out) ht'; have how3 := how2.apart_turn hap ht'; have hap3 := hap.grow how2 h4'))
          go_roundw
          case rel => exact ⟨i + 1, v', by omega, by go_num, rfl, by rw [← hsu.out]; exact ho', how3, hap3, hkb'⟩
          case measure => simp [intOf]; omega
        · obtain rfl : i = F.di.length := by omega
          have HPost : Hid (∃ uv wv, Ending.returned (.tuple #[ov, .slice (some ⟨wk.heap.size, 0, none⟩) F.op.length F.op.length, .bool true]) = .returned (.tuple #[uv, wv, .bool (lfOk F rooms needs S)]) ∧ Own wr w.heap.size uv (lpU F rooms needs S) ∧ Own wr w.heap.size wv (lpW F rooms needs S) ∧ Apart uv wv ∧ Kp w wr) :=
            ⟨_, _, by rw [Hok.out], by rw [HUs.out]; exact hown.mono (by omega), by rw [HWs.out]; exact how.mono (by omega), hap, HKw.out.trans hkr⟩
          clear hown how hap hkr
          go_wp2_with fail
          exact bodyPost_ret (v := .tuple #[ov, .slice (some ⟨wk.heap.size, 0, none⟩) F.op.length F.op.length, .bool true]) (by simp [results, Try.results9, go_sem]) rfl HPost.out
    · have hsum := Lib.hid (mapTo_sum_mem how (by omega))
      obtain ⟨s0, Hs0⟩ : ∃ s0, Hid (sumTo pw F.op.length = s0) := ⟨_, rfl⟩
      have htop : Hid (∀ pw, LowPr F.di.length F.op.length (dF F) (fun a => flHas S a) fl pw → sumTo pw F.op.length ≤ 1386) := fun pw h => by
        have := top_sum (M := F.op.length) (w := pw) (fun a ha => (h.bd HSm.out ha).2)
        omega
      rw [Hs0.out] at hsum
      obtain ⟨wo, rfl⟩ : ∃ wo : World, wo = wr := ⟨_, rfl⟩
      have hrose : RoseP F.op.length s0 pw false := ⟨by rw [Hs0.out]; exact Int.le_refl _, fun h => by cases h⟩
      clear HLe Hs0
      go_wp2_with fail
      go_loopw [14, 15] (fun cv iv wr => ∃ (i : Nat) (ch : Bool) (pw : Nat → Int), i ≤ F.di.length ∧ iv = .int .i64 i ∧ cv = .bool ch ∧ Own wr wk.heap.size (.slice (some ⟨wk.heap.size, 0, none⟩) F.op.length F.op.length) (mapTo pw F.op.length) ∧ Hid (LowPr F.di.length F.op.length (dF F) (fun a => flHas S a) fl pw) ∧ Kp wk wr ∧ Hid (PassP F.di.length F.op.length (dF F) S fl pw ch i 0 0) ∧ Hid (RoseP F.op.length s0 pw ch)) (fun _ iv _ => F.di.length - (intOf iv).toNat)
      case atStart => exact ⟨0, false, pw, by omega, rfl, rfl, how, HLo, hkb, PassP.start, hrose⟩
      case round =>
        clear how hkb hrose HLo
        obtain ⟨i, ch, pw, hi, rfl, rfl, how, HLo, hkb, HPa, HRo⟩ := hrel
        by_cases hli : i < F.di.length
        · have hliI : (i : Int) < (F.di.length : Int) := by omega
          obtain rfl : fA = some ⟨L.g, 0, none⟩ := HfA.out.symm.trans (HNs.out.fa (by omega))
          go_wp2_with fail
          go_loopw [14, 16] (fun cv av wr => ∃ (a : Nat) (ch : Bool) (pw : Nat → Int), a ≤ F.op.length ∧ av = .int .i64 a ∧ cv = .bool ch ∧ Own wr wk.heap.size (.slice (some ⟨wk.heap.size, 0, none⟩) F.op.length F.op.length) (mapTo pw F.op.length) ∧ Hid (LowPr F.di.length F.op.length (dF F) (fun a => flHas S a) fl pw) ∧ Kp wk wr ∧ Hid (PassP F.di.length F.op.length (dF F) S fl pw ch i a 0) ∧ Hid (RoseP F.op.length s0 pw ch)) (fun _ av _ => F.op.length - (intOf av).toNat)
          case atStart => exact ⟨0, ch, pw, by omega, rfl, rfl, how, HLo, hkb, HPa, HRo⟩
          case round =>
            clear how hkb HPa HRo HLo
            obtain ⟨a, ch, pw, ha, rfl, rfl, how, HLo, hkb, HPa, HRo⟩ := hrel
            by_cases hla : a < F.op.length
            · have adh : (⟨L.g, 0, none⟩ : Addr).add i = ⟨L.g, i, none⟩ := add0 _ _
              have adr : (⟨L.Bk i, 0, none⟩ : Addr).add a = ⟨L.Bk i, a, none⟩ := add0 _ _
              have ada : (⟨wk.heap.size, 0, none⟩ : Addr).add a = ⟨wk.heap.size, a, none⟩ := add0 _ _
              have hlaI : (a : Int) < (F.op.length : Int) := by omega
              obtain ⟨fv, Hfv⟩ : ∃ z, Hid (fl i a = z) := ⟨_, rfl⟩
              go_wp2_with fail
              go_loopw [14, 17] (fun cv kv wr => ∃ (k : Nat) (ch : Bool) (pw : Nat → Int), k ≤ n3 ∧ kv = .int .i64 k ∧ cv = .bool ch ∧ Own wr wk.heap.size (.slice (some ⟨wk.heap.size, 0, none⟩) F.op.length F.op.length) (mapTo pw F.op.length) ∧ Hid (LowPr F.di.length F.op.length (dF F) (fun a => flHas S a) fl pw) ∧ Kp wk wr ∧ Hid (PassP F.di.length F.op.length (dF F) S fl pw ch i a k) ∧ Hid (RoseP F.op.length s0 pw ch) ∧ Hid (k = 0 ∨ 0 < fv)) (fun _ kv _ => n3 - (intOf kv).toNat)
              case atStart => exact ⟨0, ch, pw, by omega, rfl, rfl, how, HLo, hkb, HPa, HRo, .inl rfl⟩
              case round =>
                clear how hkb HPa HRo HLo
                obtain ⟨k, ch, pw, hk, rfl, rfl, how, HLo, hkb, HPa, HRo, HBe⟩ := hrel
                by_cases hlk : k < n3
                · obtain ⟨hh, hm1, _, _⟩ := (HNs.out.kp hkb).setFlow hli hla
                  rw [Hfv.out] at hm1
                  clear HBe
                  by_cases hf0 : 0 < fv
                  · have g1 : decide (0 < fv) = true := decide_eq_true hf0
                    have HBe : Hid (k + 1 = 0 ∨ 0 < fv) := .inr hf0
                    have lk : k < S.length := by rw [Hn3.out]; exact hlk
                    obtain ⟨ad3, rfl, hc3⟩ := (H3.out.kp hkb).at_ lk
                    have hsm := HS.out _ (List.getElem_mem lk)
                    have hsn := sN_at lk hsm.1
                    have hbM : sN S k < F.op.length := by omega
                    rw [hsn] at hc3
                    obtain ⟨b, Hb⟩ : ∃ b, Hid (sN S k = b) := ⟨_, rfl⟩
                    rw [Hb.out] at hc3 hbM
                    obtain ⟨pa, Hpa⟩ : ∃ z, Hid (pw a = z) := ⟨_, rfl⟩
                    obtain ⟨pb, Hpb⟩ : ∃ z, Hid (pw b = z) := ⟨_, rfl⟩
                    obtain ⟨ca, _, _⟩ := how.slotL (mapTo_len _ _) hla
                    obtain ⟨cb, cbf, cb3⟩ := how.slotL (mapTo_len _ _) hbM
                    rw [mapTo_lget hla, Hpa.out] at ca
                    rw [mapTo_lget hbM, Hpb.out] at cb
                    obtain ⟨bd, ar, cr, rfl, hd1, hd2⟩ := dist_row HG.out (HB.out.kp hkb) hli
                    have hda := hd2 a hla
                    have hdb := hd2 b hbM
                    obtain ⟨da, Hda⟩ : ∃ z, Hid (dF F i a = z) := ⟨_, rfl⟩
                    obtain ⟨db, Hdb⟩ : ∃ z, Hid (dF F i b = z) := ⟨_, rfl⟩
                    rw [Hda.out] at hda
                    rw [Hdb.out] at hdb
                    have ba := HLo.out.bd HSm.out hla
                    have bb := HLo.out.bd HSm.out hbM
                    have xa := dF_bd HG.out i a
                    have xb := dF_bd HG.out i b
                    rw [Hpa.out] at ba
                    rw [Hpb.out] at bb
                    rw [Hda.out] at xa
                    rw [Hdb.out] at xb
                    have z0 := hkb.get b0
                    have z1 := hkb.get b1
                    have hw1 : IntKind.i64.wrap (da + pa) = da + pa := IntWalk.i64_in _ (by omega)
                    have hw2 : IntKind.i64.wrap (da + pa - db) = da + pa - db := IntWalk.i64_in _ (by omega)
                    have hbI : (b : Int) < (F.op.length : Int) := by omega
                    have hkI : (k : Int) < (n3 : Int) := by omega
                    have ad4 : (⟨wk.heap.size, 0, none⟩ : Addr).add b = ⟨wk.heap.size, b, none⟩ := add0 _ _
                    clear hd2 hsn hsm
                    by_cases hlt : pb < da + pa - db
                    · have g2 : decide (pb < da + pa - db) = true := decide_eq_true hlt
                      have hlt3 : Hid (pw b < pw a + dF F i a - dF F i b) := by show _ < _; rw [Hpa.out, Hpb.out, Hda.out, Hdb.out]; omega
                      have hs3 := HLo.out.step hli hla hbM (by rw [← Hb.out]; exact flHas_iff.2 (by rw [← sN_at lk (HS.out _ (List.getElem_mem lk)).1]; exact List.getElem_mem lk)) (by rw [Hfv.out]; exact hf0) hlt3.out
                      have hr3 := HRo.out.put hbM hlt3.out
                      obtain ⟨o1, t1⟩ := cb3 (da + pa - db)
                      rw [mapTo_set] at o1
                      rw [Hpa.out, Hda.out, Hdb.out, show pa + da - db = da + pa - db from by omega] at hs3 hr3
                      have HS3 := Lib.hid hs3
                      have HR3 := Lib.hid hr3
                      clear HPa hs3 hr3 o1 t1 cb3
                      go_wp2_with fail
                      go_quiet (fail)
                      have howq := how.kp ((Kp.refl wr).drewN nq)
                      have hkq := hkb.drewN nq
                      obtain ⟨cq, cqf, cq3⟩ := howq.slotL (mapTo_len _ _) hbM
                      rw [mapTo_lget hbM, Hpb.out] at cq
                      obtain ⟨o1, t1⟩ := cq3 (da + pa - db)
                      rw [mapTo_set] at o1
                      have HO := Lib.hid o1
                      have HK := Lib.hid (hkq.turn t1 (fun k e => by subst e; exact Nat.le_refl _))
                      have hc3q := ((Kp.refl wr).drewN nq).get hc3
                      clear o1 t1 cq3 howq hkq ca cb cbf hda hdb z0 z1 hc3 how hkb hm1 hh
                      generalize wr.drewN nq = wq at *
                      go_wp2_with fail
                      go_roundw
                      case rel => exact ⟨k + 1, true, _, by omega, by go_num, rfl, HO.out, HS3, HK.out, PassP.yes, HR3, HBe⟩
                      case measure => simp [intOf]; omega
                    · have g2 : decide (pb < da + pa - db) = false := decide_eq_false hlt
                      have HPn := Lib.hid (HPa.out.next (fun h => by rw [Hb.out, Hpa.out, Hpb.out, Hda.out, Hdb.out]; omega))
                      clear HPa
                      go_wp2_with fail
                      go_quiet (fail)
                      go_wp2_with fail
                      go_roundw
                      case rel => exact ⟨k + 1, ch, pw, by omega, by go_num, rfl, how.kp (by repeat (first | with_reducible assumption | with_reducible exact Kp.refl _ | with_reducible refine Kp.drew ?_ | with_reducible refine Kp.alloc ?_ _ | with_reducible refine Kp.drewN ?_ _ | refine Kp.setCell ?_ (by dsimp only; omega) _)), HLo, hkb.trans (by repeat (first | with_reducible assumption | with_reducible exact Kp.refl _ | with_reducible refine Kp.drew ?_ | with_reducible refine Kp.alloc ?_ _ | with_reducible refine Kp.drewN ?_ _ | refine Kp.setCell ?_ (by dsimp only; omega) _)), HPn, HRo, HBe⟩
                      case measure => simp [intOf]; omega
                  · have g1 : decide (0 < fv) = false := decide_eq_false hf0
                    have HPn := Lib.hid (HPa.out.skip (by rw [Hfv.out]; exact hf0))
                    clear HPa
                    have HOw := Lib.hid how
                    have hkI : (k : Int) < (n3 : Int) := by omega
                    clear how
                    go_wp2_with fail
                    go_roundw
                    case rel => exact ⟨a + 1, ch, pw, by omega, by go_num, rfl, HOw.out, HLo, hkb, HPn, HRo⟩
                    case measure => simp [intOf]; omega
                · obtain rfl : k = n3 := by omega
                  have HPn := Lib.hid (show PassP F.di.length F.op.length (dF F) S fl pw ch i (a + 1) 0 from PassP.site (by rw [Hn3.out]; exact HPa.out))
                  clear HPa
                  have HOw := Lib.hid how
                  clear how
                  go_wp2_with fail
                  go_roundw
                  case rel => exact ⟨a + 1, ch, pw, by omega, by go_num, rfl, HOw.out, HLo, hkb, HPn, HRo⟩
                  case measure => simp [intOf]; omega
            · obtain rfl : a = F.op.length := by omega
              have HPn := Lib.hid HPa.out.row
              clear HPa
              have HOw := Lib.hid how
              clear how
              go_wp2_with fail
              go_roundw
              case rel => exact ⟨i + 1, ch, pw, by omega, by go_num, rfl, HOw.out, HLo, hkb, HPn, HRo⟩
              case measure => simp [intOf]; omega
        · obtain rfl : i = F.di.length := by omega
          have HOw := Lib.hid how
          clear how
          go_wp2_with fail
          go_roundw
          case rel => exact ⟨ch, pw, rfl, HOw.out, HLo, hkb, fun h => by subst h; exact HPa.out.least HLo.out⟩
          case measure =>
            have e1 := mapTo_sum_mem HOw.out (by omega)
            have e2 := HRo.out
            have e3 := hsum.out
            have e4 := htop.out pw HLo.out
            unfold RoseP at e2
            rw [e1, e3]
            generalize sumTo pw F.op.length = s1 at *
            cases ch
            · show 2 * _ + 0 < 2 * _ + 1
              omega
            · have := e2.2 rfl
              show 2 * _ + 1 < 2 * _ + 1
              omega
end Go.Proofs.Ytgdicmeabppngaa

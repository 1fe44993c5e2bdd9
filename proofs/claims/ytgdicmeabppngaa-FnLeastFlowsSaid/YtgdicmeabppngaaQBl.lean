/- LeastFlowPrices: the program. No condition. -/
import Derived.Test.YtgdicmeabppngaaQAt
namespace Go.Proofs.Ytgdicmeabppngaa
open Go.RowKit Go.Sort

theorem mapTo_succ' (f : Nat → Int) (n : Nat) : mapTo f n ++ [f n] = mapTo f (n + 1) := by unfold mapTo; rw [List.range_succ, List.map_append]; rfl
theorem dF_dAt (F : Fld) (j a : Nat) : dF F j a = dAt F j (a : Int) := rfl
set_option maxRecDepth 100000 in
set_option maxHeartbeats 4000000 in
theorem implLp_any (f : Value) (F : Fld) (A1 : Option Addr) (rooms : List Int) (n1 c1 : Nat) (A2 : Option Addr) (needs : List Int) (n2 c2 : Nat) (A3 : Option Addr) (S : List Int) (n3 c3 : Nat) (w : World) (hf : FldAt w f F) (h1 : IntsAt w A1 rooms) (hn1 : rooms.length = n1) (h2 : IntsAt w A2 needs) (hn2 : needs.length = n2) (h3 : IntsAt w A3 S) (hn3 : S.length = n3) :
    Calls Try.prog 8 #[f, .slice A1 n1 c1, .slice A2 n2 c2, .slice A3 n3 c3] w fun e w' => ∃ uv wv, e = .returned (.tuple #[uv, wv, .bool (lfOk F rooms needs S)]) ∧ Own w' w.heap.size uv (lpU F rooms needs S) ∧ Own w' w.heap.size wv (lpW F rooms needs S) ∧ Apart uv wv ∧ Kp w w' := by
  obtain ⟨A, c, B, d, rfl, hA, hB⟩ := hf
  have hk0 : Kp w (w.alloc (.cells #[.slice A F.op.length c, .slice B F.di.length d] 27)) := (Kp.refl w).alloc _
  obtain ⟨d0, d1⟩ := box2 w (.slice A F.op.length c) (.slice B F.di.length d) 27
  have hFA := FldAt.kp (show FldAt w (.agg #[.slice A F.op.length c, .slice B F.di.length d]) F from ⟨A, c, B, d, rfl, hA, hB⟩) hk0
  replace h1 := h1.kp hk0
  replace h2 := h2.kp hk0
  replace h3 := h3.kp hk0
  have HB0 := Lib.hid (hB.kp hk0)
  have Hn1 := Lib.hid hn1; have Hn2 := Lib.hid hn2; have Hn3 := Lib.hid hn3
  clear hA hB hn1 hn2 hn3
  go_enter Try.func8, Try.ntmps8
  go_wp2_with fail
  have hsz : Hid ((w.alloc (.cells #[.slice A F.op.length c, .slice B F.di.length d] 27)).heap.size = w.heap.size + 1) := by show _ = _; simp
  generalize w.alloc (.cells #[.slice A F.op.length c, .slice B F.di.length d] 27) = wb at *
  have hkb : Kp wb wb := Kp.refl _
  have hkw := hk0
  have CC := Lib.hid (isHaul_any _ F A1 rooms n1 c1 A2 needs n2 c2 A3 S n3 c3 _ (hFA.kp hkb) (h1.kp hkb) Hn1.out (h2.kp hkb) Hn2.out (h3.kp hkb) Hn3.out)
  with_reducible refine Calls.mono CC.out ?_
  rintro e w1 ⟨rfl, hk1⟩
  clear CC
  replace hkb := hkb.trans hk1
  cases hh_ : haulB F rooms needs S
  · have Hno : Hid (lfOk F rooms needs S = false) := by show _ = _; rw [lfOk, hh_]; rfl
    clear hh_
    have q_d0 := hkb.get d0
    have q_d1 := hkb.get d1
    go_wp2_with fail
    refine bodyPost_ret (v := .tuple #[.slice none 0 0, .slice none 0 0, .bool false]) (by simp [results, Try.results8, go_sem]) rfl ?_
    obtain ⟨e1, e2⟩ := lp_no Hno.out
    exact ⟨_, _, by rw [Hno.out], by rw [e2]; exact Own.nil _ _, by rw [e1]; exact Own.nil _ _, fun k hk => by simp [Value.ownBlock] at hk, hkw.trans hkb⟩
  have HH := Lib.hid hh_
  have HP := Lib.hid (haul_p hh_)
  clear hh_
  have h7 := (goodF_iff.1 HP.out.good).1
  have h8 := (goodF_iff.1 HP.out.good).2.2.1
  have C0 := Lib.hid (fun (wx : World) (hx : Kp w1 wx) => isOpen_any A3 S n3 c3 F.di.length F.op.length wx (h3.kp (hkb.trans hx)) Hn3.out HP.out.mem h7.2)
  have C1 := Lib.hid (fun (wx : World) (hx : Kp w1 wx) (caps : Array Value) (hc : Can 49 caps F.di.length F.op.length (openM S) wx) => flow_any _ F A1 rooms n1 c1 A2 needs n2 c2 49 caps (openM S) wx (hFA.kp (hkb.trans hx)) HP.out.good (h1.kp (hkb.trans hx)) Hn1.out (h2.kp (hkb.trans hx)) Hn2.out (by rw [← Hn1.out]; exact HP.out.rl) (by rw [← Hn2.out]; exact HP.out.nl) hc (fun x => by have := HP.out.rb x; omega) (fun x => by have := HP.out.nb x; omega))
  have q0 := hkb.get d0
  have q1 := hkb.get d1
  have hkz : Kp w1 w1 := Kp.refl _
  by_cases hs : needs.sum ≤ roomS rooms S
  · have Hok : Hid (lfOk F rooms needs S = true) := by show _ = _; rw [lfOk, HH.out]; simp [hs]
    have C2 := Lib.hid (fun (wx : World) (hx : Kp w1 wx) (caps : Array Value) (hc : Can 49 caps F.di.length F.op.length (openM S) wx) => (C1.out wx hx caps hc).mono (fun e w' hp => flow_yes' hp (fun j _ => by
      show ¬ sumTo (fun a => if flHas S a = true then lget rooms a else 0) F.op.length < sumTo (lget needs) F.di.length
      rw [HP.out.rs, HP.out.ns]; omega)))
    clear C1
    have q_q0 := hkz.get q0
    have q_q1 := hkz.get q1
    go_wp2_with fail
    go_cut [11, 12] (fun fv kv wz => ∃ (g cap base : Nat) (Bk Ck : Nat → Nat) (fl : Nat → Nat → Int), fv = .slice (some ⟨g, 0, none⟩) F.di.length cap ∧ kv = .bool true ∧ Mat wz base g cap F.di.length F.op.length Bk Ck fl ∧ Hid (OptN F rooms needs S fl) ∧ Kp w1 wz)
    case first =>
      clear q_q0 q_q1
      have q_q0 := hkz.get q0
      have q_q1 := hkz.get q1
      have tok1 : True := trivial
      go_wp2_with fail
      go_region_held3 (fun w' => w'.cell? ⟨w.heap.size, 0, none⟩ = some (.slice A F.op.length c) ∧ w'.cell? ⟨w.heap.size, 1, none⟩ = some (.slice B F.di.length d) ∧ Kp w1 w')
        (first | (refine keepc2 q0 q1 ?_; exact (by repeat (first | with_reducible assumption | with_reducible exact Kp.refl _ | with_reducible refine Kp.drew ?_ | with_reducible refine Kp.alloc ?_ _ | with_reducible refine Kp.drewN ?_ _ | refine Kp.setCell ?_ (by dsimp only; omega) _))) | fail)
        (first
          | (have _t := tok1; go_at_call 23; with_reducible refine Calls.mono (C0.out _ (by repeat (first | with_reducible assumption | with_reducible exact Kp.refl _ | with_reducible refine Kp.drew ?_ | with_reducible refine Kp.alloc ?_ _ | with_reducible refine Kp.drewN ?_ _ | refine Kp.setCell ?_ (by dsimp only; omega) _))) ?_; rintro e wr1 ⟨caps, rfl, hcan, hka⟩; have hr1 : Kp w1 wr1 := Kp.trans (by repeat (first | with_reducible assumption | with_reducible exact Kp.refl _ | with_reducible refine Kp.drew ?_ | with_reducible refine Kp.alloc ?_ _ | with_reducible refine Kp.drewN ?_ _ | refine Kp.setCell ?_ (by dsimp only; omega) _)) hka; have tok2 : True := trivial; clear tok1 _t)
          | (have _t := tok2; go_at_call 26; with_reducible refine Calls.mono (C2.out _ hr1 caps hcan) ?_; rintro e wr2 ⟨g, cap, Bk, Ck, fl, lf, rfl, hm, hN, hR, hka⟩; have hr2 : Kp w1 wr2 := Kp.trans (by repeat (first | with_reducible assumption | with_reducible exact Kp.refl _ | with_reducible refine Kp.drew ?_ | with_reducible refine Kp.alloc ?_ _ | with_reducible refine Kp.drewN ?_ _ | refine Kp.setCell ?_ (by dsimp only; omega) _)) hka; have tok3 : True := trivial; clear tok2 _t)
          | fail)
      all_goals
        go_wp2_with fail
        go_meet
        exact ⟨g, cap, _, Bk, Ck, fl, rfl, rfl, hm, opt_impl hN hR, hr2⟩
    case rest =>
      obtain ⟨g, cap, base, Bk, Ck, fl, rfl, rfl, hm, HOp, hkq⟩ := hcut
      obtain ⟨wk, rfl⟩ : ∃ q : World, q = wc := ⟨_, rfl⟩
      have hkb2 := hkb.trans hkq
      have b0 := hkq.get q0
      have b1 := hkq.get q1
      have HB := Lib.hid (HB0.out.kp hkb2)
      have H3 := Lib.hid (h3.kp hkb2)
      have HMt := Lib.hid hm
      have HKw := Lib.hid (hkw.trans hkb2)
      have HG := Lib.hid HP.out.good
      have HS := Lib.hid (set_mem HP.out.set_)
      have hn37 : n3 ≤ 7 := by have := bitsL_len F.op.length (bagN S); rw [set_bits HP.out.set_, Hn3.out] at this; omega
      have hn31 : 0 < n3 := by have := List.length_pos_iff.2 HP.out.ne; have := Hn3.out; omega
      have HSm : Hid (∃ w', PrOk F.di.length F.op.length (dF F) (fun a => flHas S a) fl w' ∧ ∀ a, a < F.op.length → w' a ≤ 198) := by
        obtain ⟨lf, hN⟩ := HOp.out.net
        obtain ⟨ws, s1, _⟩ := pr_star hN
        exact pr_small (fun j a => dF_bd HP.out.good j a) s1 (fun j a hj ha hx => hN.mayf j a hj ha hx) (set_ex HP.out)
      have hmM := run_make_row' (P := Try.prog) 24 3 (.int .i64 0) 8 Try.underlying24 infoInt rfl .i64 .i64 n1 (by have := Hn1.out; have := HP.out.rl; omega) (by have := Hn1.out; have := HP.out.rl; omega)
      obtain rfl : n1 = F.op.length := by rw [← Hn1.out]; exact HP.out.rl
      have hzz : mapTo (fun _ => (0 : Int)) F.op.length = List.replicate F.op.length 0 := by
        apply List.ext_getElem
        · simp [mapTo]
        · intro i h1 h2; simp [mapTo]
      have hw0 : Own (wk.alloc (.cells (madeCells #[.int .i64 0] F.op.length) 3)) wk.heap.size (.slice (some ⟨wk.heap.size, 0, none⟩) F.op.length F.op.length) (mapTo (fun _ => 0) F.op.length) := by rw [hzz]; exact own_made' _ _ _ rfl (Nat.le_refl _) (by omega)
      have hkx : Kp wk (wk.alloc (.cells (madeCells #[.int .i64 0] F.op.length) 3)) := (Kp.refl wk).alloc _
      clear hzz h1 h2 h3 hFA C0 C2 HB0 hm hkq hkb2 hkw hkb q0 q1 d0 d1 hkz
      go_wp2_with fail
      go_loopw [14] (fun cv wr => ∃ (ch : Bool) (pw : Nat → Int), cv = .bool ch ∧ Own wr wk.heap.size (.slice (some ⟨wk.heap.size, 0, none⟩) F.op.length F.op.length) (mapTo pw F.op.length) ∧ Hid (LowPr F.di.length F.op.length (dF F) (fun a => flHas S a) fl pw) ∧ Kp wk wr ∧ Hid (ch = false → LeastPr F.di.length F.op.length (dF F) (fun a => flHas S a) fl pw)) (fun cv wr => 2 * (1386 - memSum wr wk.heap.size F.op.length).toNat + bOf cv)
      case atStart => exact ⟨true, _, rfl, hw0, LowPr.zero, hkx, fun h => by cases h⟩
      case round =>
        clear hw0 hkx
        obtain ⟨ch, pw, rfl, how, HLo, hkb, HLe⟩ := hrel
        cases ch
        · have HL := Lib.hid (HLe.out rfl)
          have HWs := Lib.hid (lpW_yes Hok.out HP.out HOp.out HL.out)
          have HUs := Lib.hid (lpU_yes Hok.out)
          rw [HWs.out] at HUs
          obtain ⟨wm, rfl⟩ : ∃ q : World, q = wr := ⟨_, rfl⟩
          have HOw := Lib.hid how
          have hown0 : Own (wm.alloc (.cells #[] 3)) wm.heap.size (.slice (some ⟨wm.heap.size, 0, none⟩) 0 0) (mapTo (fun j => offF F S (mapTo pw F.op.length) j) 0) := own_new0 wm _ (Nat.le_refl _)
          have hkm := (Kp.refl wm).alloc (.cells #[] 3)
          have m0 := hkb.get b0
          have m1 := hkb.get b1
          have y1 := hkm.get m1
          have HBm := Lib.hid (HB.out.kp hkb)
          have H3m := Lib.hid (H3.out.kp hkb)
          have HKm := Lib.hid (HKw.out.trans hkb)
          have hgw := (how.lt wk.heap.size rfl).2
          have hOG : Hid (∀ i k b, k < S.length → sN S k = b → b < F.op.length → 0 ≤ lget S k → offG F S (mapTo pw F.op.length) i k = dF F i b + pw b) := fun i k b hk hb hbM h0 => by
            rw [offG_at hk]
            have e : S[k] = (b : Int) := by rw [← hb, sN_at hk (by rw [← lget_at hk]; exact h0)]
            rw [e]; unfold valF
            rw [Int.toNat_natCast, mapTo_lget hbM]; rfl
          clear HLe how hkb HMt
          go_wp2_with fail
          clear y1
          go_loopw [22, 112] (fun ov iv wr => ∃ (i : Nat) (v : Value), i ≤ F.di.length ∧ iv = .int .i64 i ∧ v = ov ∧ Own wr wm.heap.size v (mapTo (fun j => offF F S (mapTo pw F.op.length) j) i) ∧ Kp wm wr) (fun _ iv _ => F.di.length - (intOf iv).toNat)
          case atStart => exact ⟨0, _, by omega, rfl, rfl, hown0, hkm⟩
          case round =>
            clear hown0 hkm
            obtain ⟨i, ov, hi, rfl, rfl, hown, hkr⟩ := hrel
            by_cases hli : i < F.di.length
            · have lk0 : 0 < S.length := by rw [Hn3.out]; exact hn31
              obtain ⟨ad3, rfl, hc3⟩ := (H3m.out.kp hkr).at_ lk0
              have hsm := HS.out _ (List.getElem_mem lk0)
              have hsn := sN_at lk0 hsm.1
              have hbM : sN S 0 < F.op.length := by omega
              rw [hsn] at hc3
              have hog := hOG.out i 0 _ lk0 rfl hbM (by rw [lget_at lk0]; exact hsm.1)
              obtain ⟨b, Hb⟩ : ∃ b, Hid (sN S 0 = b) := ⟨_, rfl⟩
              rw [Hb.out] at hc3 hbM hog
              rw [show ad3.add 0 = ad3 from rfl] at hc3
              obtain ⟨bd, ar, cr, rfl, hd1, hd2⟩ := dist_row HG.out (HBm.out.kp hkr) hli
              have hdb := hd2 b hbM
              obtain ⟨cb, _, _⟩ := (HOw.out.kp hkr).slotL (mapTo_len _ _) hbM
              rw [mapTo_lget hbM] at cb
              obtain ⟨pb, Hpb⟩ : ∃ z, Hid (pw b = z) := ⟨_, rfl⟩
              obtain ⟨db, Hdb⟩ : ∃ z, Hid (dF F i b = z) := ⟨_, rfl⟩
              have bb := HLo.out.bd HSm.out hbM
              have xb := dF_bd HG.out i b
              rw [Hpb.out] at cb bb hog
              rw [Hdb.out] at hdb xb hog
              have hw1 : IntKind.i64.wrap (db + pb) = db + pb := IntWalk.i64_in _ (by omega)
              have hbI : (b : Int) < (F.op.length : Int) := by omega
              have hliI : (i : Int) < (F.di.length : Int) := by omega
              have ad4 : (⟨wk.heap.size, 0, none⟩ : Addr).add b = ⟨wk.heap.size, b, none⟩ := add0 _ _
              have hn3I : (0 : Int) < (n3 : Int) := by omega
              have Hog := Lib.hid hog
              have HR0 := Lib.hid hd1
              clear hd2 hsn hsm hog
              go_wp2_with fail
              go_quiet (fail)
              go_wp2_with fail
              clear hc3 cb hdb hd1
              obtain ⟨wr1, Hwr1⟩ : ∃ q : World, Hid (q = wr.drewN nq) := ⟨_, rfl⟩
              have hkr1 : Kp wm wr1 := by rw [Hwr1.out]; exact hkr.drewN nq
              have hown1 : Own wr1 wm.heap.size ov (mapTo (fun j => offF F S (mapTo pw F.op.length) j) i) := by rw [Hwr1.out]; exact hown.kp ((Kp.refl wr).drewN nq)
              have HR1 : Hid (wm.cell? (bd.add i) = some (.slice (some ar) F.op.length cr)) := by
                obtain ⟨bd', ar', cr', e1, e2, _⟩ := dist_row HG.out HBm.out hli
                have e3 : bd' = bd := by simpa using e1.symm
                subst e3
                have e4 := (hkr.get e2).symm.trans HR0.out
                show _ = _
                rw [e2]
                simpa using e4
              rw [← Hwr1.out]
              clear Hwr1 hown hkr HR0
              go_loopw [25, 131] (fun bv kv wr => ∃ k : Nat, k ≤ n3 ∧ kv = .int .i64 k ∧ bv = .int .i64 (minTo (offG F S (mapTo pw F.op.length) i) (k - 1)) ∧ Kp wr1 wr) (fun _ kv _ => n3 - (intOf kv).toNat)
              case atStart => exact ⟨0, by omega, rfl, by rw [show minTo (offG F S (mapTo pw F.op.length) i) (0 - 1) = offG F S (mapTo pw F.op.length) i 0 from rfl, Hog.out], Kp.refl _⟩
              case round =>
                clear Hog Hpb Hdb Hb hw1 bb xb hbM hbI ad4 hn3I
                obtain ⟨k, hk, rfl, rfl, hkk⟩ := hrel
                by_cases hlk : k < n3
                · have lk : k < S.length := by rw [Hn3.out]; exact hlk
                  have hc3 := (H3m.out.kp (hkr1.trans hkk)).some_ lk
                  have hsm := HS.out _ (List.getElem_mem lk)
                  have hsn := sN_at lk hsm.1
                  have hbM : sN S k < F.op.length := by omega
                  rw [hsn] at hc3
                  have hog := hOG.out i k _ lk rfl hbM (by rw [lget_at lk]; exact hsm.1)
                  obtain ⟨b, Hb⟩ : ∃ b, Hid (sN S k = b) := ⟨_, rfl⟩
                  rw [Hb.out] at hc3 hbM hog
                  obtain ⟨bd2, ar2, cr2, hbd, hd1, hd2⟩ := dist_row HG.out (HBm.out.kp (hkr1.trans hkk)) hli
                  have e0 : bd2 = bd := by simpa using hbd.symm
                  subst e0
                  have e1 : ar2 = ar := by
                    have := hd1.symm.trans ((hkr1.trans hkk).get HR1.out)
                    simp at this
                    exact this.1
                  subst e1
                  have hdb := hd2 b hbM
                  obtain ⟨cb, _, _⟩ := (HOw.out.kp (hkr1.trans hkk)).slotL (mapTo_len _ _) hbM
                  rw [mapTo_lget hbM] at cb
                  obtain ⟨pb, Hpb⟩ : ∃ z, Hid (pw b = z) := ⟨_, rfl⟩
                  obtain ⟨db, Hdb⟩ : ∃ z, Hid (dF F i b = z) := ⟨_, rfl⟩
                  have bb := HLo.out.bd HSm.out hbM
                  have xb := dF_bd HG.out i b
                  rw [Hpb.out] at cb bb hog
                  rw [Hdb.out] at hdb xb hog
                  have hw1 : IntKind.i64.wrap (db + pb) = db + pb := IntWalk.i64_in _ (by omega)
                  have hbI : (b : Int) < (F.op.length : Int) := by omega
                  have hkI : (k : Int) < (n3 : Int) := by omega
                  have ad4 : (⟨wk.heap.size, 0, none⟩ : Addr).add b = ⟨wk.heap.size, b, none⟩ := add0 _ _
                  have Hmn : Hid (minTo (offG F S (mapTo pw F.op.length) i) (k + 1 - 1) = min (minTo (offG F S (mapTo pw F.op.length) i) (k - 1)) (db + pb)) := by
                    show _ = _
                    rw [← hog]
                    cases k with
                    | zero => show offG F S (mapTo pw F.op.length) i 0 = min (offG F S (mapTo pw F.op.length) i 0) (offG F S (mapTo pw F.op.length) i 0); omega
                    | succ k => rfl
                  obtain ⟨mn, Hm0⟩ : ∃ z, Hid (minTo (offG F S (mapTo pw F.op.length) i) (k - 1) = z) := ⟨_, rfl⟩
                  rw [Hm0.out] at Hmn ⊢
                  clear hd2 hd1 hsn hsm hog hbd
                  go_wp2_with fail
                  go_quiet (fail)
                  go_wp2_with fail
                  go_roundw
                  case rel => exact ⟨k + 1, by omega, by go_num, by rw [Hmn.out]; congr 1; split <;> omega, hkk.trans (by repeat (first | with_reducible assumption | with_reducible exact Kp.refl _ | with_reducible refine Kp.drew ?_ | with_reducible refine Kp.alloc ?_ _ | with_reducible refine Kp.drewN ?_ _ | refine Kp.setCell ?_ (by dsimp only; omega) _))⟩
                  case measure => simp [intOf]; omega
                · obtain rfl : k = n3 := by omega
                  have Hof : Hid (minTo (offG F S (mapTo pw F.op.length) i) (k - 1) = offF F S (mapTo pw F.op.length) i) := by show _ = _; rw [offF, Hn3.out]
                  rw [Hof.out]
                  have hown2 := hown1.kp hkk
                  have hkr2 := hkr1.trans hkk
                  have hlen2 := mapTo_len (fun j => offF F S (mapTo pw F.op.length) j) i
                  have hsu : Hid (mapTo (fun j => offF F S (mapTo pw F.op.length) j) i ++ [offF F S (mapTo pw F.op.length) i] = mapTo (fun j => offF F S (mapTo pw F.op.length) j) (i + 1)) := mapTo_succ' (fun j => offF F S (mapTo pw F.op.length) j) i
                  clear hown1 hkr1 hkk
                  go_wp2_with (at_builtin; go_loud (refine wpl_app rfl (.tmp 147) (.tmp 149) rfl wm.heap.size _ (mapTo (fun j => offF F S (mapTo pw F.op.length) j) i) (offF F S (mapTo pw F.op.length) i) rfl rfl hown2 hkr2.le (by omega) ?_; intro v' w' ho' ht' h4'; have hkb' := hown2.kp_turn hkr2 (Nat.le_refl _) ht'))
                  go_roundw
                  case rel => exact ⟨i + 1, v', by omega, by go_num, rfl, by rw [← hsu.out]; exact ho', hkb'⟩
                  case measure => simp [intOf]; omega
            · obtain rfl : i = F.di.length := by omega
              have HPost : Hid (∃ uv wv, Ending.returned (.tuple #[ov, .slice (some ⟨wk.heap.size, 0, none⟩) F.op.length F.op.length, .bool true]) = .returned (.tuple #[uv, wv, .bool (lfOk F rooms needs S)]) ∧ Own wr w.heap.size uv (lpU F rooms needs S) ∧ Own wr w.heap.size wv (lpW F rooms needs S) ∧ Apart uv wv ∧ Kp w wr) :=
                ⟨_, _, by rw [Hok.out], by rw [HUs.out]; exact hown.mono (by have := HKm.out.le; omega), by rw [HWs.out]; exact (HOw.out.kp hkr).mono (by have := HKw.out.le; omega), fun k hk e => by have h1 := (hown.lt k hk).1; have h2 := slb e; omega, HKm.out.trans hkr⟩
              clear hown hkr
              go_wp2_with fail
              exact bodyPost_ret (v := .tuple #[ov, .slice (some ⟨wk.heap.size, 0, none⟩) F.op.length F.op.length, .bool true]) (by simp [results, Try.results8, go_sem]) rfl HPost.out
        · have hsum := Lib.hid (mapTo_sum_mem how (by omega))
          obtain ⟨s0, Hs0⟩ : ∃ s0, Hid (sumTo pw F.op.length = s0) := ⟨_, rfl⟩
          have htop : Hid (∀ pw, LowPr F.di.length F.op.length (dF F) (fun a => flHas S a) fl pw → sumTo pw F.op.length ≤ 1386) := fun pw h => by
            have := top_sum (M := F.op.length) (w := pw) (fun a ha => (h.bd HSm.out ha).2)
            omega
          rw [Hs0.out] at hsum
          obtain ⟨wo, rfl⟩ : ∃ wo : World, wo = wr := ⟨_, rfl⟩
          have hrose : RoseP F.op.length s0 pw false := ⟨by rw [Hs0.out]; exact Int.le_refl _, fun h => by cases h⟩
          clear HLe Hs0
          go_wp2_with fail
          go_loopw [14, 51] (fun cv iv wr => ∃ (i : Nat) (ch : Bool) (pw : Nat → Int), i ≤ F.di.length ∧ iv = .int .i64 i ∧ cv = .bool ch ∧ Own wr wk.heap.size (.slice (some ⟨wk.heap.size, 0, none⟩) F.op.length F.op.length) (mapTo pw F.op.length) ∧ Hid (LowPr F.di.length F.op.length (dF F) (fun a => flHas S a) fl pw) ∧ Kp wk wr ∧ Hid (PassP F.di.length F.op.length (dF F) S fl pw ch i 0 0) ∧ Hid (RoseP F.op.length s0 pw ch)) (fun _ iv _ => F.di.length - (intOf iv).toNat)
          case atStart => exact ⟨0, false, pw, by omega, rfl, rfl, how, HLo, hkb, PassP.start, hrose⟩
          case round =>
            clear how hkb hrose HLo
            obtain ⟨i, ch, pw, hi, rfl, rfl, how, HLo, hkb, HPa, HRo⟩ := hrel
            by_cases hli : i < F.di.length
            · have hh := (HMt.out.kp hkb).hcell hli
              have adh : (⟨g, 0, none⟩ : Addr).add i = ⟨g, i, none⟩ := add0 _ _
              have hliI : (i : Int) < (F.di.length : Int) := by omega
              go_wp2_with fail
              clear hh
              go_loopw [14, 58] (fun cv av wr => ∃ (a : Nat) (ch : Bool) (pw : Nat → Int), a ≤ F.op.length ∧ av = .int .i64 a ∧ cv = .bool ch ∧ Own wr wk.heap.size (.slice (some ⟨wk.heap.size, 0, none⟩) F.op.length F.op.length) (mapTo pw F.op.length) ∧ Hid (LowPr F.di.length F.op.length (dF F) (fun a => flHas S a) fl pw) ∧ Kp wk wr ∧ Hid (PassP F.di.length F.op.length (dF F) S fl pw ch i a 0) ∧ Hid (RoseP F.op.length s0 pw ch)) (fun _ av _ => F.op.length - (intOf av).toNat)
              case atStart => exact ⟨0, ch, pw, by omega, rfl, rfl, how, HLo, hkb, HPa, HRo⟩
              case round =>
                clear how hkb HPa HRo HLo
                obtain ⟨a, ch, pw, ha, rfl, rfl, how, HLo, hkb, HPa, HRo⟩ := hrel
                by_cases hla : a < F.op.length
                · obtain ⟨hm1, _, _⟩ := (HMt.out.kp hkb).cell hli hla
                  have adr : (⟨Bk i, 0, none⟩ : Addr).add a = ⟨Bk i, a, none⟩ := add0 _ _
                  have ada : (⟨wk.heap.size, 0, none⟩ : Addr).add a = ⟨wk.heap.size, a, none⟩ := add0 _ _
                  have hlaI : (a : Int) < (F.op.length : Int) := by omega
                  obtain ⟨fv, Hfv⟩ : ∃ z, Hid (fl i a = z) := ⟨_, rfl⟩
                  rw [Hfv.out] at hm1
                  go_wp2_with fail
                  clear hm1
                  go_loopw [14, 65] (fun cv kv wr => ∃ (k : Nat) (ch : Bool) (pw : Nat → Int), k ≤ n3 ∧ kv = .int .i64 k ∧ cv = .bool ch ∧ Own wr wk.heap.size (.slice (some ⟨wk.heap.size, 0, none⟩) F.op.length F.op.length) (mapTo pw F.op.length) ∧ Hid (LowPr F.di.length F.op.length (dF F) (fun a => flHas S a) fl pw) ∧ Kp wk wr ∧ Hid (PassP F.di.length F.op.length (dF F) S fl pw ch i a k) ∧ Hid (RoseP F.op.length s0 pw ch)) (fun _ kv _ => n3 - (intOf kv).toNat)
                  case atStart => exact ⟨0, ch, pw, by omega, rfl, rfl, how, HLo, hkb, HPa, HRo⟩
                  case round =>
                    clear how hkb HPa HRo HLo
                    obtain ⟨k, ch, pw, hk, rfl, rfl, how, HLo, hkb, HPa, HRo⟩ := hrel
                    by_cases hlk : k < n3
                    · have lk : k < S.length := by rw [Hn3.out]; exact hlk
                      obtain ⟨ad3, rfl, hc3⟩ := (H3.out.kp hkb).at_ lk
                      have hsm := HS.out _ (List.getElem_mem lk)
                      have hsn := sN_at lk hsm.1
                      have hbM : sN S k < F.op.length := by omega
                      rw [hsn] at hc3
                      obtain ⟨b, Hb⟩ : ∃ b, Hid (sN S k = b) := ⟨_, rfl⟩
                      rw [Hb.out] at hc3 hbM
                      obtain ⟨pa, Hpa⟩ : ∃ z, Hid (pw a = z) := ⟨_, rfl⟩
                      obtain ⟨pb, Hpb⟩ : ∃ z, Hid (pw b = z) := ⟨_, rfl⟩
                      obtain ⟨ca, _, _⟩ := how.slotL (mapTo_len _ _) hla
                      obtain ⟨cb, cbf, cb3⟩ := how.slotL (mapTo_len _ _) hbM
                      rw [mapTo_lget hla, Hpa.out] at ca
                      rw [mapTo_lget hbM, Hpb.out] at cb
                      obtain ⟨bd, ar, cr, rfl, hd1, hd2⟩ := dist_row HG.out (HB.out.kp hkb) hli
                      have hda := hd2 a hla
                      have hdb := hd2 b hbM
                      obtain ⟨da, Hda⟩ : ∃ z, Hid (dF F i a = z) := ⟨_, rfl⟩
                      obtain ⟨db, Hdb⟩ : ∃ z, Hid (dF F i b = z) := ⟨_, rfl⟩
                      rw [Hda.out] at hda
                      rw [Hdb.out] at hdb
                      have ba := HLo.out.bd HSm.out hla
                      have bb := HLo.out.bd HSm.out hbM
                      have xa := dF_bd HG.out i a
                      have xb := dF_bd HG.out i b
                      rw [Hpa.out] at ba
                      rw [Hpb.out] at bb
                      rw [Hda.out] at xa
                      rw [Hdb.out] at xb
                      have z0 := hkb.get b0
                      have z1 := hkb.get b1
                      have hw1 : IntKind.i64.wrap (pa + da) = pa + da := IntWalk.i64_in _ (by omega)
                      have hw2 : IntKind.i64.wrap (pa + da - db) = pa + da - db := IntWalk.i64_in _ (by omega)
                      have hbI : (b : Int) < (F.op.length : Int) := by omega
                      have hkI : (k : Int) < (n3 : Int) := by omega
                      have ad4 : (⟨wk.heap.size, 0, none⟩ : Addr).add b = ⟨wk.heap.size, b, none⟩ := add0 _ _
                      clear hd2 hsn hsm
                      by_cases hf0 : 0 < fv
                      · have g1 : decide (0 < fv) = true := decide_eq_true hf0
                        by_cases hlt : pb < pa + da - db
                        · have g2 : decide (pb < pa + da - db) = true := decide_eq_true hlt
                          have hlt3 : Hid (pw b < pw a + dF F i a - dF F i b) := by show _ < _; rw [Hpa.out, Hpb.out, Hda.out, Hdb.out]; exact hlt
                          have hs3 := HLo.out.step hli hla hbM (by rw [← Hb.out]; exact flHas_iff.2 (by rw [← sN_at lk (HS.out _ (List.getElem_mem lk)).1]; exact List.getElem_mem lk)) (by rw [Hfv.out]; exact hf0) hlt3.out
                          have hr3 := HRo.out.put hbM hlt3.out
                          obtain ⟨o1, t1⟩ := cb3 (pa + da - db)
                          rw [mapTo_set] at o1
                          rw [Hpa.out, Hda.out, Hdb.out] at hs3 hr3
                          have HS3 := Lib.hid hs3
                          have HR3 := Lib.hid hr3
                          clear HPa hs3 hr3 o1 t1 cb3
                          go_wp2_with fail
                          go_quiet (fail)
                          have howq := how.kp ((Kp.refl wr).drewN nq)
                          have hkq := hkb.drewN nq
                          obtain ⟨cq, cqf, cq3⟩ := howq.slotL (mapTo_len _ _) hbM
                          rw [mapTo_lget hbM, Hpb.out] at cq
                          obtain ⟨o1, t1⟩ := cq3 (pa + da - db)
                          rw [mapTo_set] at o1
                          have HO := Lib.hid o1
                          have HK := Lib.hid (hkq.turn t1 (fun k e => by subst e; exact Nat.le_refl _))
                          clear o1 t1 cq3 howq hkq ca cb cbf hda hdb z0 z1 how hkb
                          generalize wr.drewN nq = wq at *
                          go_wp2_with fail
                          go_roundw
                          case rel => exact ⟨k + 1, true, _, by omega, by go_num, rfl, HO.out, HS3, HK.out, PassP.yes, HR3⟩
                          case measure => simp [intOf]; omega
                        · have g2 : decide (pb < pa + da - db) = false := decide_eq_false hlt
                          have HPn := Lib.hid (HPa.out.next (fun h => by rw [Hb.out, Hpa.out, Hpb.out, Hda.out, Hdb.out]; omega))
                          clear HPa
                          go_wp2_with fail
                          go_quiet (fail)
                          go_wp2_with fail
                          go_roundw
                          case rel => exact ⟨k + 1, ch, pw, by omega, by go_num, rfl, how.kp (by repeat (first | with_reducible assumption | with_reducible exact Kp.refl _ | with_reducible refine Kp.drew ?_ | with_reducible refine Kp.alloc ?_ _ | with_reducible refine Kp.drewN ?_ _ | refine Kp.setCell ?_ (by dsimp only; omega) _)), HLo, hkb.trans (by repeat (first | with_reducible assumption | with_reducible exact Kp.refl _ | with_reducible refine Kp.drew ?_ | with_reducible refine Kp.alloc ?_ _ | with_reducible refine Kp.drewN ?_ _ | refine Kp.setCell ?_ (by dsimp only; omega) _)), HPn, HRo⟩
                          case measure => simp [intOf]; omega
                      · have g1 : decide (0 < fv) = false := decide_eq_false hf0
                        have HPn := Lib.hid (HPa.out.next (fun h => by rw [Hfv.out] at h; omega))
                        clear HPa
                        go_wp2_with fail
                        go_quiet (fail)
                        go_wp2_with fail
                        go_roundw
                        case rel => exact ⟨k + 1, ch, pw, by omega, by go_num, rfl, how.kp (by repeat (first | with_reducible assumption | with_reducible exact Kp.refl _ | with_reducible refine Kp.drew ?_ | with_reducible refine Kp.alloc ?_ _ | with_reducible refine Kp.drewN ?_ _ | refine Kp.setCell ?_ (by dsimp only; omega) _)), HLo, hkb.trans (by repeat (first | with_reducible assumption | with_reducible exact Kp.refl _ | with_reducible refine Kp.drew ?_ | with_reducible refine Kp.alloc ?_ _ | with_reducible refine Kp.drewN ?_ _ | refine Kp.setCell ?_ (by dsimp only; omega) _)), HPn, HRo⟩
                        case measure => simp [intOf]; omega
                    · obtain rfl : k = n3 := by omega
                      have HPn := Lib.hid (show PassP F.di.length F.op.length (dF F) S fl pw ch i (a + 1) 0 from PassP.site (by rw [Hn3.out]; exact HPa.out))
                      clear HPa
                      have HOw := Lib.hid how
                      clear how
                      go_wp2_with fail
                      go_roundw
                      case rel => exact ⟨a + 1, ch, pw, by omega, by go_num, rfl, HOw.out, HLo, hkb, HPn, HRo⟩
                      case measure => simp [intOf]; omega
                · obtain rfl : a = F.op.length := by omega
                  have HPn := Lib.hid HPa.out.row
                  clear HPa
                  have HOw := Lib.hid how
                  clear how
                  go_wp2_with fail
                  go_roundw
                  case rel => exact ⟨i + 1, ch, pw, by omega, by go_num, rfl, HOw.out, HLo, hkb, HPn, HRo⟩
                  case measure => simp [intOf]; omega
            · obtain rfl : i = F.di.length := by omega
              have HOw := Lib.hid how
              clear how
              go_wp2_with fail
              go_roundw
              case rel => exact ⟨ch, pw, rfl, HOw.out, HLo, hkb, fun h => by subst h; exact HPa.out.least HLo.out⟩
              case measure =>
                have e1 := mapTo_sum_mem HOw.out (by omega)
                have e2 := HRo.out
                have e3 := hsum.out
                have e4 := htop.out pw HLo.out
                unfold RoseP at e2
                rw [e1, e3]
                generalize sumTo pw F.op.length = s1 at *
                cases ch
                · show 2 * _ + 0 < 2 * _ + 1
                  omega
                · have := e2.2 rfl
                  show 2 * _ + 1 < 2 * _ + 1
                  omega
  · have Hno : Hid (lfOk F rooms needs S = false) := by show _ = _; rw [lfOk, HH.out]; simp; omega
    have C2 := Lib.hid (fun (wx : World) (hx : Kp w1 wx) (caps : Array Value) (hc : Can 49 caps F.di.length F.op.length (openM S) wx) => (C1.out wx hx caps hc).mono (fun e w' hp => flow_no' hp (fun fl hL => by
      have h1 := haul_room hL (fun a => flHas S a) (fun j a _ _ h => h)
      rw [HP.out.rs, HP.out.ns] at h1; omega)))
    clear C1
    have q_q0 := hkz.get q0
    have q_q1 := hkz.get q1
    go_wp2_with fail
    clear q_q0 q_q1
    have q_q0 := hkz.get q0
    have q_q1 := hkz.get q1
    have tok1 : True := trivial
    go_wp2_with fail
    go_region_held3 (fun w' => w'.cell? ⟨w.heap.size, 0, none⟩ = some (.slice A F.op.length c) ∧ w'.cell? ⟨w.heap.size, 1, none⟩ = some (.slice B F.di.length d) ∧ Kp w1 w')
      (first | (refine keepc2 q0 q1 ?_; exact (by repeat (first | with_reducible assumption | with_reducible exact Kp.refl _ | with_reducible refine Kp.drew ?_ | with_reducible refine Kp.alloc ?_ _ | with_reducible refine Kp.drewN ?_ _ | refine Kp.setCell ?_ (by dsimp only; omega) _))) | fail)
      (first
        | (have _t := tok1; go_at_call 23; with_reducible refine Calls.mono (C0.out _ (by repeat (first | with_reducible assumption | with_reducible exact Kp.refl _ | with_reducible refine Kp.drew ?_ | with_reducible refine Kp.alloc ?_ _ | with_reducible refine Kp.drewN ?_ _ | refine Kp.setCell ?_ (by dsimp only; omega) _))) ?_; rintro e wr1 ⟨caps, rfl, hcan, hka⟩; have hr1 : Kp w1 wr1 := Kp.trans (by repeat (first | with_reducible assumption | with_reducible exact Kp.refl _ | with_reducible refine Kp.drew ?_ | with_reducible refine Kp.alloc ?_ _ | with_reducible refine Kp.drewN ?_ _ | refine Kp.setCell ?_ (by dsimp only; omega) _)) hka; have tok2 : True := trivial; clear tok1 _t)
        | (have _t := tok2; go_at_call 26; with_reducible refine Calls.mono (C2.out _ hr1 caps hcan) ?_; rintro e wr2 ⟨rfl, hka⟩; have hr2 : Kp w1 wr2 := Kp.trans (by repeat (first | with_reducible assumption | with_reducible exact Kp.refl _ | with_reducible refine Kp.drew ?_ | with_reducible refine Kp.alloc ?_ _ | with_reducible refine Kp.drewN ?_ _ | refine Kp.setCell ?_ (by dsimp only; omega) _)) hka; have tok3 : True := trivial; clear tok2 _t)
        | fail)
    all_goals
      go_wp2_with fail
      refine bodyPost_ret (v := .tuple #[.slice none 0 0, .slice none 0 0, .bool false]) (by simp [results, Try.results8, go_sem]) rfl ?_
      obtain ⟨e1, e2⟩ := lp_no Hno.out
      exact ⟨_, _, by rw [Hno.out], by rw [e2]; exact Own.nil _ _, by rw [e1]; exact Own.nil _ _, fun k hk => by simp [Value.ownBlock] at hk, (hkw.trans hkb).trans hr2⟩
end Go.Proofs.Ytgdicmeabppngaa

/- WholeFlow: the program's search. No condition. -/
import Derived.Test.YtgdicmeabppngaaQBo
import Derived.StillTailTactics
namespace Go.Proofs.Ytgdicmeabppngaa
open Go.RowKit Go.Sort

theorem own_cap {w : World} {base n c : Nat} {A : Option Addr} {xs : List Int} (h : Own w base (.slice A n c) xs) : n ≤ c := by
  rcases h.2 with ⟨e, h0⟩ | ⟨g, cap, cur, e, hb, hg, h1, _⟩
  · cases e; exact Nat.le_refl _
  · cases e; exact h1
theorem there_some {w : World} {b : Nat} (h : w.there b 0 1) : ∃ x, w.cell? ⟨b, 0, none⟩ = some x ∧ w.frozen? ⟨b, 0, none⟩ = false := by
  obtain ⟨h1, h2⟩ := h 0 (by omega)
  obtain ⟨x, hx⟩ := Option.isSome_iff_exists.1 h1
  exact ⟨x, hx, h2⟩
set_option maxRecDepth 100000 in
set_option maxHeartbeats 4000000 in
theorem whClo (F : Fld) (rooms needs S : List Int) (hP : HaulP F rooms needs S) (w0 : World) (h H X : Nat) (A : Option Addr) (c : Nat) (B : Option Addr) (d : Nat) (A2 : Option Addr) (n2 c2 : Nat) (A3 : Option Addr) (n3 c3 g cl : Nat) (hf : FldAt w0 (.agg #[(.slice A F.op.length c), (.slice B F.di.length d)]) F) (h2 : IntsAt w0 A2 needs) (hn2 : needs.length = n2) (h3 : IntsAt w0 A3 S) (hn3 : S.length = n3) :
    ∀ (n k : Nat) (begun xs : List Int) (cost : Int) (best : Option (List Int × Int)) (gl cll : Nat) (vb : Value) (w : World), begun.length = k → k + n = F.di.length → 0 ≤ cost → cost + 495 * (n : Int) ≤ 1000000 → (∀ a, 0 ≤ lget xs a ∧ lget xs a ≤ 20) → WhOk F.di.length best →
    WhS w0 w h H X (.slice A F.op.length c) (.slice B F.di.length d) (.slice A2 n2 c2) (.slice A3 n3 c3) (.func (.func 33) #[] #[.pointer (some ⟨h + 1, 0, none⟩), .pointer (some ⟨H + 2, 0, none⟩), .pointer (some ⟨H + 1, 0, none⟩), .pointer (some ⟨X, 0, none⟩), .pointer (some ⟨H, 0, none⟩), .pointer (some ⟨h + 2, 0, none⟩), .pointer (some ⟨X + 1, 0, none⟩), .pointer (some ⟨X + 2, 0, none⟩), .pointer (some ⟨h, 0, none⟩)]) g F.op.length cl (.slice (some ⟨gl, 0, none⟩) k cll) vb begun xs (whV1 best) (whV2 best) (whV3 best) →
    Calls Try.prog 33 #[.int .i64 (k : Int), .int .i64 cost, .pointer (some ⟨h + 1, 0, none⟩), .pointer (some ⟨H + 2, 0, none⟩), .pointer (some ⟨H + 1, 0, none⟩), .pointer (some ⟨X, 0, none⟩), .pointer (some ⟨H, 0, none⟩), .pointer (some ⟨h + 2, 0, none⟩), .pointer (some ⟨X + 1, 0, none⟩), .pointer (some ⟨X + 2, 0, none⟩), .pointer (some ⟨h, 0, none⟩)] w (WhPost w0 h H X (.slice A F.op.length c) (.slice B F.di.length d) (.slice A2 n2 c2) (.slice A3 n3 c3) (.func (.func 33) #[] #[.pointer (some ⟨h + 1, 0, none⟩), .pointer (some ⟨H + 2, 0, none⟩), .pointer (some ⟨H + 1, 0, none⟩), .pointer (some ⟨X, 0, none⟩), .pointer (some ⟨H, 0, none⟩), .pointer (some ⟨h + 2, 0, none⟩), .pointer (some ⟨X + 1, 0, none⟩), .pointer (some ⟨X + 2, 0, none⟩), .pointer (some ⟨h, 0, none⟩)]) g F.op.length cl k begun xs (whGo F needs S false n (lget xs) begun cost best)) := by
  intro n
  have HJn : Hid (n2 = F.di.length) := by show _ = _; rw [← hn2, hP.nl]
  have h8 := (goodF_iff.1 hP.good).2.2.1
  induction n with
  | zero =>
    intro k begun xs cost best gl cll vb w hk hkn hc0 hc1 hx hok q
    obtain rfl : k = n2 := by have := HJn.out; omega
    cases best with
    | none => exact whEnd_new w0 w h H X _ _ _ _ A2 k c2 g _ cl gl cll vb begun xs [] cost 0 false (fun e => by cases e) hk (by have := HJn.out; omega) q
    | some p =>
      obtain ⟨l, c0⟩ := p
      by_cases hcc : c0 ≤ cost
      · rw [show whGo F needs S false 0 (lget xs) begun cost (some (l, c0)) = some (l, c0) from if_pos hcc]
        exact whEnd_old w0 w h H X _ _ _ _ A2 k c2 g _ cl gl cll vb begun xs l cost c0 hcc q
      · rw [show whGo F needs S false 0 (lget xs) begun cost (some (l, c0)) = some (begun, cost) from if_neg hcc]
        exact whEnd_new w0 w h H X _ _ _ _ A2 k c2 g _ cl gl cll vb begun xs l cost c0 true (fun _ => by omega) hk (by have := HJn.out; omega) q
  | succ n ih =>
    intro k begun xs cost best gl cll vb w hk hkn hc0 hc1 hx hok q
    rw [whGo_no]
    have h7 := (goodF_iff.1 hP.good).1
    obtain ⟨A0_, c_, B0_, d_, e_, hA, hB⟩ := hf
    obtain ⟨⟨rfl, rfl⟩, rfl, rfl⟩ : (A = A0_ ∧ c = c_) ∧ B = B0_ ∧ d = d_ := by simpa using e_
    clear e_ hA
    obtain ⟨T, HT⟩ : ∃ T : Nat → Option (List Int × Int), Hid (∀ k, whTo F needs S false n (lget xs) begun cost best k = T k) := ⟨_, fun _ => rfl⟩
    have HT0 : Hid (T 0 = best) := by show _ = _; rw [← HT.out 0]; rfl
    have HTe : Hid (whTo F needs S false n (lget xs) begun cost best S.length = T n3) := by show _ = _; rw [HT.out, hn3]
    have IH := Lib.hid ih
    have HP := Lib.hid hP
    have H2 := Lib.hid h2; have H3 := Lib.hid h3; have HB := Lib.hid hB; have Hn2 := Lib.hid hn2; have Hn3 := Lib.hid hn3
    have Hk := Lib.hid hk; have Hkn := Lib.hid hkn; have Hc0 := Lib.hid hc0; have Hc1 := Lib.hid hc1; have Hx := Lib.hid hx
    have hkJ : k < F.di.length := by omega
    have hk2 : (k : Int) < (n2 : Int) := by have := HJn.out; omega
    have hkb : ((k : Int) == (n2 : Int)) = false := by rw [beq_eq_false_iff_ne]; omega
    have hm3 : n3 ≤ 9223372036854775807 := hn3 ▸ h3.1
    have HR := Lib.hid (fun (w' : World) (gl' cll' : Nat) (vb' : Value) (hq : WhS w0 w' h H X (.slice A F.op.length c) (.slice B F.di.length d) (.slice A2 n2 c2) (.slice A3 n3 c3) (.func (.func 33) #[] #[.pointer (some ⟨h + 1, 0, none⟩), .pointer (some ⟨H + 2, 0, none⟩), .pointer (some ⟨H + 1, 0, none⟩), .pointer (some ⟨X, 0, none⟩), .pointer (some ⟨H, 0, none⟩), .pointer (some ⟨h + 2, 0, none⟩), .pointer (some ⟨X + 1, 0, none⟩), .pointer (some ⟨X + 2, 0, none⟩), .pointer (some ⟨h, 0, none⟩)]) g F.op.length cl (.slice (some ⟨gl', 0, none⟩) k cll') vb' begun xs (whV1 (T n3)) (whV2 (T n3)) (whV3 (T n3))) => (show WhPost w0 h H X (.slice A F.op.length c) (.slice B F.di.length d) (.slice A2 n2 c2) (.slice A3 n3 c3) (.func (.func 33) #[] #[.pointer (some ⟨h + 1, 0, none⟩), .pointer (some ⟨H + 2, 0, none⟩), .pointer (some ⟨H + 1, 0, none⟩), .pointer (some ⟨X, 0, none⟩), .pointer (some ⟨H, 0, none⟩), .pointer (some ⟨h + 2, 0, none⟩), .pointer (some ⟨X + 1, 0, none⟩), .pointer (some ⟨X + 2, 0, none⟩), .pointer (some ⟨h, 0, none⟩)]) g F.op.length cl k begun xs (whTo F needs S false n (lget xs) begun cost best S.length) (.returned (.tuple #[])) w' from by rw [HTe.out]; exact ⟨rfl, gl', cll', vb', hq⟩))
    have Q := Lib.hid q
    have Hok := Lib.hid hok
    have hcf := callFunc_of Try.func33 (by kernel_rfl) (by kernel_rfl)
    have x1 := q.n0; have x2 := q.s0
    clear q hok ih hP h2 h3 hB hn2 hn3 hk hkn hc0 hc1 hx
    go_enter Try.func33, Try.ntmps33
    go_wp2_with fail
    go_loopw [31] (fun iv wr => ∃ (i gl cll : Nat) (vb : Value), i ≤ n3 ∧ iv = .int .i64 i ∧ WhS w0 wr h H X (.slice A F.op.length c) (.slice B F.di.length d) (.slice A2 n2 c2) (.slice A3 n3 c3) (.func (.func 33) #[] #[.pointer (some ⟨h + 1, 0, none⟩), .pointer (some ⟨H + 2, 0, none⟩), .pointer (some ⟨H + 1, 0, none⟩), .pointer (some ⟨X, 0, none⟩), .pointer (some ⟨H, 0, none⟩), .pointer (some ⟨h + 2, 0, none⟩), .pointer (some ⟨X + 1, 0, none⟩), .pointer (some ⟨X + 2, 0, none⟩), .pointer (some ⟨h, 0, none⟩)]) g F.op.length cl (.slice (some ⟨gl, 0, none⟩) k cll) vb begun xs (whV1 (T i)) (whV2 (T i)) (whV3 (T i)) ∧ Hid (WhOk F.di.length (T i))) (fun iv _ => n3 - (intOf iv).toNat)
    case atStart => exact ⟨0, gl, cll, vb, by omega, rfl, by rw [HT0.out]; exact Q.out, by rw [HT0.out]; exact Hok⟩
    case round =>
      clear Q Hok x1 x2 HT0
      obtain ⟨i, gl, cll, vb, hi, rfl, hst, HOk⟩ := hrel
      by_cases hli : i < n3
      · have lx : i < S.length := by rw [Hn3.out]; exact hli
        obtain ⟨ad3, rfl, hd3⟩ := (H3.out.kp hst.kp).at_ lx
        have hmem := set_mem HP.out.set_ _ (List.getElem_mem lx)
        obtain ⟨s, hs⟩ := Int.eq_ofNat_of_zero_le hmem.1
        have hsM : s < F.op.length := by omega
        have hsI : (s : Int) < (F.op.length : Int) := by omega
        have lr : s < xs.length := by rw [hst.ml]; exact hsM
        obtain ⟨hd1, hd1f, hd1p⟩ := hst.oe.slotL hst.ml hsM
        have ln : k < needs.length := by rw [HP.out.nl]; exact hkJ
        obtain ⟨ad2, rfl, hd2⟩ := (H2.out.kp hst.kp).at_ ln
        rw [← lget_at ln] at hd2
        have hTs := HT.out (i + 1)
        rw [whTo_succ lx, HT.out i, hs, Int.toNat_natCast, Hk.out] at hTs
        rw [hs] at hd3
        have hliI : (i : Int) < (n3 : Int) := by omega
        obtain ⟨bd, ar, cr, rfl, hr1, hr2⟩ := dist_row HP.out.good (HB.out.kp hst.kp) hkJ
        have hr3 := hr2 s hsM
        have Hr1 := Lib.hid (fun (wx : World) (hx : Kp w0 wx) => dist_row HP.out.good (HB.out.kp hx) hkJ)
        have b1 := HP.out.nb k
        have b2 := Hx.out s
        have b3 := dAt_bd HP.out.good hkJ (s : Int)
        have b4 : 0 ≤ lget needs k * dF F k s ∧ lget needs k * dF F k s ≤ 495 := prod_bd b1.1 b1.2 b3.1 b3.2
        obtain ⟨rv, Hrv⟩ : ∃ z, Hid (lget xs s = z) := ⟨_, rfl⟩
        obtain ⟨nv, Hnv⟩ : ∃ z, Hid (lget needs k = z) := ⟨_, rfl⟩
        obtain ⟨dv, Hdv⟩ : ∃ z, Hid (dF F k s = z) := ⟨_, rfl⟩
        rw [Hrv.out] at hd1 hTs b2
        rw [Hnv.out] at hd2 hTs b1 b4
        rw [Hdv.out] at hr3 b4
        have hTs2 := Lib.hid hTs
        have HST := Lib.hid hst
        have ad : (⟨g, 0, none⟩ : Addr).add s = ⟨g, s, none⟩ := add0 _ _
        have x1 := hst.n0; have x2 := hst.s0; have x3 := hst.t0; have x4 := hst.i0
        have Hd1p := Lib.hid hd1p
        clear hr2 hTs hmem hs hst b3 hd1p
        by_cases hlt : rv < nv
        · have hgt : decide (rv < nv) = true := decide_eq_true hlt
          have HTn : Hid (T (i + 1) = T i) := by show _ = _; rw [← hTs2.out, if_pos hlt]
          have HS2 := Lib.hid (HST.out.go (Kp.refl _).drew)
          clear hTs2
          go_wp2_with fail
          go_region
          (try go_wp2_with fail)
          go_roundw
          case rel => exact ⟨i + 1, gl, cll, vb, by omega, by go_num, by rw [HTn.out]; first | exact HS2.out | exact HST.out, by rw [HTn.out]; exact HOk⟩
          case measure => simp [intOf]; omega
        · have hgt : decide (rv < nv) = false := decide_eq_false hlt
          have hge : nv ≤ rv := by omega
          have HTn : Hid (T (i + 1) = whGo F needs S false n (lget (xs.set s (rv - nv))) (begun ++ [(s : Int)]) (cost + nv * dv) (T i)) := by
            show _ = _
            rw [← hTs2.out, if_neg hlt, show whAdd F needs k (s : Int) = nv * dv from by unfold whAdd; rw [Hnv.out]; exact congrArg _ Hdv.out, show lget (xs.set s (rv - nv)) = upd (lget xs) s (rv - nv) from by funext a; rw [lget_set lr]; rfl]
          clear hTs2 hlt
          go_wp2_with fail
          go_region
          generalize hwq : wr.drew = wq at *
          have hkq : Kp wr wq := by rw [← hwq]; exact (Kp.refl wr).drew
          have Q1 := Lib.hid (HST.out.go hkq)
          clear hwq
          have y1 := Q1.out.i0
          have hszq : H + 3 ≤ wq.heap.size := by have := World.block_lt_of_cell? _ _ y1; have := Q1.out.o1; dsimp only at *; omega
          go_wp2_with (at_builtin; go_loud (refine wpl_app rfl (.tmp 44) (.tmp 46) rfl (H + 3) _ begun (s : Int) rfl rfl Q1.out.ol hszq (by rw [Hk.out]; omega) ?_; intro v' w1 ho1 ht1 h41; obtain ⟨gx, cx, rfl⟩ := Own.at0 ho1 (n := k + 1) (by rw [List.length_append, Hk.out]; rfl) (by omega); have P1 := Lib.hid (Q1.out.turn ho1 ht1 h41); obtain ⟨z0, z1, z2⟩ := there_some P1.out.1))
          have Q2 := Lib.hid P1.out.2
          have hkz := ht1
          clear P1 Q1 z1 z2 y1 ho1 h41 ht1 hkz HST
          generalize w1.setCell ⟨X, 0, none⟩ (.slice (some ⟨gx, 0, none⟩) (k + 1) cx) = w2 at *
          have y1 := Q2.out.n0; have y2 := Q2.out.t0
          obtain ⟨y3, y3f, -⟩ := Q2.out.oe.slotL Q2.out.ml hsM
          obtain ⟨ae, e_, y4⟩ := (H2.out.kp Q2.out.kp).at_ ln
          obtain rfl : ad2 = ae := by simpa using e_
          rw [← lget_at ln, Hnv.out] at y4
          rw [Hrv.out] at y3
          go_wp2_with fail
          go_region
          have Q3 := Lib.hid ((Q2.out.left hsM (rv - nv)).go (Kp.refl _).drew)
          clear Q2 y1 y2 y3 y3f y4 e_
          generalize (w2.setCell ⟨g, s, none⟩ (.int .i64 (rv - nv))).drew = w3 at *
          have hcl := Hc0.out
          have hch := Hc1.out
          push_cast at hch
          have hch2 : cost + nv * dv + 495 * (n : Int) ≤ 1000000 := by omega
          have hch3 : cost ≤ 1000000 := by omega
          have C3 := Lib.hid (fun (wx : World) (hx : Kp w3 wx) => IH.out (k + 1) (begun ++ [(s : Int)]) (xs.set s (rv - nv)) (cost + nv * dv) (T i) gx cx vb wx (by rw [List.length_append, Hk.out]; rfl) (by have := Hkn.out; omega) (by omega) hch2 (fun a => by
            rw [lget_set lr]
            by_cases e : a = s
            · rw [if_pos e]; omega
            · rw [if_neg e]; exact Hx.out a) HOk.out (Q3.out.go hx))
          rw [← HTn.out] at C3
          have y1 := Q3.out.n0; have y2 := Q3.out.r0; have y3 := Q3.out.f1
          obtain ⟨ae, e_, y4⟩ := (H2.out.kp Q3.out.kp).at_ ln
          obtain rfl : ad2 = ae := by simpa using e_
          rw [← lget_at ln, Hnv.out] at y4
          obtain ⟨be, are, cre, e2_, y5, y6⟩ := Hr1.out _ Q3.out.kp
          obtain rfl : bd = be := by simpa using e2_
          have y7 := y6 s hsM
          rw [Hdv.out] at y7
          clear e_ e2_ y6
          rw [show (((k + 1 : Nat)) : Int) = (k : Int) + 1 from by push_cast; rfl] at C3
          go_wp2_with fail
          go_still_tail 18, (by kernel_rfl)
          change wpList _ _ _ _ _ w3.drew
          have hk4 : Kp w3 w3.drew := (Kp.refl w3).drew
          generalize w3.drew = w4 at *
          go_wp2_with fail
          with_reducible refine Calls.mono (C3.out _ hk4) ?_
          rintro e w5 ⟨rfl, gy, cy, vb5, hq5⟩
          have Q5 := Lib.hid hq5
          clear C3 Q3 hq5 y1 y2 y3 y4 y5 y7 hk4
          have y1 := Q5.out.n0; have y2 := Q5.out.t0; have y8 := Q5.out.i0
          obtain ⟨y3, y3f, -⟩ := Q5.out.oe.slotL Q5.out.ml hsM
          rw [show lget (xs.set s (rv - nv)) s = rv - nv from by rw [lget_set lr, if_pos rfl]] at y3
          obtain ⟨ae, e_, y4⟩ := (H2.out.kp Q5.out.kp).at_ ln
          obtain rfl : ad2 = ae := by simpa using e_
          rw [← lget_at ln, Hnv.out] at y4
          clear e_
          have hsum : rv - nv + nv = rv := by omega
          go_wp2_with fail
          go_region
          have hxs : (xs.set s (rv - nv)).set s rv = xs := by
            rw [List.set_set, ← Hrv.out, lget_at lr, List.set_getElem_self]
          have hq6 := (Q5.out.left hsM rv).go (Kp.refl _).drew
          rw [hxs] at hq6
          have Q6 := Lib.hid hq6
          clear Q5 y1 y2 y3 y3f y4 y8 hq6 hxs
          generalize (w5.setCell ⟨g, s, none⟩ (.int .i64 rv)).drew = w6 at *
          have y1 := Q6.out.i0
          obtain ⟨y2, -, y2f⟩ := there_some Q6.out.it
          have hcap := own_cap Q6.out.ol
          have hcapI : (k : Int) + 1 ≤ (cy : Int) := by omega
          have Q7 := Lib.hid (Q6.out.put (Own.cut Q6.out.ol Hk.out) Q6.out.a1 Q6.out.a3)
          go_wp2_with fail
          refine ⟨⟨i + 1, gy, cy, vb5, by omega, by go_num, Q7.out, by
            show WhOk _ _
            rw [HTn.out]
            exact wh_ok (fun j a => whAdd_bd HP.out.good HP.out.nb j a) n _ _ _ _ _ (by rw [List.length_append, Hk.out]; simp; have := Hkn.out; omega) (by omega) hch2 HOk.out⟩, ?_⟩
          simp [intOf]; omega
      · obtain rfl : i = n3 := by omega
        have HST := Lib.hid hst
        clear hst
        go_wp2_with fail
        first
          | go_end0
          | ((try simp only [Exit.inBlock, Exit.then]); refine bodyPost_ret (results_none rfl _ _ _) rfl ?_)
        exact HR.out _ gl cll vb HST.out
end Go.Proofs.Ytgdicmeabppngaa

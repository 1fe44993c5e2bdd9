/- The reference's flows: LeastFlowCost, CanServe; LeastFlowCost and CanServe: the reference's, and CanServe: the program's; l1Least; Flow prices: plain words; the reference's walks; Flow prices: which lists are such, and their yield; reference and program; Flow prices: the program's test; the yield, by reference and program; IsFlowProof: the yield; reference and program. No condition. -/
import Derived.Test.YtgdicmeabppngaaQAr
import Derived.Test.YtgdicmeabppngaaQAh
import Derived.Test.YtgdicmeabppngaaQAq
import Derived.Test.YtgdicmeabppngaaQAa
namespace Go.Proofs.Ytgdicmeabppngaa
open Go.RowKit Go.Sort

theorem small_sum : ∀ (L : List Int), (∀ x ∈ L, 0 ≤ x ∧ x ≤ 1000) → 0 ≤ L.sum ∧ L.sum ≤ 1000 * (L.length : Int)
  | [], _ => by simp
  | x :: L, h => by
    have h1 := h x (by simp)
    have h2 := small_sum L (fun y hy => h y (by simp [hy]))
    simp only [List.sum_cons, List.length_cons]
    omega
theorem small_take {L : List Int} (h : ∀ x ∈ L, 0 ≤ x ∧ x ≤ 1000) (hl : L.length ≤ 1000) (k : Nat) (_ : k ≤ L.length) : -1000000000 ≤ (L.take k).sum ∧ (L.take k).sum ≤ 1000000000 := by
  have h1 := small_sum (L.take k) (fun x hx => h x (List.mem_of_mem_take hx))
  have h2 : (L.take k).length ≤ 1000 := by rw [List.length_take]; omega
  omega
set_option maxRecDepth 100000 in
set_option maxHeartbeats 1000000 in
theorem l7Can_any (f : Value) (F : Fld) (A1 : Option Addr) (rooms : List Int) (n1 c1 : Nat) (A2 : Option Addr) (needs : List Int) (n2 c2 : Nat) (A3 : Option Addr) (S : List Int) (n3 c3 : Nat) (w : World) (hf : FldAt w f F) (h1 : IntsAt w A1 rooms) (hn1 : rooms.length = n1) (h2 : IntsAt w A2 needs) (hn2 : needs.length = n2) (h3 : IntsAt w A3 S) (hn3 : S.length = n3) :
    Calls Try.prog 28 #[f, .slice A1 n1 c1, .slice A2 n2 c2, .slice A3 n3 c3] w fun e w' => e = .returned (.bool (lfOk F rooms needs S)) ∧ Kp w w' := by
  obtain ⟨A, c, B, d, rfl, hA, hB⟩ := hf
  have hk0 : Kp w (w.alloc (.cells #[.slice A F.op.length c, .slice B F.di.length d] 27)) := (Kp.refl w).alloc _
  obtain ⟨d0, d1⟩ := box2 w (.slice A F.op.length c) (.slice B F.di.length d) 27
  have hFA := FldAt.kp (show FldAt w (.agg #[.slice A F.op.length c, .slice B F.di.length d]) F from ⟨A, c, B, d, rfl, hA, hB⟩) hk0
  replace h1 := h1.kp hk0
  replace h2 := h2.kp hk0
  replace h3 := h3.kp hk0
  have Hn1 := Lib.hid hn1; have Hn2 := Lib.hid hn2; have Hn3 := Lib.hid hn3
  clear hA hB hn1 hn2 hn3
  go_enter Try.func28, Try.ntmps28
  go_wp2_with fail
  have hsz : Hid ((w.alloc (.cells #[.slice A F.op.length c, .slice B F.di.length d] 27)).heap.size = w.heap.size + 1) := by show _ = _; simp
  generalize w.alloc (.cells #[.slice A F.op.length c, .slice B F.di.length d] 27) = wb at *
  have hkb : Kp wb wb := Kp.refl _
  have hkw := hk0
  have CC := Lib.hid (l7Given_any _ F A1 rooms n1 c1 A2 needs n2 c2 A3 S n3 c3 _ (hFA.kp hkb) (h1.kp hkb) Hn1.out (h2.kp hkb) Hn2.out (h3.kp hkb) Hn3.out)
  with_reducible refine Calls.mono CC.out ?_
  rintro e w1 ⟨rfl, hk1⟩
  clear CC
  replace hkb := hkb.trans hk1
  cases hh_ : haulB F rooms needs S
  · have Hno : Hid (lfOk F rooms needs S = false) := by show _ = _; rw [lfOk, hh_]; rfl
    clear hh_
    have q_d0 := hkb.get d0
    have q_d1 := hkb.get d1
    go_wp2_with fail
    go_ret
    exact ⟨ret_bool Hno.out.symm, hkw.trans hkb⟩
  have HH := Lib.hid hh_
  have HP := Lib.hid (haul_p hh_)
  have HQ := Lib.hid (haulB_iff.1 hh_)
  clear hh_
  have h8 := (goodF_iff.1 HP.out.good).2.2.1
  have h7 := (goodF_iff.1 HP.out.good).1
  have hl3 : n3 ≤ 7 := by have := bitsL_len F.op.length (bagN S); rw [set_bits HP.out.set_, Hn3.out] at this; omega
  have hlen2 : needs.length ≤ 1000 := by have := HP.out.nl; omega
  have q_d0 := hkb.get d0
  have q_d1 := hkb.get d1
  go_wp2_with fail
  have CC := Lib.hid (l3Sum_any A2 needs n2 c2 _ (h2.kp hkb) Hn2.out (fun k hk => small_take (fun x hx => by have := HQ.out.2.2.1 x hx; omega) hlen2 k (by rw [Hn2.out]; exact hk)) (fun x hx => by have := HQ.out.2.2.1 x hx; omega))
  with_reducible refine Calls.mono CC.out ?_
  rintro e w2 ⟨rfl, hw⟩
  obtain rfl := hw
  clear CC q_d0 q_d1
  have q_d0 := hkb.get d0
  have q_d1 := hkb.get d1
  go_wp2_with fail
  have CC := Lib.hid (l7Room_any A1 rooms n1 c1 A3 S n3 c3 20 _ (h1.kp hkb) Hn1.out (h3.kp hkb) Hn3.out (fun x hx => by have := set_mem HP.out.set_ x hx; have := HP.out.rl; have := Hn1.out; omega) hl3 (by omega) (by omega) (fun x hx => by have := HQ.out.2.1.1 x hx; omega))
  with_reducible refine Calls.mono CC.out ?_
  rintro e w3 ⟨rfl, hw⟩
  obtain rfl := hw
  clear CC q_d0 q_d1
  have q_d0 := hkb.get d0
  have q_d1 := hkb.get d1
  go_wp2_with fail
  go_ret
  exact ⟨ret_bool (by rw [lfOk, HH.out]; rfl), hkw.trans hkb⟩
def AnyPost (w : World) (J M : Nat) (d : Nat → Nat → Int) (may : Nat → Nat → Bool) (nd rm : Nat → Int) (e : Ending) (w' : World) : Prop :=
  ∃ (L : NetL) (nl lf : Nat → Int) (fl : Nat → Nat → Int), e = .returned (.slice L.fA J L.cf) ∧ NetS w' w.heap.size L J M nl lf fl may ∧ NetN J M d may rm nd nl lf fl ∧ ((∀ j, j < J → nl j = 0) ∨ ((∃ j, j < J ∧ nl j ≠ 0) ∧ ∀ x, ¬ Haul J M may nd rm x)) ∧ Kp w w'
theorem NetN.zero {F : Fld} {rooms needs S : List Int} {may : Nat → Nat → Bool} (hP : HaulP F rooms needs S) : NetN F.di.length F.op.length (dF F) may (startR S rooms) (lget needs) (lget needs) (startR S rooms) (fun _ _ => 0) := by
  have hz : ∀ i, rowS F.op.length (fun _ _ => (0 : Int)) i = 0 := fun i => sumTo_c0 _
  refine ⟨Net.zero (fun j a => (dF_bd hP.good j a).1) (fun x _ => ?_), fun j _ => by rw [hz]; omega, fun j => by have := hP.nb j; omega⟩
  unfold startR; have := hP.rb x; split <;> omega
set_option maxRecDepth 100000 in
set_option maxHeartbeats 1000000 in
theorem l7Any_any (f : Value) (F : Fld) (A1 : Option Addr) (rooms : List Int) (n1 c1 : Nat) (A2 : Option Addr) (needs : List Int) (n2 c2 : Nat) (A3 : Option Addr) (S : List Int) (n3 c3 : Nat) (w : World) (hf : FldAt w f F) (h1 : IntsAt w A1 rooms) (hn1 : rooms.length = n1) (h2 : IntsAt w A2 needs) (hn2 : needs.length = n2) (h3 : IntsAt w A3 S) (hn3 : S.length = n3) (hP : HaulP F rooms needs S) :
    Calls Try.prog 31 #[f, .slice A1 n1 c1, .slice A2 n2 c2, .slice A3 n3 c3] w (AnyPost w F.di.length F.op.length (dF F) (startM F S 99) (lget needs) (startR S rooms)) := by
  obtain ⟨A, c, B, d, rfl, hA, hB⟩ := hf
  have hk0 : Kp w (w.alloc (.cells #[.slice A F.op.length c, .slice B F.di.length d] 27)) := (Kp.refl w).alloc _
  obtain ⟨d0, d1⟩ := box2 w (.slice A F.op.length c) (.slice B F.di.length d) 27
  have hFA := FldAt.kp (show FldAt w (.agg #[.slice A F.op.length c, .slice B F.di.length d]) F from ⟨A, c, B, d, rfl, hA, hB⟩) hk0
  have h8 := (goodF_iff.1 hP.good).2.2.1
  have h7 := (goodF_iff.1 hP.good).1
  have HP := Lib.hid hP
  have C0 := Lib.hid (fun (wx : World) (hx : Kp (w.alloc (.cells #[.slice A F.op.length c, .slice B F.di.length d] 27)) wx) => l7Start_any _ F A1 rooms n1 c1 A2 needs n2 c2 A3 S n3 c3 99 wx (hFA.kp hx) hP.good (h1.kp (hk0.trans hx)) hn1 (h2.kp (hk0.trans hx)) hn2 (h3.kp (hk0.trans hx)) hn3 (by rw [← hn1]; exact hP.rl) (by rw [← hn2]; exact hP.nl) (fun x hx => by have := set_mem hP.set_ x hx; omega))
  have C1 := Lib.hid (fun (wx wy : World) (L : NetL) (h0 : Kp (w.alloc (.cells #[.slice A F.op.length c, .slice B F.di.length d] 27)) wx) (hxy : Kp wx wy) (hn : NetS wy wx.heap.size L F.di.length F.op.length (lget needs) (startR S rooms) (fun _ _ => 0) (startM F S 99)) =>
    (l7Fill_any _ F L (lget needs) (startR S rooms) (startR S rooms) (lget needs) (fun _ _ => 0) (startM F S 99) wx.heap.size wx wy (hFA.kp h0) hxy (Nat.le_refl _) hxy.le hP.good hn (NetN.zero hP) (fun x _ => by unfold startR; have := hP.rb x; split <;> omega)).mono (fun e w' hp => by
      obtain ⟨nl, lf, fl, he, hN2, hNn, hor, ht⟩ := hp
      exact (⟨nl, lf, fl, he, hN2.mono (by have := hk0.le; have := h0.le; omega), hNn, hor, hxy.turn ht (fun i hi => hi.1)⟩ : ∃ (nl lf : Nat → Int) (fl : Nat → Nat → Int), e = .returned (.agg #[.slice L.nA F.di.length L.cn, .slice (some ⟨L.gr, 0, none⟩) F.op.length L.cr, .slice L.fA F.di.length L.cf, .slice L.mA F.di.length L.cm]) ∧ NetS w' w.heap.size L F.di.length F.op.length nl lf fl (startM F S 99) ∧ NetN F.di.length F.op.length (dF F) (startM F S 99) (startR S rooms) (lget needs) nl lf fl ∧ ((∀ j, j < F.di.length → nl j = 0) ∨ ((∃ j, j < F.di.length ∧ nl j ≠ 0) ∧ ∀ x, ¬ Haul F.di.length F.op.length (startM F S 99) (lget needs) (startR S rooms) x)) ∧ Kp wx w')))
  have hfd : ∀ (w : World) (a b c d : Option Addr) (p q u v x y s t : Nat), Sem.run Try.prog (Instr.field 83 (.agg #[.slice a p q, .slice b u v, .slice c x y, .slice d s t]) 2) w = .ok (  .slice c x y) w := fun _ _ _ _ _ _ _ _ _ _ _ _ _ => by kernel_rfl
  clear hA hB hn1 hn2 hn3 h1 h2 h3 hP
  go_enter Try.func31, Try.ntmps31
  go_wp2_with fail
  have hsz : Hid ((w.alloc (.cells #[.slice A F.op.length c, .slice B F.di.length d] 27)).heap.size = w.heap.size + 1) := by show _ = _; simp
  generalize w.alloc (.cells #[.slice A F.op.length c, .slice B F.di.length d] 27) = wb at *
  have hkb : Kp wb wb := Kp.refl _
  have hkw := hk0
  have q_d0 := hkb.get d0
  have q_d1 := hkb.get d1
  have tok1 : True := trivial
  go_wp2_with fail
  go_region_held3 (fun w' => w'.cell? ⟨w.heap.size, 0, none⟩ = some (.slice A F.op.length c) ∧ w'.cell? ⟨w.heap.size, 1, none⟩ = some (.slice B F.di.length d) ∧ Kp wb w')
    (first | (refine keepc2 d0 d1 ?_; exact (by repeat (first | with_reducible assumption | with_reducible exact Kp.refl _ | with_reducible refine Kp.drew ?_ | with_reducible refine Kp.alloc ?_ _ | with_reducible refine Kp.drewN ?_ _ | refine Kp.setCell ?_ (by dsimp only; omega) _))) | fail)
    (first
      | (have _t := tok1; go_at_call 58; with_reducible refine Calls.mono (C0.out _ (by repeat (first | with_reducible assumption | with_reducible exact Kp.refl _ | with_reducible refine Kp.drew ?_ | with_reducible refine Kp.alloc ?_ _ | with_reducible refine Kp.drewN ?_ _ | refine Kp.setCell ?_ (by dsimp only; omega) _))) ?_; rintro e wr1 ⟨L, rfl, hn, hka⟩; have hr1 : Kp wb wr1 := Kp.trans (by repeat (first | with_reducible assumption | with_reducible exact Kp.refl _ | with_reducible refine Kp.drew ?_ | with_reducible refine Kp.alloc ?_ _ | with_reducible refine Kp.drewN ?_ _ | refine Kp.setCell ?_ (by dsimp only; omega) _)) hka; have tok2 : True := trivial; clear tok1 _t)
      | (have _t := tok2; go_at_call 57; with_reducible refine Calls.mono (C1.out _ _ _ (by repeat (first | with_reducible assumption | with_reducible exact Kp.refl _ | with_reducible refine Kp.drew ?_ | with_reducible refine Kp.alloc ?_ _ | with_reducible refine Kp.drewN ?_ _ | refine Kp.setCell ?_ (by dsimp only; omega) _)) (Kp.trans hka (by repeat (first | with_reducible assumption | with_reducible exact Kp.refl _ | with_reducible refine Kp.drew ?_ | with_reducible refine Kp.alloc ?_ _ | with_reducible refine Kp.drewN ?_ _ | refine Kp.setCell ?_ (by dsimp only; omega) _))) (hn.kp (by repeat (first | with_reducible assumption | with_reducible exact Kp.refl _ | with_reducible refine Kp.drew ?_ | with_reducible refine Kp.alloc ?_ _ | with_reducible refine Kp.drewN ?_ _ | refine Kp.setCell ?_ (by dsimp only; omega) _)))) ?_; rintro e wr2 ⟨nl, lf, fl, rfl, hn2, hnn, hor, hka⟩; have hr2 : Kp wb wr2 := Kp.trans (by repeat (first | with_reducible assumption | with_reducible exact Kp.refl _ | with_reducible refine Kp.drew ?_ | with_reducible refine Kp.alloc ?_ _ | with_reducible refine Kp.drewN ?_ _ | refine Kp.setCell ?_ (by dsimp only; omega) _)) hka; have tok3 : True := trivial; clear tok2 _t)
      | fail)
  all_goals
    go_wp2_with fail
    go_ret
    exact ⟨L, nl, lf, fl, rfl, hn2, hnn, hor, hkw.trans hr2⟩
def csR (F : Fld) (rooms needs S : List Int) (r : Int) : Prop := CanH F.di.length F.op.length (startM F S r) (lget needs) (startR S rooms)
open Classical in
noncomputable def csB (F : Fld) (rooms needs S : List Int) (r : Int) : Bool := decide (csR F rooms needs S r)
theorem net_can {J M : Nat} {d : Nat → Nat → Int} {may : Nat → Nat → Bool} {rm nd nl lf : Nat → Int} {fl : Nat → Nat → Int} (hn : NetN J M d may rm nd nl lf fl) (hz : ∀ j, j < J → nl j = 0) : Haul J M may nd rm fl ∧ ∀ x, Haul J M may nd rm x → costT J M d fl ≤ costT J M d x :=
  hn.net.least (fun j hj => by have := hn.row j hj; have := hz j hj; omega)
theorem sum_left {J M : Nat} {d : Nat → Nat → Int} {may : Nat → Nat → Bool} {rm nd nl lf : Nat → Int} {fl : Nat → Nat → Int} (hn : NetN J M d may rm nd nl lf fl) (hor : (∀ j, j < J → nl j = 0) ∨ ((∃ j, j < J ∧ nl j ≠ 0) ∧ ∀ x, ¬ Haul J M may nd rm x)) : (sumTo nl J = 0 ∧ CanH J M may nd rm) ∨ (0 < sumTo nl J ∧ ¬ CanH J M may nd rm) := by
  rcases hor with h | ⟨⟨j, hj, hz⟩, h⟩
  · left
    refine ⟨?_, fl, (net_can hn h).1⟩
    rw [sumTo_congr h, sumTo_c0]
  · right
    refine ⟨?_, fun ⟨x, hx⟩ => h x hx⟩
    have h1 : nl j ≤ sumTo nl J := sumTo_ge (fun i _ => (hn.nb i).1) hj
    have := (hn.nb j).1
    omega
theorem sumTo_mapTo (g : Nat → Int) (n : Nat) : (mapTo g n).sum = sumTo g n := rfl
end Go.Proofs.Ytgdicmeabppngaa

namespace Go.Proofs.Ytgdicmeabppngaa
open Go.RowKit Go.Sort

/-- Where a set's sites alone are open for all, there is a haul if there is room enough. -/
theorem haul_ex {J M : Nat} {sA : Nat → Bool} {rm : Nat → Int} (hr : ∀ a, a < M → 0 ≤ rm a) : ∀ (n : Nat) (nd : Nat → Int), (∀ j, j < J → 0 ≤ nd j) → sumTo nd J = n → sumTo nd J ≤ sumTo (fun a => if sA a = true then rm a else 0) M → ∃ x, Haul J M (fun _ a => sA a) nd rm x
  | 0, nd, h0, hn, _ => by
    have hz : ∀ j, j < J → nd j = 0 := fun j hj => by have := h0 j hj; have h1 : nd j ≤ sumTo nd J := sumTo_ge h0 hj; omega
    exact ⟨fun _ _ => 0, ⟨fun _ _ _ _ => Int.le_refl _, fun _ _ _ _ h => by omega, fun j hj => by rw [hz j hj]; exact sumTo_c0 _, fun a ha => by
      have : colT J (fun _ _ => (0 : Int)) a = 0 := sumTo_c0 _
      rw [this]; exact hr a ha⟩⟩
  | n + 1, nd, h0, hn, hs => by
    obtain ⟨j0, hj0, hp⟩ := sumTo_pos' h0 (by omega)
    have h1 : sumTo (upd nd j0 (nd j0 - 1)) J = n := by rw [sumTo_upd, if_pos hj0]; omega
    obtain ⟨x, hx⟩ := haul_ex (sA := sA) hr n (upd nd j0 (nd j0 - 1)) (fun j hj => by
      by_cases e : j = j0
      · subst e; rw [upd_at]; omega
      · rw [upd_ne e]; exact h0 j hj) h1 (by omega)
    have ht : sumTo (colT J x) M = n := by rw [tot, sumTo_congr hx.row, h1]
    have hA : ∃ a, a < M ∧ sA a = true ∧ colT J x a < rm a := Classical.byContradiction (fun hno => by
      have hle : sumTo (fun a => if sA a = true then rm a else 0) M ≤ sumTo (colT J x) M := sumTo_mono' (fun a ha => by
        by_cases hs : sA a = true
        · rw [if_pos hs]; exact Int.not_lt.1 (fun hlt => hno ⟨a, ha, hs, hlt⟩)
        · rw [if_neg hs]; exact sumTo_nn (fun j hj => hx.nn j a hj ha))
      omega)
    obtain ⟨a, ha, hsa, hlt⟩ := hA
    refine ⟨upd2 x j0 a (x j0 a + 1), ⟨fun j b hj hb => ?_, fun j b hj hb hpos => ?_, fun j hj => ?_, fun b hb => ?_⟩⟩
    · by_cases e : j = j0 ∧ b = a
      · obtain ⟨rfl, rfl⟩ := e; rw [upd2_at]; have := hx.nn j b hj hb; omega
      · rw [upd2_ne (by omega)]; exact hx.nn j b hj hb
    · by_cases e : j = j0 ∧ b = a
      · obtain ⟨rfl, rfl⟩ := e; exact hsa
      · rw [upd2_ne (by omega)] at hpos; exact hx.may j b hj hb hpos
    · rw [row_upd2 _ _ ha, hx.row j hj]
      by_cases e : j = j0
      · subst e; rw [if_pos rfl, upd_at]; omega
      · rw [if_neg e, upd_ne e]; omega
    · rw [col_upd2 _ _ hj0]
      have := hx.col b hb
      by_cases e : b = a
      · subst e; rw [if_pos rfl]; omega
      · rw [if_neg e]; omega
theorem startM_open {F : Fld} {S : List Int} (hg : goodF F = true) (j a : Nat) : startM F S 99 j a = openM S j a := by
  unfold startM openM
  have := (dF_bd hg j a).2
  rw [decide_eq_true this, Bool.and_true]
theorem startR_or (F : Fld) (S rooms : List Int) (r : Int) (J a : Nat) : (∀ j, j < J → startM F S r j a = false) ∨ startR S rooms a = lget rooms a := by
  cases h : flHas S a
  · exact .inl fun j _ => by unfold startM; rw [h]; rfl
  · exact .inr (by unfold startR; rw [if_pos h])
theorem startR_nn {rooms : List Int} (S : List Int) (h : ∀ x, 0 ≤ lget rooms x ∧ lget rooms x ≤ 20) (a : Nat) : 0 ≤ startR S rooms a := by unfold startR; have := h a; split <;> omega
/-- The reference's rooms and the given ones make no difference. -/
theorem start_lst {F : Fld} {rooms needs S : List Int} (hP : HaulP F rooms needs S) {c : Int} (h : IsLst F.di.length F.op.length (dF F) (startM F S 99) (lget needs) (startR S rooms) c) : IsLst F.di.length F.op.length (dF F) (openM S) (lget needs) (lget rooms) c :=
  lst_congr (fun _ _ _ _ => rfl) (fun j a _ _ => startM_open hP.good j a) (fun _ _ => rfl) (fun a _ => startR_or F S rooms 99 F.di.length a) (fun a _ => startR_nn S hP.rb a) (fun a _ => (hP.rb a).1) h
theorem start_haul {F : Fld} {rooms needs S : List Int} (hP : HaulP F rooms needs S) {r : Int} {x : Nat → Nat → Int} (h : Haul F.di.length F.op.length (startM F S r) (lget needs) (lget rooms) x) : Haul F.di.length F.op.length (startM F S r) (lget needs) (startR S rooms) x :=
  haul_congr (fun _ _ _ _ => rfl) (fun _ _ => rfl) (fun a _ => (startR_or F S rooms r F.di.length a).imp id Eq.symm) (fun a _ => startR_nn S hP.rb a) h
theorem start_haul' {F : Fld} {rooms needs S : List Int} (hP : HaulP F rooms needs S) {r : Int} {x : Nat → Nat → Int} (h : Haul F.di.length F.op.length (startM F S r) (lget needs) (startR S rooms) x) : Haul F.di.length F.op.length (startM F S r) (lget needs) (lget rooms) x :=
  haul_congr (fun _ _ _ _ => rfl) (fun _ _ => rfl) (fun a _ => startR_or F S rooms r F.di.length a) (fun a _ => (hP.rb a).1) h
/-- With room enough the reference's net is full. -/
theorem any_full {F : Fld} {rooms needs S : List Int} (hP : HaulP F rooms needs S) (hs : needs.sum ≤ roomS rooms S) : CanH F.di.length F.op.length (startM F S 99) (lget needs) (startR S rooms) := by
  obtain ⟨x, hx⟩ := haul_ex (J := F.di.length) (M := F.op.length) (sA := fun a => flHas S a) (rm := lget rooms) (fun a _ => (hP.rb a).1) (sumTo (lget needs) F.di.length).toNat (lget needs) (fun j _ => (hP.nb j).1) (by have : 0 ≤ sumTo (lget needs) F.di.length := sumTo_nn (fun j _ => (hP.nb j).1); omega) (by rw [hP.ns, hP.rs]; exact hs)
  exact ⟨x, start_haul hP (haul_congr (fun j a _ _ => by rw [startM_open hP.good]; rfl) (fun _ _ => rfl) (fun _ _ => .inr rfl) (fun a _ => (hP.rb a).1) hx)⟩
theorem net_grid {w : World} {base : Nat} {L : NetL} {J M : Nat} {nl lf : Nat → Int} {fl : Nat → Nat → Int} {may : Nat → Nat → Bool} (h : NetS w base L J M nl lf fl may) (hJ : J ≤ 1000) (hM : M ≤ 1000) : GridAt w L.fA (matL J M fl) := by
  by_cases h0 : 0 < J
  · rw [h.fa h0]; exact (h.fl h0).grid (by omega) (by omega)
  · obtain rfl : J = 0 := by omega
    exact ⟨by simp [matL], fun k hk => by simp [matL] at hk⟩
def csOk (F : Fld) (rooms needs S : List Int) (r : Int) : Bool := haulB F rooms needs S && decide (0 ≤ r)
noncomputable def csV (F : Fld) (rooms needs S : List Int) (r : Int) : Bool := csOk F rooms needs S r && csB F rooms needs S r
end Go.Proofs.Ytgdicmeabppngaa

namespace Go.Proofs.Ytgdicmeabppngaa
open Go.RowKit Go.Sort

set_option maxHeartbeats 400000 in
theorem l1Least_any (a b : Int) (w : World) :
    Calls Try.prog 59 #[.int .i64 a, .int .i64 b] w fun e w' => e = .returned (.int .i64 (min a b)) ∧ w = w' := by
  go_enter Try.func59, Try.ntmps59
  go_wp2
  all_goals go_ret
  all_goals refine ⟨ret_int ?_, rfl⟩
  all_goals omega
end Go.Proofs.Ytgdicmeabppngaa

namespace Go.Proofs.Ytgdicmeabppngaa
open Go.RowKit Go.Sort

def minTo (g : Nat → Int) : Nat → Int
  | 0 => g 0
  | k + 1 => min (minTo g k) (g (k + 1))
theorem le_minTo {g : Nat → Int} {x : Int} : ∀ k, x ≤ minTo g k ↔ ∀ i, i ≤ k → x ≤ g i
  | 0 => ⟨fun h i hi => by obtain rfl : i = 0 := by omega
                           exact h, fun h => h 0 (Nat.le_refl _)⟩
  | k + 1 => by
    have h1 := le_minTo (g := g) (x := x) k
    show x ≤ min (minTo g k) (g (k + 1)) ↔ _
    rw [show (x ≤ min (minTo g k) (g (k + 1))) ↔ x ≤ minTo g k ∧ x ≤ g (k + 1) from by omega, h1]
    constructor
    · rintro ⟨h2, h3⟩ i hi
      by_cases e : i = k + 1
      · subst e; exact h3
      · exact h2 i (by omega)
    · intro h; exact ⟨fun i hi => h i (by omega), h _ (Nat.le_refl _)⟩
theorem minTo_bd {g : Nat → Int} {M : Int} {K : Nat} (h : ∀ i, i ≤ K → 0 ≤ g i ∧ g i ≤ M) : ∀ k, k ≤ K → 0 ≤ minTo g k ∧ minTo g k ≤ M
  | 0, hk => h 0 hk
  | k + 1, hk => by
    have h1 := minTo_bd h k (by omega)
    have h2 := h (k + 1) hk
    show 0 ≤ min (minTo g k) (g (k + 1)) ∧ min (minTo g k) (g (k + 1)) ≤ M
    omega
/-- A site's length and its price, and the least of these. -/
def valF (F : Fld) (ws : List Int) (j : Nat) (s : Int) : Int := dAt F j s + lget ws s.toNat
def offG (F : Fld) (S ws : List Int) (j i : Nat) : Int := valF F ws j (S.getD i 0)
def offF (F : Fld) (S ws : List Int) (j : Nat) : Int := minTo (offG F S ws j) (S.length - 1)
theorem offG_at {F : Fld} {S ws : List Int} {j i : Nat} (h : i < S.length) : offG F S ws j i = valF F ws j S[i] := by simp [offG, List.getD, h]
theorem le_off {F : Fld} {S ws : List Int} {j : Nat} {x : Int} (hne : S ≠ []) : x ≤ offF F S ws j ↔ ∀ s ∈ S, x ≤ valF F ws j s := by
  have hp : 0 < S.length := List.length_pos_iff.2 hne
  unfold offF
  rw [le_minTo]
  constructor
  · intro h s hs
    obtain ⟨i, hi, rfl⟩ := List.mem_iff_getElem.1 hs
    rw [← offG_at hi]; exact h i (by omega)
  · intro h i hi
    have hi2 : i < S.length := by omega
    rw [offG_at hi2]; exact h _ (List.getElem_mem hi2)
theorem valF_bd {F : Fld} {ws : List Int} {j : Nat} {s : Int} (hg : goodF F = true) (hj : j < F.di.length) (hw : ∀ x ∈ ws, 0 ≤ x ∧ x ≤ 999) : 0 ≤ valF F ws j s ∧ valF F ws j s ≤ 1098 := by
  have h1 := dAt_bd hg hj s
  have h2 := lget_all (M := 999) (by omega) hw s.toNat
  unfold valF; omega
def prW (S ws : List Int) (k : Nat) : Bool := (List.range k).all fun a => !(decide (0 < lget ws a) && !flHas S a)
def prU (F : Fld) (S ws us : List Int) (k : Nat) : Bool := (List.range k).all fun j => inB (lget us j) (-999) 999 && decide (lget us j ≤ offF F S ws j)
def prB (F : Fld) (S us ws : List Int) : Bool := decide (us.length = F.di.length) && (numsB ws F.op.length 999 && (prW S ws ws.length && prU F S ws us us.length))
theorem prW_succ {S ws : List Int} {k : Nat} : prW S ws (k + 1) = (prW S ws k && !(decide (0 < lget ws k) && !flHas S k)) := by
  unfold prW; rw [List.range_succ, List.all_append]; simp
theorem prU_succ {F : Fld} {S ws us : List Int} {k : Nat} : prU F S ws us (k + 1) = (prU F S ws us k && (inB (lget us k) (-999) 999 && decide (lget us k ≤ offF F S ws k))) := by
  unfold prU; rw [List.range_succ, List.all_append]; simp
theorem prW_no {S ws : List Int} {k K : Nat} (hk : k < K) (h1 : 0 < lget ws k) (h2 : flHas S k = false) : prW S ws K = false := by
  unfold prW
  rw [List.all_eq_false]
  exact ⟨k, List.mem_range.2 hk, by simp [h1, h2]⟩
theorem prU_no {F : Fld} {S ws us : List Int} {k K : Nat} (hk : k < K) (h : (inB (lget us k) (-999) 999 && decide (lget us k ≤ offF F S ws k)) = false) : prU F S ws us K = false := by
  unfold prU
  rw [List.all_eq_false]
  exact ⟨k, List.mem_range.2 hk, by simp [h]⟩
theorem prW_iff {S ws : List Int} {k : Nat} : prW S ws k = true ↔ ∀ a, a < k → 0 < lget ws a → flHas S a = true := by
  unfold prW
  rw [List.all_eq_true]
  constructor
  · intro h a ha hp
    have := h a (List.mem_range.2 ha)
    simpa [hp] using this
  · intro h a ha
    have := h a (List.mem_range.1 ha)
    by_cases hp : 0 < lget ws a
    · simp [hp, this hp]
    · simp [hp]
theorem prU_iff {F : Fld} {S ws us : List Int} {k : Nat} : prU F S ws us k = true ↔ ∀ j, j < k → (-999 ≤ lget us j ∧ lget us j ≤ 999) ∧ lget us j ≤ offF F S ws j := by
  unfold prU
  rw [List.all_eq_true]
  constructor
  · intro h a ha
    have := h a (List.mem_range.2 ha)
    rw [Bool.and_eq_true, inB_iff, decide_eq_true_eq] at this; exact this
  · intro h a ha
    rw [Bool.and_eq_true, inB_iff, decide_eq_true_eq]; exact h a (List.mem_range.1 ha)
theorem prB_iff {F : Fld} {S us ws : List Int} : prB F S us ws = true ↔ us.length = F.di.length ∧ ((∀ x ∈ ws, 0 ≤ x ∧ x ≤ 999) ∧ ws.length = F.op.length) ∧ (∀ a, a < ws.length → 0 < lget ws a → flHas S a = true) ∧ ∀ j, j < us.length → (-999 ≤ lget us j ∧ lget us j ≤ 999) ∧ lget us j ≤ offF F S ws j := by
  unfold prB
  rw [Bool.and_eq_true, Bool.and_eq_true, Bool.and_eq_true, decide_eq_true_eq, numsB_iff, prW_iff, prU_iff]
theorem lgetCell {w : World} {ad : Addr} {xs : List Int} {a : Int} (h : IntsAt w (some ad) xs) (h1 : a.toNat < xs.length) : w.cell? (ad.add a.toNat) = some (.int .i64 (lget xs a.toNat)) := by
  rw [h.some_ h1, lget_at h1]
set_option maxRecDepth 100000 in
set_option maxHeartbeats 2000000 in
theorem l7Offer_any (f : Value) (F : Fld) (A3 : Option Addr) (S : List Int) (n3 c3 : Nat) (A5 : Option Addr) (ws : List Int) (n5 c5 : Nat) (j : Nat) (w : World) (hf : FldAt w f F) (h3 : IntsAt w A3 S) (hn3 : S.length = n3) (h5 : IntsAt w A5 ws) (hn5 : ws.length = n5) (ho : openedB F S = true) (hw : ∀ x ∈ ws, 0 ≤ x ∧ x ≤ 999) (hl : ws.length = F.op.length) (hj : j < F.di.length) :
    Calls Try.prog 32 #[f, .slice A3 n3 c3, .slice A5 n5 c5, .int .i64 j] w fun e w' => e = .returned (.int .i64 (offF F S ws j)) ∧ Kp w w' := by
  obtain ⟨A, c, B, d, rfl, hA, hB⟩ := hf
  have hk0 : Kp w (w.alloc (.cells #[.slice A F.op.length c, .slice B F.di.length d] 27)) := (Kp.refl w).alloc _
  obtain ⟨d0, d1⟩ := box2 w (.slice A F.op.length c) (.slice B F.di.length d) 27
  have hFA := FldAt.kp (show FldAt w (.agg #[.slice A F.op.length c, .slice B F.di.length d]) F from ⟨A, c, B, d, rfl, hA, hB⟩) hk0
  replace h3 := h3.kp hk0
  replace h5 := h5.kp hk0
  replace hB := hB.kp hk0
  have HO := Lib.hid (openedB_parts ho)
  have HS := Lib.hid (set_mem HO.out.2.1)
  have hp : 0 < S.length := List.length_pos_iff.2 HO.out.2.2
  have hop := (goodF_iff.1 HO.out.1).1.1
  have hs7 : n3 ≤ 9223372036854775807 := hn3 ▸ h3.1
  have Hn3 := Lib.hid hn3; have Hn5 := Lib.hid hn5; have Hl := Lib.hid hl
  have HV := Lib.hid (fun s => valF_bd (s := s) HO.out.1 hj hw)
  have HG := Lib.hid (fun k (hk : k < S.length) => minTo_bd (g := offG F S ws j) (K := S.length) (M := 1098) (fun i _ => HV.out _) k (Nat.le_of_lt hk))
  obtain ⟨bd, A4, c4, hBe, hcr, hrr⟩ := hB.at_ hj
  have HBe := Lib.hid hBe
  clear hBe
  have hrl := goodRow HO.out.1 hj
  obtain ⟨rd, hAe⟩ : ∃ rd, A4 = some rd := by obtain ⟨rd, e, _⟩ := hrr.at_ (k := 0) (by omega); exact ⟨rd, e⟩
  subst hAe
  obtain ⟨wd, hWe⟩ : ∃ wd, A5 = some wd := by obtain ⟨wd, e, _⟩ := h5.at_ (k := 0) (by omega); exact ⟨wd, e⟩
  subst hWe
  have p3 : 0 < n3 := by omega
  have hOf : Hid (offF F S ws j = minTo (offG F S ws j) (n3 - 1)) := by show _ = _; rw [offF, hn3]
  have Hrl := Lib.hid hrl
  clear hA hn3 hn5 ho hw hl hrl hop
  obtain ⟨s0, hSe, hc0⟩ := h3.at_ hp
  obtain ⟨x1, x2⟩ := HS.out _ (List.getElem_mem hp)
  have y1 : S[0].toNat < F.di[j].length := by rw [Hrl.out]; omega
  have y2 : S[0].toNat < ws.length := by rw [Hl.out]; omega
  have y3 : S[0].toNat < n5 := by rw [← Hn5.out]; exact y2
  have hc1 := dCell hj hrr x1 (by omega)
  have hc2 := lgetCell h5 y2
  obtain ⟨v1, v2⟩ := HV.out S[0]
  obtain ⟨v3, v4⟩ := dAt_bd HO.out.1 hj S[0]
  have Hg0 : Hid (minTo (offG F S ws j) 0 = dAt F j S[0] + lget ws S[0].toNat) := by show _ = _; show offG F S ws j 0 = _; rw [offG_at hp]; rfl
  rw [show valF F ws j S[0] = dAt F j S[0] + lget ws S[0].toNat from rfl] at v1 v2
  subst hSe
  rw [show s0.add 0 = s0 from rfl] at hc0
  generalize hss : S[0] = z at *
  clear hss
  go_enter Try.func32, Try.ntmps32
  go_wp2_with fail
  have hsz : Hid ((w.alloc (.cells #[.slice A F.op.length c, .slice B F.di.length d] 27)).heap.size = w.heap.size + 1) := by show _ = _; simp
  generalize w.alloc (.cells #[.slice A F.op.length c, .slice B F.di.length d] 27) = wb at *
  have hkb : Kp wb wb := Kp.refl _
  have hkw := hk0
  have hBe := HBe.out
  subst hBe
  have q_d0 := hkb.get d0
  have q_d1 := hkb.get d1
  go_wp2_with fail
  go_quiet (fail)
  go_wp2_with fail
  have hkr := hkb.drewN nq
  go_loopw [9, 10] (fun bv iv wr => ∃ i k : Nat, Hid (i = k + 1) ∧ i ≤ n3 ∧ iv = .int .i64 i ∧ bv = .int .i64 (minTo (offG F S ws j) k) ∧ Kp wb wr) (fun _ iv _ => n3 - (intOf iv).toNat)
  case atStart => exact ⟨1, 0, rfl, p3, rfl, by rw [Hg0.out], hkr⟩
  case round =>
    clear hkr
    obtain ⟨i, k, Hik, hi, rfl, rfl, hkr⟩ := hrel
    obtain ⟨v5, v6⟩ := HG.out k (by have := Hik.out; rw [Hn3.out]; omega)
    by_cases hlt : i < n3
    · have lx : i < S.length := by rw [Hn3.out]; exact hlt
      have hc0 := h3.some_ lx
      obtain ⟨x1, x2⟩ := HS.out _ (List.getElem_mem lx)
      have y1 : S[i].toNat < F.di[j].length := by rw [Hrl.out]; omega
      have y2 : S[i].toNat < ws.length := by rw [Hl.out]; omega
      have y3 : S[i].toNat < n5 := by rw [← Hn5.out]; exact y2
      have hc1 := dCell hj hrr x1 (by omega)
      have hc2 := lgetCell h5 y2
      obtain ⟨v1, v2⟩ := HV.out S[i]
      obtain ⟨v3, v4⟩ := dAt_bd HO.out.1 hj S[i]
      have Hgk : Hid (minTo (offG F S ws j) i = min (minTo (offG F S ws j) k) (dAt F j S[i] + lget ws S[i].toNat)) := by
        show _ = _
        have e := Hik.out
        subst e
        show min (minTo (offG F S ws j) k) (offG F S ws j (k + 1)) = _
        rw [offG_at lx]; rfl
      rw [show valF F ws j S[i] = dAt F j S[i] + lget ws S[i].toNat from rfl] at v1 v2
      generalize hss : S[i] = z at *
      clear hss
      generalize minTo (offG F S ws j) k = q at *
      have CL := Lib.hid (fun (wx : World) => l1Least_any q (dAt F j z + lget ws z.toNat) wx)
      have q0 := hkr.get d0
      have q1 := hkr.get d1
      have q2 := hkr.get hcr
      have q3 := hkr.get hc0
      have q4 := hkr.get hc1
      have q5 := hkr.get hc2
      go_wp2_with fail
      go_quiet ((go_at_call 59; exact Calls.same_quiet (CL.out _)))
      go_wp2_with fail
      go_roundw
      case rel => exact ⟨i + 1, i, rfl, by omega, by go_num, by rw [Hgk.out], hkr.drewN _⟩
      case measure => simp [intOf]; omega
    · have e : n3 - 1 = k := by have := Hik.out; omega
      rw [e] at hOf
      go_wp2_with fail
      go_ret
      exact ⟨ret_int hOf.out.symm, hkw.trans hkr⟩
end Go.Proofs.Ytgdicmeabppngaa

namespace Go.Proofs.Ytgdicmeabppngaa
open Go.RowKit Go.Sort

theorem pr_no {F : Fld} {S us ws : List Int} (h : ¬ prB F S us ws = true) : prB F S us ws = false := by simpa using h
theorem pr_len {F : Fld} {S us ws : List Int} (h : us.length ≠ F.di.length) : prB F S us ws = false := pr_no fun hb => h (prB_iff.1 hb).1
theorem pr_nums {F : Fld} {S us ws : List Int} (h : numsB ws F.op.length 999 = false) : prB F S us ws = false := pr_no fun hb => by
  rw [numsB_iff.2 (prB_iff.1 hb).2.1] at h; cases h
theorem pr_w {F : Fld} {S us ws : List Int} {a : Nat} (ha : a < ws.length) (h1 : 0 < lget ws a) (h2 : flHas S a = false) : prB F S us ws = false := pr_no fun hb => by
  rw [(prB_iff.1 hb).2.2.1 a ha h1] at h2; cases h2
theorem pr_u {F : Fld} {S us ws : List Int} {j : Nat} (hj : j < us.length) (h : ¬ ((-999 ≤ lget us j ∧ lget us j ≤ 999) ∧ lget us j ≤ offF F S ws j)) : prB F S us ws = false := pr_no fun hb => h ((prB_iff.1 hb).2.2.2 j hj)
end Go.Proofs.Ytgdicmeabppngaa

namespace Go.Proofs.Ytgdicmeabppngaa
open Go.RowKit Go.Sort

theorem flHas_mem {S : List Int} {a : Nat} : flHas S a = true ↔ (a : Int) ∈ S := by
  unfold flHas
  rw [List.any_eq_true]
  constructor
  · rintro ⟨y, hy, e⟩
    have : y = (a : Int) := by simpa using e
    exact this ▸ hy
  · intro h; exact ⟨_, h, by simp⟩
theorem pr_off {F : Fld} {S us ws : List Int} {a j : Nat} (hne : S ≠ []) (hj : j < us.length) (h : flHas S a = true) (h2 : ¬ lget us j ≤ dAt F j (a : Int) + lget ws a) : prB F S us ws = false := pr_no fun hb => by
  have h3 := ((prB_iff.1 hb).2.2.2 j hj).2
  exact h2 ((le_off hne).1 h3 _ (flHas_mem.1 h))
theorem pr_yes {F : Fld} {S us ws : List Int} (hne : S ≠ []) (hS : ∀ x ∈ S, 0 ≤ x ∧ x < F.op.length) (h1 : us.length = F.di.length) (h2 : ws.length = F.op.length) (h3 : allB us (-999) 999 = true) (h4 : allB ws 0 999 = true) (h5 : ∀ a, a < ws.length → 0 < lget ws a → flHas S a = true) (h6 : ∀ a, a < ws.length → ∀ j, j < us.length → flHas S a = true → lget us j ≤ dAt F j (a : Int) + lget ws a) : prB F S us ws = true := by
  refine prB_iff.2 ⟨h1, ⟨allB_iff.1 h4, h2⟩, h5, fun j hj => ⟨?_, (le_off hne).2 fun s hs => ?_⟩⟩
  · rw [lget_at hj]; exact allB_iff.1 h3 _ (List.getElem_mem hj)
  · obtain ⟨x1, x2⟩ := hS s hs
    obtain ⟨a, rfl⟩ := Int.eq_ofNat_of_zero_le x1
    exact h6 a (by omega) j hj (flHas_mem.2 hs)
theorem pr_ub {F : Fld} {S us ws : List Int} (h : allB us (-999) 999 = false) : prB F S us ws = false := pr_no fun hb => by
  have : allB us (-999) 999 = true := allB_iff.2 fun x hx => by
    obtain ⟨i, hi, rfl⟩ := List.mem_iff_getElem.1 hx
    have := ((prB_iff.1 hb).2.2.2 i hi).1
    rwa [lget_at hi] at this
  rw [this] at h; cases h
theorem pr_wb {F : Fld} {S us ws : List Int} (h : allB ws 0 999 = false) : prB F S us ws = false := pr_no fun hb => by
  rw [allB_iff.2 (prB_iff.1 hb).2.1.1] at h; cases h
theorem pr_wl {F : Fld} {S us ws : List Int} (h : ws.length ≠ F.op.length) : prB F S us ws = false := pr_no fun hb => h (prB_iff.1 hb).2.1.2
set_option maxRecDepth 100000 in
set_option maxHeartbeats 2000000 in
theorem areFlowPrices_any (f : Value) (F : Fld) (A3 : Option Addr) (S : List Int) (n3 c3 : Nat) (A4 : Option Addr) (us : List Int) (n4 c4 : Nat) (A5 : Option Addr) (ws : List Int) (n5 c5 : Nat) (w : World) (hf : FldAt w f F) (h3 : IntsAt w A3 S) (hn3 : S.length = n3) (h4 : IntsAt w A4 us) (hn4 : us.length = n4) (h5 : IntsAt w A5 ws) (hn5 : ws.length = n5) (ho : openedB F S = true) :
    Calls Try.prog 36 #[f, .slice A3 n3 c3, .slice A4 n4 c4, .slice A5 n5 c5] w fun e w' => e = .returned (.bool (prB F S us ws)) ∧ Kp w w' := by
  have hm4 : n4 ≤ 9223372036854775807 := hn4 ▸ h4.1
  have hm5 : n5 ≤ 9223372036854775807 := hn5 ▸ h5.1
  obtain ⟨A, c, B, d, rfl, hA, hB⟩ := hf
  have hk0 : Kp w (w.alloc (.cells #[.slice A F.op.length c, .slice B F.di.length d] 27)) := (Kp.refl w).alloc _
  obtain ⟨d0, d1⟩ := box2 w (.slice A F.op.length c) (.slice B F.di.length d) 27
  have hFA := FldAt.kp (show FldAt w (.agg #[.slice A F.op.length c, .slice B F.di.length d]) F from ⟨A, c, B, d, rfl, hA, hB⟩) hk0
  replace h3 := h3.kp hk0
  replace h4 := h4.kp hk0
  replace h5 := h5.kp hk0
  replace hB := hB.kp hk0
  have Hn3 := Lib.hid hn3; have Hn4 := Lib.hid hn4; have Hn5 := Lib.hid hn5
  have HO := Lib.hid (openedB_parts ho)
  have HS := Lib.hid (set_mem HO.out.2.1)
  have h7n := (goodF_iff.1 HO.out.1).1.2
  have h7d := (goodF_iff.1 HO.out.1).2.2.1
  have hbs : Hid (bagN S < 128) := Nat.lt_of_lt_of_le (bagN_lt HS.out) (Nat.pow_le_pow_right (n := 2) (by omega) h7n)
  clear hA hn3 hn4 hn5 ho
  by_cases hmd : n4 = F.di.length
  case neg =>
    have hne : ((n4 : Int) != (F.di.length : Int)) = true := by simp; omega
    have Hno : Hid (prB F S us ws = false) := pr_len (by rw [Hn4.out]; exact hmd)
    go_enter Try.func36, Try.ntmps36
    go_wp2_with fail
    go_ret
    exact ⟨ret_bool Hno.out.symm, hk0⟩
  have hne : ((n4 : Int) != (F.di.length : Int)) = false := by simp; omega
  have Hmd := Lib.hid hmd
  by_cases hmo : n5 = F.op.length
  case neg =>
    have hne : ((n5 : Int) != (F.op.length : Int)) = true := by simp; omega
    have Hno : Hid (prB F S us ws = false) := pr_wl (by rw [Hn5.out]; exact hmo)
    clear hmd
    go_enter Try.func36, Try.ntmps36
    go_wp2_with fail
    go_ret
    exact ⟨ret_bool Hno.out.symm, hk0⟩
  have hne2 : ((n5 : Int) != (F.op.length : Int)) = false := by simp; omega
  have Hmo := Lib.hid hmo
  have hn7 : n5 ≤ 7 := by omega
  have hd7 : n4 ≤ 7 := by omega
  clear hmd hmo
  go_enter Try.func36, Try.ntmps36
  go_wp2_with fail
  have hsz : Hid ((w.alloc (.cells #[.slice A F.op.length c, .slice B F.di.length d] 27)).heap.size = w.heap.size + 1) := by show _ = _; simp
  generalize w.alloc (.cells #[.slice A F.op.length c, .slice B F.di.length d] 27) = wb at *
  have hkb : Kp wb wb := Kp.refl _
  have hkw := hk0
  have CC := Lib.hid (areBetween_any A4 us n4 c4 (-999) 999 wb h4 Hn4.out)
  with_reducible refine Calls.mono CC.out ?_
  rintro e w1 ⟨rfl, hk1⟩
  clear CC
  replace hkb := hkb.trans hk1
  cases hg_ : allB us (-999) 999
  · have Hno : Hid (prB F S us ws = false) := pr_ub hg_
    clear hg_
    have q_d0 := hkb.get d0
    have q_d1 := hkb.get d1
    go_wp2_with fail
    go_ret
    exact ⟨ret_bool Hno.out.symm, hkw.trans hkb⟩
  have Hu := Lib.hid hg_
  clear hg_
  have q_d0 := hkb.get d0
  have q_d1 := hkb.get d1
  go_wp2_with fail
  have CC := Lib.hid (areBetween_any A5 ws n5 c5 0 999 _ (h5.kp hkb) Hn5.out)
  with_reducible refine Calls.mono CC.out ?_
  rintro e w2 ⟨rfl, hk2⟩
  clear CC q_d0 q_d1
  replace hkb := hkb.trans hk2
  cases hg_ : allB ws 0 999
  · have Hno : Hid (prB F S us ws = false) := pr_wb hg_
    clear hg_
    have q_d0 := hkb.get d0
    have q_d1 := hkb.get d1
    go_wp2_with fail
    go_ret
    exact ⟨ret_bool Hno.out.symm, hkw.trans hkb⟩
  have Hw := Lib.hid hg_
  have HwM := Lib.hid (lget_all (M := 999) (by omega) (allB_iff.1 hg_))
  clear hg_
  have q_d0 := hkb.get d0
  have q_d1 := hkb.get d1
  go_wp2_with fail
  have CC := Lib.hid (bagOf_any A3 S n3 c3 _ (h3.kp hkb) Hn3.out (fun x hx => by have := HS.out x hx; omega))
  with_reducible refine Calls.mono CC.out ?_
  rintro e w3 ⟨rfl, hw⟩
  obtain rfl := hw
  clear CC q_d0 q_d1
  have q_d0 := hkb.get d0
  have q_d1 := hkb.get d1
  go_wp2_with fail
  go_loopw [42] (fun iv wr => ∃ a : Nat, a ≤ n5 ∧ iv = .int .i64 a ∧ Hid (∀ b, b < a → 0 < lget ws b → flHas S b = true) ∧ Hid (∀ b, b < a → ∀ j, j < n4 → flHas S b = true → lget us j ≤ dAt F j (b : Int) + lget ws b) ∧ Kp wb wr) (fun iv _ => n5 - (intOf iv).toNat)
  case atStart => exact ⟨0, by omega, rfl, fun b hb => absurd hb (by omega), fun b hb => absurd hb (by omega), hkb⟩
  case round =>
    clear hkb
    obtain ⟨a, ha, rfl, Hc1, Hc2, hkb⟩ := hrel
    obtain ⟨wo, rfl⟩ : ∃ wo : World, wo = wr := ⟨_, rfl⟩
    by_cases hla : a < n5
    · have l5 : a < ws.length := by rw [Hn5.out]; exact hla
      have hao : a < F.op.length := by rw [← Hmo.out]; exact hla
      obtain ⟨wd, rfl, hwc⟩ := h5.at_ l5
      rw [← lget_at l5] at hwc
      have Hhb := Lib.hid (fl_bag (fun y hy => (HS.out y hy).1) a)
      have hbs' := hbs.out
      obtain ⟨m1, m2⟩ := HwM.out a
      clear q_d0 q_d1
      have q_d0 := hkb.get d0
      have q_d1 := hkb.get d1
      have q_hwc := hkb.get hwc
      go_wp2_with fail
      have CC := Lib.hid (has_any (bagN S) a wo (by omega) (by omega))
      with_reducible refine Calls.mono CC.out ?_
      rintro e wz ⟨rfl, hwz⟩
      obtain rfl := hwz
      rw [Hhb.out]
      clear CC
      have CH := Lib.hid (fun (wx : World) => by have h := has_any (bagN S) a wx (by omega) (by omega); rw [Hhb.out] at h; exact h)
      cases hh : flHas S a
      · rw [hh] at CH
        by_cases hp : 0 < lget ws a
        · have Hno : Hid (prB F S us ws = false) := pr_w l5 hp hh
          clear hh
          clear q_d0 q_d1 q_hwc
          have q_d0 := hkb.get d0
          have q_d1 := hkb.get d1
          have q_hwc := hkb.get hwc
          go_wp2_with fail
          go_ret
          exact ⟨ret_bool Hno.out.symm, hkw.trans hkb⟩
        · have Hd1 : Hid (∀ b, b < a + 1 → 0 < lget ws b → flHas S b = true) := fun b hb h => by
            by_cases e : b = a
            · subst e; exact absurd h hp
            · exact Hc1.out b (by omega) h
          have Hd2 : Hid (∀ b, b < a + 1 → ∀ j, j < n4 → flHas S b = true → lget us j ≤ dAt F j (b : Int) + lget ws b) := fun b hb j hj h => by
            by_cases e : b = a
            · subst e; rw [hh] at h; cases h
            · exact Hc2.out b (by omega) j hj h
          clear hh
          clear q_d0 q_d1 q_hwc
          have q_d0 := hkb.get d0
          have q_d1 := hkb.get d1
          have q_hwc := hkb.get hwc
          go_wp2_with fail
          go_loopw [58] (fun iv wr => ∃ j : Nat, j ≤ F.di.length ∧ iv = .int .i64 j ∧ Kp wb wr) (fun iv _ => F.di.length - (intOf iv).toNat)
          case atStart => exact ⟨0, by omega, rfl, hkb⟩
          case round =>
            clear hkb
            obtain ⟨j, hj, rfl, hkb⟩ := hrel
            by_cases hlj : j < F.di.length
            · obtain ⟨bd, A6, c6, rfl, hcr, hrr⟩ := hB.at_ hlj
              have q2 := hkb.get hcr
              clear q_d0 q_d1 q_hwc
              have q_d0 := hkb.get d0
              have q_d1 := hkb.get d1
              have q_hwc := hkb.get hwc
              go_wp2_with fail
              go_quiet ((go_at_call 50; exact Calls.same_quiet (CH.out _)))
              go_wp2_with fail
              go_roundw
              case rel => exact ⟨j + 1, by omega, by go_num, hkb.drewN _⟩
              case measure => simp [intOf]; omega
            · clear q_d0 q_d1 q_hwc
              have q_d0 := hkb.get d0
              have q_d1 := hkb.get d1
              have q_hwc := hkb.get hwc
              go_wp2_with fail
              go_roundw
              case rel => exact ⟨a + 1, by omega, by go_num, Hd1, Hd2, hkb⟩
              case measure => simp [intOf]; omega
      · rw [hh] at CH
        have Hd1 : Hid (∀ b, b < a + 1 → 0 < lget ws b → flHas S b = true) := fun b hb h => by
          by_cases e : b = a
          · subst e; exact hh
          · exact Hc1.out b (by omega) h
        have Hh := Lib.hid hh
        clear hh
        clear q_d0 q_d1 q_hwc
        have q_d0 := hkb.get d0
        have q_d1 := hkb.get d1
        have q_hwc := hkb.get hwc
        go_wp2_with fail
        go_loopw [58] (fun iv wr => ∃ j : Nat, j ≤ F.di.length ∧ iv = .int .i64 j ∧ Hid (∀ i, i < j → lget us i ≤ dAt F i (a : Int) + lget ws a) ∧ Kp wb wr) (fun iv _ => F.di.length - (intOf iv).toNat)
        case atStart => exact ⟨0, by omega, rfl, fun i hi => absurd hi (by omega), hkb⟩
        case round =>
          clear hkb
          obtain ⟨j, hj, rfl, Hi, hkb⟩ := hrel
          by_cases hlj : j < F.di.length
          · obtain ⟨bd, A6, c6, rfl, hcr, hrr⟩ := hB.at_ hlj
            have hrl : F.di[j].length = F.op.length := goodRow HO.out.1 hlj
            have lr : a < F.di[j].length := by rw [hrl]; exact hao
            obtain ⟨rd, rfl, hrc⟩ := hrr.at_ lr
            rw [dAt_at hlj lr] at hrc
            have hj4 : j < n4 := by rw [Hmd.out]; exact hlj
            have l4 : j < us.length := by rw [Hn4.out]; exact hj4
            obtain ⟨ud, rfl, huc⟩ := h4.at_ l4
            rw [← lget_at l4] at huc
            obtain ⟨m3, m4⟩ := dAt_bd HO.out.1 hlj (a : Int)
            clear hrl
            have q2 := hkb.get hcr
            have q3 := hkb.get hrc
            have q4 := hkb.get huc
            by_cases hle : lget us j ≤ dAt F j (a : Int) + lget ws a
            · have Hy : Hid (∀ i, i < j + 1 → lget us i ≤ dAt F i (a : Int) + lget ws a) := fun i hi => by
                by_cases e : i = j
                · subst e; exact hle
                · exact Hi.out i (by omega)
              have hgt : ¬ dAt F j (a : Int) + lget ws a < lget us j := by omega
              clear hle
              clear q_d0 q_d1 q_hwc
              have q_d0 := hkb.get d0
              have q_d1 := hkb.get d1
              have q_hwc := hkb.get hwc
              go_wp2_with fail
              go_quiet ((go_at_call 50; exact Calls.same_quiet (CH.out _)))
              go_wp2_with fail
              go_roundw
              case rel => exact ⟨j + 1, by omega, by go_num, Hy, hkb.drewN _⟩
              case measure => simp [intOf]; omega
            · have Hno : Hid (prB F S us ws = false) := pr_off HO.out.2.2 l4 Hh.out hle
              have hgt : dAt F j (a : Int) + lget ws a < lget us j := by omega
              clear hle
              clear q_d0 q_d1 q_hwc
              have q_d0 := hkb.get d0
              have q_d1 := hkb.get d1
              have q_hwc := hkb.get hwc
              go_wp2_with fail
              go_quiet ((go_at_call 50; exact Calls.same_quiet (CH.out _)))
              go_wp2_with fail
              go_ret
              exact ⟨ret_bool Hno.out.symm, hkw.trans (hkb.drewN _)⟩
          · have Hd2 : Hid (∀ b, b < a + 1 → ∀ j, j < n4 → flHas S b = true → lget us j ≤ dAt F j (b : Int) + lget ws b) := fun b hb i hi h => by
              by_cases e : b = a
              · subst e; exact Hi.out i (by have := Hmd.out; omega)
              · exact Hc2.out b (by omega) i hi h
            clear q_d0 q_d1 q_hwc
            have q_d0 := hkb.get d0
            have q_d1 := hkb.get d1
            have q_hwc := hkb.get hwc
            go_wp2_with fail
            go_roundw
            case rel => exact ⟨a + 1, by omega, by go_num, Hd1, Hd2, hkb⟩
            case measure => simp [intOf]; omega
    · have Hyes : Hid (prB F S us ws = true) := pr_yes HO.out.2.2 HS.out (by rw [Hn4.out]; exact Hmd.out) (by rw [Hn5.out]; exact Hmo.out) Hu.out Hw.out (fun b hb => Hc1.out b (by rw [Hn5.out] at hb; omega)) (fun b hb j hj => Hc2.out b (by rw [Hn5.out] at hb; omega) j (by rw [← Hn4.out]; exact hj))
      clear q_d0 q_d1
      have q_d0 := hkb.get d0
      have q_d1 := hkb.get d1
      go_wp2_with fail
      go_ret
      exact ⟨ret_bool Hyes.out.symm, hkw.trans hkb⟩
end Go.Proofs.Ytgdicmeabppngaa

namespace Go.Proofs.Ytgdicmeabppngaa
open Go.RowKit Go.Sort

def yP (xs ys : List Int) (k : Nat) : Int := sumTo (fun j => lget xs j * lget ys j) k
def yieldF (rooms needs us ws : List Int) : Int := yP needs us needs.length - yP rooms ws rooms.length
theorem yP_succ (xs ys : List Int) (k : Nat) : yP xs ys (k + 1) = yP xs ys k + lget xs k * lget ys k := sumTo_succ _ _
theorem mul_bd {x y : Int} (h0 : 0 ≤ x) (h1 : x ≤ 20) (h2 : -999 ≤ y) (h3 : y ≤ 999) : -19980 ≤ x * y ∧ x * y ≤ 19980 := by
  have a1 := Int.mul_le_mul_of_nonneg_left h3 h0
  have a2 := Int.mul_le_mul_of_nonneg_left h2 h0
  omega
theorem yP_bd {xs ys : List Int} (h : ∀ i, 0 ≤ lget xs i ∧ lget xs i ≤ 20) (h2 : ∀ i, -999 ≤ lget ys i ∧ lget ys i ≤ 999) : ∀ k : Nat, -((k : Int) * 19980) ≤ yP xs ys k ∧ yP xs ys k ≤ (k : Int) * 19980
  | 0 => by simp [yP, sumTo_zero]
  | k + 1 => by
    have h3 := yP_bd h h2 k
    obtain ⟨a1, a2⟩ := h k
    obtain ⟨a3, a4⟩ := h2 k
    have h4 := mul_bd a1 a2 a3 a4
    rw [yP_succ]; omega
theorem lget_sall {xs : List Int} (h : ∀ x ∈ xs, -999 ≤ x ∧ x ≤ 999) (i : Nat) : -999 ≤ lget xs i ∧ lget xs i ≤ 999 := by
  by_cases hi : i < xs.length
  · rw [lget_at hi]; exact h _ (List.getElem_mem hi)
  · have : lget xs i = 0 := by unfold lget; rw [List.getD_eq_getElem?_getD, List.getElem?_eq_none (by omega)]; rfl
    rw [this]; omega
set_option maxRecDepth 100000 in
set_option maxHeartbeats 2000000 in
theorem yield_any (A1 : Option Addr) (rooms : List Int) (n1 c1 : Nat) (A2 : Option Addr) (needs : List Int) (n2 c2 : Nat) (A4 : Option Addr) (us : List Int) (n4 c4 : Nat) (A5 : Option Addr) (ws : List Int) (n5 c5 : Nat) (w : World) (h1 : IntsAt w A1 rooms) (hn1 : rooms.length = n1) (h2 : IntsAt w A2 needs) (hn2 : needs.length = n2) (h4 : IntsAt w A4 us) (hn4 : us.length = n4) (h5 : IntsAt w A5 ws) (hn5 : ws.length = n5) (e1 : n4 = n2) (e2 : n5 = n1) (s1 : n1 ≤ 7) (s2 : n2 ≤ 7) (b1 : ∀ i, 0 ≤ lget rooms i ∧ lget rooms i ≤ 20) (b2 : ∀ i, 0 ≤ lget needs i ∧ lget needs i ≤ 5) (b3 : ∀ i, -999 ≤ lget us i ∧ lget us i ≤ 999) (b4 : ∀ i, -999 ≤ lget ws i ∧ lget ws i ≤ 999) :
    Calls Try.prog 37 #[.slice A1 n1 c1, .slice A2 n2 c2, .slice A4 n4 c4, .slice A5 n5 c5] w fun e w' => e = .returned (.int .i64 (yieldF rooms needs us ws)) ∧ Kp w w' := by
  have Hn1 := Lib.hid hn1; have Hn2 := Lib.hid hn2; have Hn4 := Lib.hid hn4; have Hn5 := Lib.hid hn5
  have B1 := Lib.hid b1; have B2 := Lib.hid b2; have B3 := Lib.hid b3; have B4 := Lib.hid b4
  have Q1 := Lib.hid (yP_bd (xs := needs) (ys := us) (fun i => by have := b2 i; omega) b3)
  have Q2 := Lib.hid (yP_bd (xs := rooms) (ys := ws) b1 b4)
  have HY : Hid (yieldF rooms needs us ws = yP needs us n2 - yP rooms ws n1) := by show _ = _; rw [yieldF, hn1, hn2]
  subst e1 e2
  clear hn1 hn2 hn4 hn5 b1 b2 b3 b4
  go_enter Try.func37, Try.ntmps37
  go_wp2_with fail
  go_loopw [9, 16] (fun sv iv wr => ∃ j : Nat, j ≤ n4 ∧ iv = .int .i64 j ∧ sv = .int .i64 (yP needs us j) ∧ Kp w wr) (fun _ iv _ => n4 - (intOf iv).toNat)
  case atStart => exact ⟨0, by omega, rfl, rfl, Kp.refl _⟩
  case round =>
    obtain ⟨j, hj, rfl, rfl, hkb⟩ := hrel
    obtain ⟨p1, p2⟩ := Q1.out j
    by_cases hlj : j < n4
    · have l2 : j < needs.length := by rw [Hn2.out]; exact hlj
      have l4 : j < us.length := by rw [Hn4.out]; exact hlj
      obtain ⟨nd, rfl, hnc⟩ := h2.at_ l2
      obtain ⟨ud, rfl, huc⟩ := h4.at_ l4
      rw [← lget_at l2] at hnc
      rw [← lget_at l4] at huc
      obtain ⟨x1, x2⟩ := B2.out j
      obtain ⟨x3, x4⟩ := B3.out j
      obtain ⟨x5, x6⟩ := mul_bd x1 (by omega) x3 x4
      have Hs := Lib.hid (yP_succ needs us j)
      have q0 := hkb.get hnc
      have q1 := hkb.get huc
      generalize yP needs us j = y at *
      go_wp2_with fail
      go_roundw
      case rel => exact ⟨j + 1, by omega, by go_num, by rw [Hs.out], hkb⟩
      case measure => simp [intOf]; omega
    · obtain rfl : j = n4 := by omega
      go_wp2_with fail
      go_loopw [9, 32] (fun sv iv wr => ∃ a : Nat, a ≤ n5 ∧ iv = .int .i64 a ∧ sv = .int .i64 (yP needs us j - yP rooms ws a) ∧ Kp w wr) (fun _ iv _ => n5 - (intOf iv).toNat)
      case atStart => exact ⟨0, by omega, rfl, by rw [show yP rooms ws 0 = 0 from rfl]; go_num, hkb⟩
      case round =>
        clear hkb
        obtain ⟨a, ha, rfl, rfl, hkb⟩ := hrel
        obtain ⟨p3, p4⟩ := Q2.out a
        by_cases hla : a < n5
        · have l1 : a < rooms.length := by rw [Hn1.out]; exact hla
          have l5 : a < ws.length := by rw [Hn5.out]; exact hla
          obtain ⟨rd, rfl, hrc⟩ := h1.at_ l1
          obtain ⟨wd, rfl, hwc⟩ := h5.at_ l5
          rw [← lget_at l1] at hrc
          rw [← lget_at l5] at hwc
          obtain ⟨x1, x2⟩ := B1.out a
          obtain ⟨x3, x4⟩ := B4.out a
          obtain ⟨x5, x6⟩ := mul_bd x1 x2 x3 x4
          have Hs := Lib.hid (yP_succ rooms ws a)
          have q0 := hkb.get hrc
          have q1 := hkb.get hwc
          go_wp2_with fail
          go_roundw
          case rel => exact ⟨a + 1, by omega, by go_num, by rw [Hs.out]; go_num, hkb⟩
          case measure => simp [intOf]; omega
        · obtain rfl : a = n5 := by omega
          go_wp2_with fail
          go_ret
          exact ⟨ret_int HY.out.symm, hkb⟩
/-- What FlowYield answers. -/
def fyIn (F : Fld) (rooms needs S us ws : List Int) : Bool := haulB F rooms needs S && prB F S us ws
def fyV (F : Fld) (rooms needs S us ws : List Int) : Int := if fyIn F rooms needs S us ws = true then yieldF rooms needs us ws else 0
theorem fy_no {F : Fld} {rooms needs S us ws : List Int} (h : fyIn F rooms needs S us ws = false) : Ending.returned (.tuple #[.int .i64 0, .bool false]) = .returned (.tuple #[.int .i64 (fyV F rooms needs S us ws), .bool (fyIn F rooms needs S us ws)]) := by simp [fyV, h]
theorem fy_yes {F : Fld} {rooms needs S us ws : List Int} (h : fyIn F rooms needs S us ws = true) : Ending.returned (.tuple #[.int .i64 (yieldF rooms needs us ws), .bool true]) = .returned (.tuple #[.int .i64 (fyV F rooms needs S us ws), .bool (fyIn F rooms needs S us ws)]) := by simp [fyV, h]
structure FyP (F : Fld) (rooms needs us ws : List Int) (n1 n2 n4 n5 : Nat) : Prop where
  e1 : n4 = n2
  e2 : n5 = n1
  s1 : n1 ≤ 7
  s2 : n2 ≤ 7
  b1 : ∀ i, 0 ≤ lget rooms i ∧ lget rooms i ≤ 20
  b2 : ∀ i, 0 ≤ lget needs i ∧ lget needs i ≤ 5
  b3 : ∀ i, -999 ≤ lget us i ∧ lget us i ≤ 999
  b4 : ∀ i, -999 ≤ lget ws i ∧ lget ws i ≤ 999
theorem fy_parts {F : Fld} {rooms needs S us ws : List Int} {n1 n2 n4 n5 : Nat} (h : haulB F rooms needs S = true) (h2 : prB F S us ws = true) (hn1 : rooms.length = n1) (hn2 : needs.length = n2) (hn4 : us.length = n4) (hn5 : ws.length = n5) : FyP F rooms needs us ws n1 n2 n4 n5 := by
  obtain ⟨h3, h4, h5⟩ := haulB_iff.1 h
  obtain ⟨p1, p2, p3, p4⟩ := prB_iff.1 h2
  have g := goodF_iff.1 (openedB_parts h3).1
  refine ⟨by rw [← hn4, ← hn2, p1, h5.2], by rw [← hn5, ← hn1, p2.2, h4.2], by rw [← hn1, h4.2]; exact g.1.2, by rw [← hn2, h5.2]; exact g.2.2.1, lget_all (by omega) h4.1, lget_all (by omega) h5.1, lget_sall fun x hx => ?_, lget_sall fun x hx => ?_⟩
  · obtain ⟨i, hi, rfl⟩ := List.mem_iff_getElem.1 hx
    have := (p4 i hi).1
    rwa [lget_at hi] at this
  · have := p2.1 x hx; omega
def ipIn (F : Fld) (rooms needs S : List Int) (flow : List (List Int)) (us ws : List Int) : Bool := fcIn F rooms needs S flow && prB F S us ws
def ipR (F : Fld) (rooms needs S : List Int) (flow : List (List Int)) (us ws : List Int) : Bool := ipIn F rooms needs S flow us ws && decide (costFl F flow F.di.length = yieldF rooms needs us ws)
theorem ip_no {F : Fld} {rooms needs S : List Int} {flow : List (List Int)} {us ws : List Int} (h : ipIn F rooms needs S flow us ws = false) : Ending.returned (.tuple #[.bool false, .bool false]) = .returned (.tuple #[.bool (ipR F rooms needs S flow us ws), .bool (ipIn F rooms needs S flow us ws)]) := by simp [ipR, h]
theorem ip_yes {F : Fld} {rooms needs S : List Int} {flow : List (List Int)} {us ws : List Int} {b : Bool} (h : ipIn F rooms needs S flow us ws = true) (hb : b = decide (costFl F flow F.di.length = yieldF rooms needs us ws)) : Ending.returned (.tuple #[.bool b, .bool true]) = .returned (.tuple #[.bool (ipR F rooms needs S flow us ws), .bool (ipIn F rooms needs S flow us ws)]) := by simp [ipR, h, hb]
theorem fc_off {F : Fld} {rooms needs S : List Int} {flow : List (List Int)} {us ws : List Int} (h : fcIn F rooms needs S flow = false) : ipIn F rooms needs S flow us ws = false := by rw [ipIn, h]; rfl
theorem fy_ip {F : Fld} {rooms needs S : List Int} {flow : List (List Int)} {us ws : List Int} (h : fcIn F rooms needs S flow = true) : ipIn F rooms needs S flow us ws = fyIn F rooms needs S us ws := by rw [ipIn, h, fyIn, (fc_parts h).1]
theorem fc_val {F : Fld} {rooms needs S : List Int} {flow : List (List Int)} (h : fcIn F rooms needs S flow = true) : fcV F rooms needs S flow = costFl F flow F.di.length := if_pos h
theorem fy_val {F : Fld} {rooms needs S us ws : List Int} (h : fyIn F rooms needs S us ws = true) : fyV F rooms needs S us ws = yieldF rooms needs us ws := if_pos h
set_option maxRecDepth 100000 in
set_option maxHeartbeats 400000 in
theorem implIp_any (f : Value) (F : Fld) (A1 : Option Addr) (rooms : List Int) (n1 c1 : Nat) (A2 : Option Addr) (needs : List Int) (n2 c2 : Nat) (A3 : Option Addr) (S : List Int) (n3 c3 : Nat) (P0 : Option Addr) (flow : List (List Int)) (m cm : Nat) (A4 : Option Addr) (us : List Int) (n4 c4 : Nat) (A5 : Option Addr) (ws : List Int) (n5 c5 : Nat) (w : World) (hf : FldAt w f F) (h1 : IntsAt w A1 rooms) (hn1 : rooms.length = n1) (h2 : IntsAt w A2 needs) (hn2 : needs.length = n2) (h3 : IntsAt w A3 S) (hn3 : S.length = n3) (hP : GridAt w P0 flow) (hm : flow.length = m) (h4 : IntsAt w A4 us) (hn4 : us.length = n4) (h5 : IntsAt w A5 ws) (hn5 : ws.length = n5) :
    Calls Try.prog 19 #[f, .slice A1 n1 c1, .slice A2 n2 c2, .slice A3 n3 c3, .slice P0 m cm, .slice A4 n4 c4, .slice A5 n5 c5] w fun e w' => e = .returned (.tuple #[.bool (ipR F rooms needs S flow us ws), .bool (ipIn F rooms needs S flow us ws)]) ∧ Kp w w' := by
  obtain ⟨A, c, B, d, rfl, hA, hB⟩ := hf
  have hk0 : Kp w (w.alloc (.cells #[.slice A F.op.length c, .slice B F.di.length d] 27)) := (Kp.refl w).alloc _
  obtain ⟨d0, d1⟩ := box2 w (.slice A F.op.length c) (.slice B F.di.length d) 27
  have hFA := FldAt.kp (show FldAt w (.agg #[.slice A F.op.length c, .slice B F.di.length d]) F from ⟨A, c, B, d, rfl, hA, hB⟩) hk0
  replace h1 := h1.kp hk0
  replace h2 := h2.kp hk0
  replace h3 := h3.kp hk0
  replace h4 := h4.kp hk0
  replace h5 := h5.kp hk0
  replace hP := hP.kp hk0
  have Hn1 := Lib.hid hn1; have Hn2 := Lib.hid hn2; have Hn3 := Lib.hid hn3; have Hm := Lib.hid hm; have Hn4 := Lib.hid hn4; have Hn5 := Lib.hid hn5
  clear hA hB hn1 hn2 hn3 hm hn4 hn5
  go_enter Try.func19, Try.ntmps19
  go_wp2_with fail
  have hsz : Hid ((w.alloc (.cells #[.slice A F.op.length c, .slice B F.di.length d] 27)).heap.size = w.heap.size + 1) := by show _ = _; simp
  generalize w.alloc (.cells #[.slice A F.op.length c, .slice B F.di.length d] 27) = wb at *
  have hkb : Kp wb wb := Kp.refl _
  have hkw := hk0
  have q_d0 := hkb.get d0
  have q_d1 := hkb.get d1
  go_wp2_with fail
  have CC := Lib.hid (implFc_any _ F A1 rooms n1 c1 A2 needs n2 c2 A3 S n3 c3 P0 flow m cm _ (hFA.kp hkb) (h1.kp hkb) Hn1.out (h2.kp hkb) Hn2.out (h3.kp hkb) Hn3.out (hP.kp hkb) Hm.out)
  with_reducible refine Calls.mono CC.out ?_
  rintro e w1 ⟨rfl, hk1⟩
  clear CC q_d0 q_d1
  replace hkb := hkb.trans hk1
  cases hg_ : fcIn F rooms needs S flow
  · have Hno := Lib.hid (fc_off (us := us) (ws := ws) hg_)
    clear hg_
    have q_d0 := hkb.get d0
    have q_d1 := hkb.get d1
    go_wp2_with fail
    go_ret2
    exact ⟨ip_no Hno.out, hkw.trans hkb⟩
  have HH := Lib.hid (fc_parts hg_).1
  have HE : Hid (ipIn F rooms needs S flow us ws = prB F S us ws) := by show _ = _; rw [ipIn, hg_]; rfl
  have HV := Lib.hid (fc_val hg_)
  clear hg_
  rw [HV.out]
  have q_d0 := hkb.get d0
  have q_d1 := hkb.get d1
  go_wp2_with fail
  have CC := Lib.hid (areFlowPrices_any _ F A3 S n3 c3 A4 us n4 c4 A5 ws n5 c5 _ (hFA.kp hkb) (h3.kp hkb) Hn3.out (h4.kp hkb) Hn4.out (h5.kp hkb) Hn5.out (haulB_iff.1 HH.out).1)
  with_reducible refine Calls.mono CC.out ?_
  rintro e w2 ⟨rfl, hk2⟩
  clear CC q_d0 q_d1
  replace hkb := hkb.trans hk2
  cases hg_ : prB F S us ws
  · have Hno : Hid (ipIn F rooms needs S flow us ws = false) := by show _ = _; rw [HE.out, hg_]
    clear hg_
    have q_d0 := hkb.get d0
    have q_d1 := hkb.get d1
    go_wp2_with fail
    go_ret2
    exact ⟨ip_no Hno.out, hkw.trans hkb⟩
  have HP := Lib.hid (fy_parts HH.out hg_ Hn1.out Hn2.out Hn4.out Hn5.out)
  have Hy : Hid (ipIn F rooms needs S flow us ws = true) := by show _ = _; rw [HE.out, hg_]
  clear hg_
  have q_d0 := hkb.get d0
  have q_d1 := hkb.get d1
  go_wp2_with fail
  have CC := Lib.hid (yield_any A1 rooms n1 c1 A2 needs n2 c2 A4 us n4 c4 A5 ws n5 c5 _ (h1.kp hkb) Hn1.out (h2.kp hkb) Hn2.out (h4.kp hkb) Hn4.out (h5.kp hkb) Hn5.out HP.out.e1 HP.out.e2 HP.out.s1 HP.out.s2 HP.out.b1 HP.out.b2 HP.out.b3 HP.out.b4)
  with_reducible refine Calls.mono CC.out ?_
  rintro e w3 ⟨rfl, hk3⟩
  clear CC q_d0 q_d1
  replace hkb := hkb.trans hk3
  have q_d0 := hkb.get d0
  have q_d1 := hkb.get d1
  go_wp2_with fail
  go_ret2
  exact ⟨ip_yes Hy.out rfl, hkw.trans hkb⟩
end Go.Proofs.Ytgdicmeabppngaa

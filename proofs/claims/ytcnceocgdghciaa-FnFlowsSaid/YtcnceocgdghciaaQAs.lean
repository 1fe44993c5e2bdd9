/- The reference's flows: LeastFlowCost, CanServe; LeastFlowCost and CanServe: the reference's, and CanServe: the program's; l1Least; Flow prices: plain words; the reference's walks; Flow prices: which lists are such, and their yield; reference and program. No condition. -/
import Derived.Test.YtcnceocgdghciaaQAr
import Derived.Test.YtcnceocgdghciaaQAh
import Derived.Test.YtcnceocgdghciaaQAq
import Derived.Test.YtcnceocgdghciaaQAa
namespace Go.Proofs.Ytcnceocgdghciaa
open Go.RowKit Go.Sort

theorem small_sum : ∀ (L : List Int), (∀ x ∈ L, 0 ≤ x ∧ x ≤ 1000) → 0 ≤ L.sum ∧ L.sum ≤ 1000 * (L.length : Int)
  | [], _ => by simp
  | x :: L, h => by
    have h1 := h x (by simp)
    have h2 := small_sum L (fun y hy => h y (by simp [hy]))
    simp only [List.sum_cons, List.length_cons]
    omega
theorem small_take {L : List Int} (h : ∀ x ∈ L, 0 ≤ x ∧ x ≤ 1000) (hl : L.length ≤ 1000) (k : Nat) (_ : k ≤ L.length) : -1000000000 ≤ (L.take k).sum ∧ (L.take k).sum ≤ 1000000000 := by
  have h1 := small_sum (L.take k) (fun x hx => h x (List.mem_of_mem_take hx))
  have h2 : (L.take k).length ≤ 1000 := by rw [List.length_take]; omega
  omega
set_option maxRecDepth 100000 in
set_option maxHeartbeats 1000000 in
theorem l7Can_any (f : Value) (F : Fld) (A1 : Option Addr) (rooms : List Int) (n1 c1 : Nat) (A2 : Option Addr) (needs : List Int) (n2 c2 : Nat) (A3 : Option Addr) (S : List Int) (n3 c3 : Nat) (w : World) (hf : FldAt w f F) (h1 : IntsAt w A1 rooms) (hn1 : rooms.length = n1) (h2 : IntsAt w A2 needs) (hn2 : needs.length = n2) (h3 : IntsAt w A3 S) (hn3 : S.length = n3) :
    Calls Try.prog 42 #[f, .slice A1 n1 c1, .slice A2 n2 c2, .slice A3 n3 c3] w fun e w' => e = .returned (.bool (lfOk F rooms needs S)) ∧ Kp w w' := by
  obtain ⟨A, c, B, d, rfl, hA, hB⟩ := hf
  have hk0 : Kp w (w.alloc (.cells #[.slice A F.op.length c, .slice B F.di.length d] 27)) := (Kp.refl w).alloc _
  obtain ⟨d0, d1⟩ := box2 w (.slice A F.op.length c) (.slice B F.di.length d) 27
  have hFA := FldAt.kp (show FldAt w (.agg #[.slice A F.op.length c, .slice B F.di.length d]) F from ⟨A, c, B, d, rfl, hA, hB⟩) hk0
  replace h1 := h1.kp hk0
  replace h2 := h2.kp hk0
  replace h3 := h3.kp hk0
  have Hn1 := Lib.hid hn1; have Hn2 := Lib.hid hn2; have Hn3 := Lib.hid hn3
  clear hA hB hn1 hn2 hn3
  go_enter Try.func42, Try.ntmps42
  go_wp2_with fail
  have hsz : Hid ((w.alloc (.cells #[.slice A F.op.length c, .slice B F.di.length d] 27)).heap.size = w.heap.size + 1) := by show _ = _; simp
  generalize w.alloc (.cells #[.slice A F.op.length c, .slice B F.di.length d] 27) = wb at *
  have hkb : Kp wb wb := Kp.refl _
  have hkw := hk0
  have CC := Lib.hid (l7Given_any _ F A1 rooms n1 c1 A2 needs n2 c2 A3 S n3 c3 _ (hFA.kp hkb) (h1.kp hkb) Hn1.out (h2.kp hkb) Hn2.out (h3.kp hkb) Hn3.out)
  with_reducible refine Calls.mono CC.out ?_
  rintro e w1 ⟨rfl, hk1⟩
  clear CC
  replace hkb := hkb.trans hk1
  cases hh_ : haulB F rooms needs S
  · have Hno : Hid (lfOk F rooms needs S = false) := by show _ = _; rw [lfOk, hh_]; rfl
    clear hh_
    have q_d0 := hkb.get d0
    have q_d1 := hkb.get d1
    go_wp2_with fail
    go_ret
    exact ⟨ret_bool Hno.out.symm, hkw.trans hkb⟩
  have HH := Lib.hid hh_
  have HP := Lib.hid (haul_p hh_)
  have HQ := Lib.hid (haulB_iff.1 hh_)
  clear hh_
  have h8 := (goodF_iff.1 HP.out.good).2.2.1
  have h7 := (goodF_iff.1 HP.out.good).1
  have hl3 : n3 ≤ 7 := by have := bitsL_len F.op.length (bagN S); rw [set_bits HP.out.set_, Hn3.out] at this; omega
  have hlen2 : needs.length ≤ 1000 := by have := HP.out.nl; omega
  have q_d0 := hkb.get d0
  have q_d1 := hkb.get d1
  go_wp2_with fail
  have CC := Lib.hid (l3Sum_any A2 needs n2 c2 _ (h2.kp hkb) Hn2.out (fun k hk => small_take (fun x hx => by have := HQ.out.2.2.1 x hx; omega) hlen2 k (by rw [Hn2.out]; exact hk)) (fun x hx => by have := HQ.out.2.2.1 x hx; omega))
  with_reducible refine Calls.mono CC.out ?_
  rintro e w2 ⟨rfl, hw⟩
  obtain rfl := hw
  clear CC q_d0 q_d1
  have q_d0 := hkb.get d0
  have q_d1 := hkb.get d1
  go_wp2_with fail
  have CC := Lib.hid (l7Room_any A1 rooms n1 c1 A3 S n3 c3 20 _ (h1.kp hkb) Hn1.out (h3.kp hkb) Hn3.out (fun x hx => by have := set_mem HP.out.set_ x hx; have := HP.out.rl; have := Hn1.out; omega) hl3 (by omega) (by omega) (fun x hx => by have := HQ.out.2.1.1 x hx; omega))
  with_reducible refine Calls.mono CC.out ?_
  rintro e w3 ⟨rfl, hw⟩
  obtain rfl := hw
  clear CC q_d0 q_d1
  have q_d0 := hkb.get d0
  have q_d1 := hkb.get d1
  go_wp2_with fail
  go_ret
  exact ⟨ret_bool (by rw [lfOk, HH.out]; rfl), hkw.trans hkb⟩
def AnyPost (w : World) (J M : Nat) (d : Nat → Nat → Int) (may : Nat → Nat → Bool) (nd rm : Nat → Int) (e : Ending) (w' : World) : Prop :=
  ∃ (L : NetL) (nl lf : Nat → Int) (fl : Nat → Nat → Int), e = .returned (.slice L.fA J L.cf) ∧ NetS w' w.heap.size L J M nl lf fl may ∧ NetN J M d may rm nd nl lf fl ∧ ((∀ j, j < J → nl j = 0) ∨ ((∃ j, j < J ∧ nl j ≠ 0) ∧ ∀ x, ¬ Haul J M may nd rm x)) ∧ Kp w w'
theorem NetN.zero {F : Fld} {rooms needs S : List Int} {may : Nat → Nat → Bool} (hP : HaulP F rooms needs S) : NetN F.di.length F.op.length (dF F) may (startR S rooms) (lget needs) (lget needs) (startR S rooms) (fun _ _ => 0) := by
  have hz : ∀ i, rowS F.op.length (fun _ _ => (0 : Int)) i = 0 := fun i => sumTo_c0 _
  refine ⟨Net.zero (fun j a => (dF_bd hP.good j a).1) (fun x _ => ?_), fun j _ => by rw [hz]; omega, fun j => by have := hP.nb j; omega⟩
  unfold startR; have := hP.rb x; split <;> omega
set_option maxRecDepth 100000 in
set_option maxHeartbeats 1000000 in
theorem l7Any_any (f : Value) (F : Fld) (A1 : Option Addr) (rooms : List Int) (n1 c1 : Nat) (A2 : Option Addr) (needs : List Int) (n2 c2 : Nat) (A3 : Option Addr) (S : List Int) (n3 c3 : Nat) (w : World) (hf : FldAt w f F) (h1 : IntsAt w A1 rooms) (hn1 : rooms.length = n1) (h2 : IntsAt w A2 needs) (hn2 : needs.length = n2) (h3 : IntsAt w A3 S) (hn3 : S.length = n3) (hP : HaulP F rooms needs S) :
    Calls Try.prog 43 #[f, .slice A1 n1 c1, .slice A2 n2 c2, .slice A3 n3 c3] w (AnyPost w F.di.length F.op.length (dF F) (startM F S 99) (lget needs) (startR S rooms)) := by
  obtain ⟨A, c, B, d, rfl, hA, hB⟩ := hf
  have hk0 : Kp w (w.alloc (.cells #[.slice A F.op.length c, .slice B F.di.length d] 27)) := (Kp.refl w).alloc _
  obtain ⟨d0, d1⟩ := box2 w (.slice A F.op.length c) (.slice B F.di.length d) 27
  have hFA := FldAt.kp (show FldAt w (.agg #[.slice A F.op.length c, .slice B F.di.length d]) F from ⟨A, c, B, d, rfl, hA, hB⟩) hk0
  have h8 := (goodF_iff.1 hP.good).2.2.1
  have h7 := (goodF_iff.1 hP.good).1
  have HP := Lib.hid hP
  have C0 := Lib.hid (fun (wx : World) (hx : Kp (w.alloc (.cells #[.slice A F.op.length c, .slice B F.di.length d] 27)) wx) => l7Start_any _ F A1 rooms n1 c1 A2 needs n2 c2 A3 S n3 c3 99 wx (hFA.kp hx) hP.good (h1.kp (hk0.trans hx)) hn1 (h2.kp (hk0.trans hx)) hn2 (h3.kp (hk0.trans hx)) hn3 (by rw [← hn1]; exact hP.rl) (by rw [← hn2]; exact hP.nl) (fun x hx => by have := set_mem hP.set_ x hx; omega))
  have C1 := Lib.hid (fun (wx wy : World) (L : NetL) (h0 : Kp (w.alloc (.cells #[.slice A F.op.length c, .slice B F.di.length d] 27)) wx) (hxy : Kp wx wy) (hn : NetS wy wx.heap.size L F.di.length F.op.length (lget needs) (startR S rooms) (fun _ _ => 0) (startM F S 99)) =>
    (l7Fill_any _ F L (lget needs) (startR S rooms) (startR S rooms) (lget needs) (fun _ _ => 0) (startM F S 99) wx.heap.size wx wy (hFA.kp h0) hxy (Nat.le_refl _) hxy.le hP.good hn (NetN.zero hP) (fun x _ => by unfold startR; have := hP.rb x; split <;> omega)).mono (fun e w' hp => by
      obtain ⟨nl, lf, fl, he, hN2, hNn, hor, ht⟩ := hp
      exact (⟨nl, lf, fl, he, hN2.mono (by have := hk0.le; have := h0.le; omega), hNn, hor, hxy.turn ht (fun i hi => hi.1)⟩ : ∃ (nl lf : Nat → Int) (fl : Nat → Nat → Int), e = .returned (.agg #[.slice L.nA F.di.length L.cn, .slice (some ⟨L.gr, 0, none⟩) F.op.length L.cr, .slice L.fA F.di.length L.cf, .slice L.mA F.di.length L.cm]) ∧ NetS w' w.heap.size L F.di.length F.op.length nl lf fl (startM F S 99) ∧ NetN F.di.length F.op.length (dF F) (startM F S 99) (startR S rooms) (lget needs) nl lf fl ∧ ((∀ j, j < F.di.length → nl j = 0) ∨ ((∃ j, j < F.di.length ∧ nl j ≠ 0) ∧ ∀ x, ¬ Haul F.di.length F.op.length (startM F S 99) (lget needs) (startR S rooms) x)) ∧ Kp wx w')))
  have hfd : ∀ (w : World) (a b c d : Option Addr) (p q u v x y s t : Nat), Sem.run Try.prog (Instr.field 87 (.agg #[.slice a p q, .slice b u v, .slice c x y, .slice d s t]) 2) w = .ok (  .slice c x y) w := fun _ _ _ _ _ _ _ _ _ _ _ _ _ => by kernel_rfl
  clear hA hB hn1 hn2 hn3 h1 h2 h3 hP
  go_enter Try.func43, Try.ntmps43
  go_wp2_with fail
  have hsz : Hid ((w.alloc (.cells #[.slice A F.op.length c, .slice B F.di.length d] 27)).heap.size = w.heap.size + 1) := by show _ = _; simp
  generalize w.alloc (.cells #[.slice A F.op.length c, .slice B F.di.length d] 27) = wb at *
  have hkb : Kp wb wb := Kp.refl _
  have hkw := hk0
  have q_d0 := hkb.get d0
  have q_d1 := hkb.get d1
  have tok1 : True := trivial
  go_wp2_with fail
  go_region_held3 (fun w' => w'.cell? ⟨w.heap.size, 0, none⟩ = some (.slice A F.op.length c) ∧ w'.cell? ⟨w.heap.size, 1, none⟩ = some (.slice B F.di.length d) ∧ Kp wb w')
    (first | (refine keepc2 d0 d1 ?_; exact (by repeat (first | with_reducible assumption | with_reducible exact Kp.refl _ | with_reducible refine Kp.drew ?_ | with_reducible refine Kp.alloc ?_ _ | with_reducible refine Kp.drewN ?_ _ | refine Kp.setCell ?_ (by dsimp only; omega) _))) | fail)
    (first
      | (have _t := tok1; go_at_call 71; with_reducible refine Calls.mono (C0.out _ (by repeat (first | with_reducible assumption | with_reducible exact Kp.refl _ | with_reducible refine Kp.drew ?_ | with_reducible refine Kp.alloc ?_ _ | with_reducible refine Kp.drewN ?_ _ | refine Kp.setCell ?_ (by dsimp only; omega) _))) ?_; rintro e wr1 ⟨L, rfl, hn, hka⟩; have hr1 : Kp wb wr1 := Kp.trans (by repeat (first | with_reducible assumption | with_reducible exact Kp.refl _ | with_reducible refine Kp.drew ?_ | with_reducible refine Kp.alloc ?_ _ | with_reducible refine Kp.drewN ?_ _ | refine Kp.setCell ?_ (by dsimp only; omega) _)) hka; have tok2 : True := trivial; clear tok1 _t)
      | (have _t := tok2; go_at_call 70; with_reducible refine Calls.mono (C1.out _ _ _ (by repeat (first | with_reducible assumption | with_reducible exact Kp.refl _ | with_reducible refine Kp.drew ?_ | with_reducible refine Kp.alloc ?_ _ | with_reducible refine Kp.drewN ?_ _ | refine Kp.setCell ?_ (by dsimp only; omega) _)) (Kp.trans hka (by repeat (first | with_reducible assumption | with_reducible exact Kp.refl _ | with_reducible refine Kp.drew ?_ | with_reducible refine Kp.alloc ?_ _ | with_reducible refine Kp.drewN ?_ _ | refine Kp.setCell ?_ (by dsimp only; omega) _))) (hn.kp (by repeat (first | with_reducible assumption | with_reducible exact Kp.refl _ | with_reducible refine Kp.drew ?_ | with_reducible refine Kp.alloc ?_ _ | with_reducible refine Kp.drewN ?_ _ | refine Kp.setCell ?_ (by dsimp only; omega) _)))) ?_; rintro e wr2 ⟨nl, lf, fl, rfl, hn2, hnn, hor, hka⟩; have hr2 : Kp wb wr2 := Kp.trans (by repeat (first | with_reducible assumption | with_reducible exact Kp.refl _ | with_reducible refine Kp.drew ?_ | with_reducible refine Kp.alloc ?_ _ | with_reducible refine Kp.drewN ?_ _ | refine Kp.setCell ?_ (by dsimp only; omega) _)) hka; have tok3 : True := trivial; clear tok2 _t)
      | fail)
  all_goals
    go_wp2_with fail
    go_ret
    exact ⟨L, nl, lf, fl, rfl, hn2, hnn, hor, hkw.trans hr2⟩
def csR (F : Fld) (rooms needs S : List Int) (r : Int) : Prop := CanH F.di.length F.op.length (startM F S r) (lget needs) (startR S rooms)
open Classical in
noncomputable def csB (F : Fld) (rooms needs S : List Int) (r : Int) : Bool := decide (csR F rooms needs S r)
theorem net_can {J M : Nat} {d : Nat → Nat → Int} {may : Nat → Nat → Bool} {rm nd nl lf : Nat → Int} {fl : Nat → Nat → Int} (hn : NetN J M d may rm nd nl lf fl) (hz : ∀ j, j < J → nl j = 0) : Haul J M may nd rm fl ∧ ∀ x, Haul J M may nd rm x → costT J M d fl ≤ costT J M d x :=
  hn.net.least (fun j hj => by have := hn.row j hj; have := hz j hj; omega)
theorem sum_left {J M : Nat} {d : Nat → Nat → Int} {may : Nat → Nat → Bool} {rm nd nl lf : Nat → Int} {fl : Nat → Nat → Int} (hn : NetN J M d may rm nd nl lf fl) (hor : (∀ j, j < J → nl j = 0) ∨ ((∃ j, j < J ∧ nl j ≠ 0) ∧ ∀ x, ¬ Haul J M may nd rm x)) : (sumTo nl J = 0 ∧ CanH J M may nd rm) ∨ (0 < sumTo nl J ∧ ¬ CanH J M may nd rm) := by
  rcases hor with h | ⟨⟨j, hj, hz⟩, h⟩
  · left
    refine ⟨?_, fl, (net_can hn h).1⟩
    rw [sumTo_congr h, sumTo_c0]
  · right
    refine ⟨?_, fun ⟨x, hx⟩ => h x hx⟩
    have h1 : nl j ≤ sumTo nl J := sumTo_ge (fun i _ => (hn.nb i).1) hj
    have := (hn.nb j).1
    omega
theorem sumTo_mapTo (g : Nat → Int) (n : Nat) : (mapTo g n).sum = sumTo g n := rfl
end Go.Proofs.Ytcnceocgdghciaa

namespace Go.Proofs.Ytcnceocgdghciaa
open Go.RowKit Go.Sort

/-- Where a set's sites alone are open for all, there is a haul if there is room enough. -/
theorem haul_ex {J M : Nat} {sA : Nat → Bool} {rm : Nat → Int} (hr : ∀ a, a < M → 0 ≤ rm a) : ∀ (n : Nat) (nd : Nat → Int), (∀ j, j < J → 0 ≤ nd j) → sumTo nd J = n → sumTo nd J ≤ sumTo (fun a => if sA a = true then rm a else 0) M → ∃ x, Haul J M (fun _ a => sA a) nd rm x
  | 0, nd, h0, hn, _ => by
    have hz : ∀ j, j < J → nd j = 0 := fun j hj => by have := h0 j hj; have h1 : nd j ≤ sumTo nd J := sumTo_ge h0 hj; omega
    exact ⟨fun _ _ => 0, ⟨fun _ _ _ _ => Int.le_refl _, fun _ _ _ _ h => by omega, fun j hj => by rw [hz j hj]; exact sumTo_c0 _, fun a ha => by
      have : colT J (fun _ _ => (0 : Int)) a = 0 := sumTo_c0 _
      rw [this]; exact hr a ha⟩⟩
  | n + 1, nd, h0, hn, hs => by
    obtain ⟨j0, hj0, hp⟩ := sumTo_pos' h0 (by omega)
    have h1 : sumTo (upd nd j0 (nd j0 - 1)) J = n := by rw [sumTo_upd, if_pos hj0]; omega
    obtain ⟨x, hx⟩ := haul_ex (sA := sA) hr n (upd nd j0 (nd j0 - 1)) (fun j hj => by
      by_cases e : j = j0
      · subst e; rw [upd_at]; omega
      · rw [upd_ne e]; exact h0 j hj) h1 (by omega)
    have ht : sumTo (colT J x) M = n := by rw [tot, sumTo_congr hx.row, h1]
    have hA : ∃ a, a < M ∧ sA a = true ∧ colT J x a < rm a := Classical.byContradiction (fun hno => by
      have hle : sumTo (fun a => if sA a = true then rm a else 0) M ≤ sumTo (colT J x) M := sumTo_mono' (fun a ha => by
        by_cases hs : sA a = true
        · rw [if_pos hs]; exact Int.not_lt.1 (fun hlt => hno ⟨a, ha, hs, hlt⟩)
        · rw [if_neg hs]; exact sumTo_nn (fun j hj => hx.nn j a hj ha))
      omega)
    obtain ⟨a, ha, hsa, hlt⟩ := hA
    refine ⟨upd2 x j0 a (x j0 a + 1), ⟨fun j b hj hb => ?_, fun j b hj hb hpos => ?_, fun j hj => ?_, fun b hb => ?_⟩⟩
    · by_cases e : j = j0 ∧ b = a
      · obtain ⟨rfl, rfl⟩ := e; rw [upd2_at]; have := hx.nn j b hj hb; omega
      · rw [upd2_ne (by omega)]; exact hx.nn j b hj hb
    · by_cases e : j = j0 ∧ b = a
      · obtain ⟨rfl, rfl⟩ := e; exact hsa
      · rw [upd2_ne (by omega)] at hpos; exact hx.may j b hj hb hpos
    · rw [row_upd2 _ _ ha, hx.row j hj]
      by_cases e : j = j0
      · subst e; rw [if_pos rfl, upd_at]; omega
      · rw [if_neg e, upd_ne e]; omega
    · rw [col_upd2 _ _ hj0]
      have := hx.col b hb
      by_cases e : b = a
      · subst e; rw [if_pos rfl]; omega
      · rw [if_neg e]; omega
theorem startM_open {F : Fld} {S : List Int} (hg : goodF F = true) (j a : Nat) : startM F S 99 j a = openM S j a := by
  unfold startM openM
  have := (dF_bd hg j a).2
  rw [decide_eq_true this, Bool.and_true]
theorem startR_or (F : Fld) (S rooms : List Int) (r : Int) (J a : Nat) : (∀ j, j < J → startM F S r j a = false) ∨ startR S rooms a = lget rooms a := by
  cases h : flHas S a
  · exact .inl fun j _ => by unfold startM; rw [h]; rfl
  · exact .inr (by unfold startR; rw [if_pos h])
theorem startR_nn {rooms : List Int} (S : List Int) (h : ∀ x, 0 ≤ lget rooms x ∧ lget rooms x ≤ 20) (a : Nat) : 0 ≤ startR S rooms a := by unfold startR; have := h a; split <;> omega
/-- The reference's rooms and the given ones make no difference. -/
theorem start_lst {F : Fld} {rooms needs S : List Int} (hP : HaulP F rooms needs S) {c : Int} (h : IsLst F.di.length F.op.length (dF F) (startM F S 99) (lget needs) (startR S rooms) c) : IsLst F.di.length F.op.length (dF F) (openM S) (lget needs) (lget rooms) c :=
  lst_congr (fun _ _ _ _ => rfl) (fun j a _ _ => startM_open hP.good j a) (fun _ _ => rfl) (fun a _ => startR_or F S rooms 99 F.di.length a) (fun a _ => startR_nn S hP.rb a) (fun a _ => (hP.rb a).1) h
theorem start_haul {F : Fld} {rooms needs S : List Int} (hP : HaulP F rooms needs S) {r : Int} {x : Nat → Nat → Int} (h : Haul F.di.length F.op.length (startM F S r) (lget needs) (lget rooms) x) : Haul F.di.length F.op.length (startM F S r) (lget needs) (startR S rooms) x :=
  haul_congr (fun _ _ _ _ => rfl) (fun _ _ => rfl) (fun a _ => (startR_or F S rooms r F.di.length a).imp id Eq.symm) (fun a _ => startR_nn S hP.rb a) h
theorem start_haul' {F : Fld} {rooms needs S : List Int} (hP : HaulP F rooms needs S) {r : Int} {x : Nat → Nat → Int} (h : Haul F.di.length F.op.length (startM F S r) (lget needs) (startR S rooms) x) : Haul F.di.length F.op.length (startM F S r) (lget needs) (lget rooms) x :=
  haul_congr (fun _ _ _ _ => rfl) (fun _ _ => rfl) (fun a _ => startR_or F S rooms r F.di.length a) (fun a _ => (hP.rb a).1) h
/-- With room enough the reference's net is full. -/
theorem any_full {F : Fld} {rooms needs S : List Int} (hP : HaulP F rooms needs S) (hs : needs.sum ≤ roomS rooms S) : CanH F.di.length F.op.length (startM F S 99) (lget needs) (startR S rooms) := by
  obtain ⟨x, hx⟩ := haul_ex (J := F.di.length) (M := F.op.length) (sA := fun a => flHas S a) (rm := lget rooms) (fun a _ => (hP.rb a).1) (sumTo (lget needs) F.di.length).toNat (lget needs) (fun j _ => (hP.nb j).1) (by have : 0 ≤ sumTo (lget needs) F.di.length := sumTo_nn (fun j _ => (hP.nb j).1); omega) (by rw [hP.ns, hP.rs]; exact hs)
  exact ⟨x, start_haul hP (haul_congr (fun j a _ _ => by rw [startM_open hP.good]; rfl) (fun _ _ => rfl) (fun _ _ => .inr rfl) (fun a _ => (hP.rb a).1) hx)⟩
theorem net_grid {w : World} {base : Nat} {L : NetL} {J M : Nat} {nl lf : Nat → Int} {fl : Nat → Nat → Int} {may : Nat → Nat → Bool} (h : NetS w base L J M nl lf fl may) (hJ : J ≤ 1000) (hM : M ≤ 1000) : GridAt w L.fA (matL J M fl) := by
  by_cases h0 : 0 < J
  · rw [h.fa h0]; exact (h.fl h0).grid (by omega) (by omega)
  · obtain rfl : J = 0 := by omega
    exact ⟨by simp [matL], fun k hk => by simp [matL] at hk⟩
set_option maxRecDepth 100000 in
set_option maxHeartbeats 1000000 in
theorem specLf_any (f : Value) (F : Fld) (A1 : Option Addr) (rooms : List Int) (n1 c1 : Nat) (A2 : Option Addr) (needs : List Int) (n2 c2 : Nat) (A3 : Option Addr) (S : List Int) (n3 c3 : Nat) (w : World) (hf : FldAt w f F) (h1 : IntsAt w A1 rooms) (hn1 : rooms.length = n1) (h2 : IntsAt w A2 needs) (hn2 : needs.length = n2) (h3 : IntsAt w A3 S) (hn3 : S.length = n3) :
    Calls Try.prog 19 #[f, .slice A1 n1 c1, .slice A2 n2 c2, .slice A3 n3 c3] w fun e w' => e = .returned (.tuple #[.int .i64 (lfV F rooms needs S), .bool (lfOk F rooms needs S)]) ∧ Kp w w' := by
  obtain ⟨A, c, B, d, rfl, hA, hB⟩ := hf
  have hk0 : Kp w (w.alloc (.cells #[.slice A F.op.length c, .slice B F.di.length d] 27)) := (Kp.refl w).alloc _
  obtain ⟨d0, d1⟩ := box2 w (.slice A F.op.length c) (.slice B F.di.length d) 27
  have hFA := FldAt.kp (show FldAt w (.agg #[.slice A F.op.length c, .slice B F.di.length d]) F from ⟨A, c, B, d, rfl, hA, hB⟩) hk0
  replace h1 := h1.kp hk0
  replace h2 := h2.kp hk0
  replace h3 := h3.kp hk0
  have Hn1 := Lib.hid hn1; have Hn2 := Lib.hid hn2; have Hn3 := Lib.hid hn3
  clear hA hB hn1 hn2 hn3
  go_enter Try.func19, Try.ntmps19
  go_wp2_with fail
  have hsz : Hid ((w.alloc (.cells #[.slice A F.op.length c, .slice B F.di.length d] 27)).heap.size = w.heap.size + 1) := by show _ = _; simp
  generalize w.alloc (.cells #[.slice A F.op.length c, .slice B F.di.length d] 27) = wb at *
  have hkb : Kp wb wb := Kp.refl _
  have hkw := hk0
  have CC := Lib.hid (l7Can_any _ F A1 rooms n1 c1 A2 needs n2 c2 A3 S n3 c3 _ (hFA.kp hkb) (h1.kp hkb) Hn1.out (h2.kp hkb) Hn2.out (h3.kp hkb) Hn3.out)
  with_reducible refine Calls.mono CC.out ?_
  rintro e w1 ⟨rfl, hk1⟩
  clear CC
  replace hkb := hkb.trans hk1
  cases hh_ : lfOk F rooms needs S
  · have Hno : Hid (lfOk F rooms needs S = false) := hh_
    clear hh_
    have q_d0 := hkb.get d0
    have q_d1 := hkb.get d1
    go_wp2_with fail
    go_ret2
    exact ⟨by rw [lfV_no Hno.out, Hno.out]; rfl, hkw.trans hkb⟩
  have Hok := Lib.hid hh_
  have HH : Hid (haulB F rooms needs S = true ∧ needs.sum ≤ roomS rooms S) := by
    have := hh_
    unfold lfOk at this
    rw [Bool.and_eq_true, decide_eq_true_eq] at this
    exact this
  have HP := Lib.hid (haul_p HH.out.1)
  clear hh_
  have h8 := (goodF_iff.1 HP.out.good).2.2.1
  have h7 := (goodF_iff.1 HP.out.good).1
  have C0 := Lib.hid (fun (wx : World) (hx : Kp w1 wx) => (l7Any_any _ F A1 rooms n1 c1 A2 needs n2 c2 A3 S n3 c3 wx (hFA.kp (hkb.trans hx)) (h1.kp (hkb.trans hx)) Hn1.out (h2.kp (hkb.trans hx)) Hn2.out (h3.kp (hkb.trans hx)) Hn3.out HP.out).mono (fun e w' hp => by
    obtain ⟨L, nl, lf, fl, he, hN, hNn, hor, hk⟩ := hp
    have hz : ∀ j, j < F.di.length → nl j = 0 := by
      rcases hor with h | ⟨_, h⟩
      · exact h
      · obtain ⟨x, hx⟩ := any_full HP.out HH.out.2
        exact absurd hx (h x)
    exact (⟨L.fA, L.cf, fl, he, net_grid hN (by omega) (by omega), start_lst HP.out ⟨⟨fl, (net_can hNn hz).1, rfl⟩, (net_can hNn hz).2⟩, start_haul' HP.out (net_can hNn hz).1, hk⟩ : ∃ (fA : Option Addr) (cf : Nat) (fl : Nat → Nat → Int), e = .returned (.slice fA F.di.length cf) ∧ GridAt w' fA (matL F.di.length F.op.length fl) ∧ IsLst F.di.length F.op.length (dF F) (openM S) (lget needs) (lget rooms) (costT F.di.length F.op.length (dF F) fl) ∧ Haul F.di.length F.op.length (startM F S 99) (lget needs) (lget rooms) fl ∧ Kp wx w')))
  have C1 := Lib.hid (fun (wx : World) (hx : Kp w1 wx) (fA : Option Addr) (cf : Nat) (fl : Nat → Nat → Int) (hg : GridAt wx fA (matL F.di.length F.op.length fl)) (hl : IsLst F.di.length F.op.length (dF F) (openM S) (lget needs) (lget rooms) (costT F.di.length F.op.length (dF F) fl)) (hh : Haul F.di.length F.op.length (startM F S 99) (lget needs) (lget rooms) fl) =>
    (show Calls Try.prog 29 #[.agg #[.slice A F.op.length c, .slice B F.di.length d], .slice fA F.di.length cf] wx (fun e w' => e = .returned (.int .i64 (lfV F rooms needs S)) ∧ Kp wx w') from by
      rw [lfV_yes Hok.out hl, ← cost_mat fl]
      exact l7Cost_any _ F rooms needs S fA (matL F.di.length F.op.length fl) F.di.length cf wx (hFA.kp (hkb.trans hx)) hg (matL_len _ _ _) HH.out.1 (haul_flow (S := S) (fun j a _ _ h => by rw [startM_open HP.out.good] at h; exact h) hh)))
  have q0 := hkb.get d0
  have q1 := hkb.get d1
  have hkz : Kp w1 w1 := Kp.refl _
  have q_q0 := hkz.get q0
  have q_q1 := hkz.get q1
  go_wp2_with fail
  clear q_q0 q_q1
  have q_q0 := hkz.get q0
  have q_q1 := hkz.get q1
  have tok1 : True := trivial
  go_wp2_with fail
  go_region_held3 (fun w' => w'.cell? ⟨w.heap.size, 0, none⟩ = some (.slice A F.op.length c) ∧ w'.cell? ⟨w.heap.size, 1, none⟩ = some (.slice B F.di.length d) ∧ Kp w1 w')
    (first | (refine keepc2 q0 q1 ?_; exact (by repeat (first | with_reducible assumption | with_reducible exact Kp.refl _ | with_reducible refine Kp.drew ?_ | with_reducible refine Kp.alloc ?_ _ | with_reducible refine Kp.drewN ?_ _ | refine Kp.setCell ?_ (by dsimp only; omega) _))) | fail)
    (first
      | (have _t := tok1; go_at_call 43; with_reducible refine Calls.mono (C0.out _ (by repeat (first | with_reducible assumption | with_reducible exact Kp.refl _ | with_reducible refine Kp.drew ?_ | with_reducible refine Kp.alloc ?_ _ | with_reducible refine Kp.drewN ?_ _ | refine Kp.setCell ?_ (by dsimp only; omega) _))) ?_; rintro e wr1 ⟨fA, cf, fl, rfl, hg, hl, hh, hka⟩; have hr1 : Kp w1 wr1 := Kp.trans (by repeat (first | with_reducible assumption | with_reducible exact Kp.refl _ | with_reducible refine Kp.drew ?_ | with_reducible refine Kp.alloc ?_ _ | with_reducible refine Kp.drewN ?_ _ | refine Kp.setCell ?_ (by dsimp only; omega) _)) hka; have tok2 : True := trivial; clear tok1 _t)
      | (have _t := tok2; go_at_call 29; with_reducible refine Calls.mono (C1.out _ (by repeat (first | with_reducible assumption | with_reducible exact Kp.refl _ | with_reducible refine Kp.drew ?_ | with_reducible refine Kp.alloc ?_ _ | with_reducible refine Kp.drewN ?_ _ | refine Kp.setCell ?_ (by dsimp only; omega) _)) fA cf fl (hg.kp (by repeat (first | with_reducible assumption | with_reducible exact Kp.refl _ | with_reducible refine Kp.drew ?_ | with_reducible refine Kp.alloc ?_ _ | with_reducible refine Kp.drewN ?_ _ | refine Kp.setCell ?_ (by dsimp only; omega) _))) hl hh) ?_; rintro e wr2 ⟨rfl, hka⟩; have hr2 : Kp w1 wr2 := Kp.trans (by repeat (first | with_reducible assumption | with_reducible exact Kp.refl _ | with_reducible refine Kp.drew ?_ | with_reducible refine Kp.alloc ?_ _ | with_reducible refine Kp.drewN ?_ _ | refine Kp.setCell ?_ (by dsimp only; omega) _)) hka; have tok3 : True := trivial; clear tok2 _t)
      | fail)
  all_goals
    go_wp2_with fail
    go_ret2
    exact ⟨by rw [Hok.out]; rfl, (hkw.trans hkb).trans hr2⟩
def csOk (F : Fld) (rooms needs S : List Int) (r : Int) : Bool := haulB F rooms needs S && decide (0 ≤ r)
noncomputable def csV (F : Fld) (rooms needs S : List Int) (r : Int) : Bool := csOk F rooms needs S r && csB F rooms needs S r
end Go.Proofs.Ytcnceocgdghciaa

namespace Go.Proofs.Ytcnceocgdghciaa
open Go.RowKit Go.Sort

set_option maxHeartbeats 400000 in
theorem l1Least_any (a b : Int) (w : World) :
    Calls Try.prog 77 #[.int .i64 a, .int .i64 b] w fun e w' => e = .returned (.int .i64 (min a b)) ∧ w = w' := by
  go_enter Try.func77, Try.ntmps77
  go_wp2
  all_goals go_ret
  all_goals refine ⟨ret_int ?_, rfl⟩
  all_goals omega
end Go.Proofs.Ytcnceocgdghciaa

namespace Go.Proofs.Ytcnceocgdghciaa
open Go.RowKit Go.Sort

def minTo (g : Nat → Int) : Nat → Int
  | 0 => g 0
  | k + 1 => min (minTo g k) (g (k + 1))
theorem le_minTo {g : Nat → Int} {x : Int} : ∀ k, x ≤ minTo g k ↔ ∀ i, i ≤ k → x ≤ g i
  | 0 => ⟨fun h i hi => by obtain rfl : i = 0 := by omega
                           exact h, fun h => h 0 (Nat.le_refl _)⟩
  | k + 1 => by
    have h1 := le_minTo (g := g) (x := x) k
    show x ≤ min (minTo g k) (g (k + 1)) ↔ _
    rw [show (x ≤ min (minTo g k) (g (k + 1))) ↔ x ≤ minTo g k ∧ x ≤ g (k + 1) from by omega, h1]
    constructor
    · rintro ⟨h2, h3⟩ i hi
      by_cases e : i = k + 1
      · subst e; exact h3
      · exact h2 i (by omega)
    · intro h; exact ⟨fun i hi => h i (by omega), h _ (Nat.le_refl _)⟩
theorem minTo_bd {g : Nat → Int} {M : Int} {K : Nat} (h : ∀ i, i ≤ K → 0 ≤ g i ∧ g i ≤ M) : ∀ k, k ≤ K → 0 ≤ minTo g k ∧ minTo g k ≤ M
  | 0, hk => h 0 hk
  | k + 1, hk => by
    have h1 := minTo_bd h k (by omega)
    have h2 := h (k + 1) hk
    show 0 ≤ min (minTo g k) (g (k + 1)) ∧ min (minTo g k) (g (k + 1)) ≤ M
    omega
/-- A site's length and its price, and the least of these. -/
def valF (F : Fld) (ws : List Int) (j : Nat) (s : Int) : Int := dAt F j s + lget ws s.toNat
def offG (F : Fld) (S ws : List Int) (j i : Nat) : Int := valF F ws j (S.getD i 0)
def offF (F : Fld) (S ws : List Int) (j : Nat) : Int := minTo (offG F S ws j) (S.length - 1)
theorem offG_at {F : Fld} {S ws : List Int} {j i : Nat} (h : i < S.length) : offG F S ws j i = valF F ws j S[i] := by simp [offG, List.getD, h]
theorem le_off {F : Fld} {S ws : List Int} {j : Nat} {x : Int} (hne : S ≠ []) : x ≤ offF F S ws j ↔ ∀ s ∈ S, x ≤ valF F ws j s := by
  have hp : 0 < S.length := List.length_pos_iff.2 hne
  unfold offF
  rw [le_minTo]
  constructor
  · intro h s hs
    obtain ⟨i, hi, rfl⟩ := List.mem_iff_getElem.1 hs
    rw [← offG_at hi]; exact h i (by omega)
  · intro h i hi
    have hi2 : i < S.length := by omega
    rw [offG_at hi2]; exact h _ (List.getElem_mem hi2)
theorem valF_bd {F : Fld} {ws : List Int} {j : Nat} {s : Int} (hg : goodF F = true) (hj : j < F.di.length) (hw : ∀ x ∈ ws, 0 ≤ x ∧ x ≤ 999) : 0 ≤ valF F ws j s ∧ valF F ws j s ≤ 1098 := by
  have h1 := dAt_bd hg hj s
  have h2 := lget_all (M := 999) (by omega) hw s.toNat
  unfold valF; omega
def prW (S ws : List Int) (k : Nat) : Bool := (List.range k).all fun a => !(decide (0 < lget ws a) && !flHas S a)
def prU (F : Fld) (S ws us : List Int) (k : Nat) : Bool := (List.range k).all fun j => inB (lget us j) (-999) 999 && decide (lget us j ≤ offF F S ws j)
def prB (F : Fld) (S us ws : List Int) : Bool := decide (us.length = F.di.length) && (numsB ws F.op.length 999 && (prW S ws ws.length && prU F S ws us us.length))
theorem prW_succ {S ws : List Int} {k : Nat} : prW S ws (k + 1) = (prW S ws k && !(decide (0 < lget ws k) && !flHas S k)) := by
  unfold prW; rw [List.range_succ, List.all_append]; simp
theorem prU_succ {F : Fld} {S ws us : List Int} {k : Nat} : prU F S ws us (k + 1) = (prU F S ws us k && (inB (lget us k) (-999) 999 && decide (lget us k ≤ offF F S ws k))) := by
  unfold prU; rw [List.range_succ, List.all_append]; simp
theorem prW_no {S ws : List Int} {k K : Nat} (hk : k < K) (h1 : 0 < lget ws k) (h2 : flHas S k = false) : prW S ws K = false := by
  unfold prW
  rw [List.all_eq_false]
  exact ⟨k, List.mem_range.2 hk, by simp [h1, h2]⟩
theorem prU_no {F : Fld} {S ws us : List Int} {k K : Nat} (hk : k < K) (h : (inB (lget us k) (-999) 999 && decide (lget us k ≤ offF F S ws k)) = false) : prU F S ws us K = false := by
  unfold prU
  rw [List.all_eq_false]
  exact ⟨k, List.mem_range.2 hk, by simp [h]⟩
theorem prW_iff {S ws : List Int} {k : Nat} : prW S ws k = true ↔ ∀ a, a < k → 0 < lget ws a → flHas S a = true := by
  unfold prW
  rw [List.all_eq_true]
  constructor
  · intro h a ha hp
    have := h a (List.mem_range.2 ha)
    simpa [hp] using this
  · intro h a ha
    have := h a (List.mem_range.1 ha)
    by_cases hp : 0 < lget ws a
    · simp [hp, this hp]
    · simp [hp]
theorem prU_iff {F : Fld} {S ws us : List Int} {k : Nat} : prU F S ws us k = true ↔ ∀ j, j < k → (-999 ≤ lget us j ∧ lget us j ≤ 999) ∧ lget us j ≤ offF F S ws j := by
  unfold prU
  rw [List.all_eq_true]
  constructor
  · intro h a ha
    have := h a (List.mem_range.2 ha)
    rw [Bool.and_eq_true, inB_iff, decide_eq_true_eq] at this; exact this
  · intro h a ha
    rw [Bool.and_eq_true, inB_iff, decide_eq_true_eq]; exact h a (List.mem_range.1 ha)
theorem prB_iff {F : Fld} {S us ws : List Int} : prB F S us ws = true ↔ us.length = F.di.length ∧ ((∀ x ∈ ws, 0 ≤ x ∧ x ≤ 999) ∧ ws.length = F.op.length) ∧ (∀ a, a < ws.length → 0 < lget ws a → flHas S a = true) ∧ ∀ j, j < us.length → (-999 ≤ lget us j ∧ lget us j ≤ 999) ∧ lget us j ≤ offF F S ws j := by
  unfold prB
  rw [Bool.and_eq_true, Bool.and_eq_true, Bool.and_eq_true, decide_eq_true_eq, numsB_iff, prW_iff, prU_iff]
theorem lgetCell {w : World} {ad : Addr} {xs : List Int} {a : Int} (h : IntsAt w (some ad) xs) (h1 : a.toNat < xs.length) : w.cell? (ad.add a.toNat) = some (.int .i64 (lget xs a.toNat)) := by
  rw [h.some_ h1, lget_at h1]
set_option maxRecDepth 100000 in
set_option maxHeartbeats 2000000 in
theorem l7Offer_any (f : Value) (F : Fld) (A3 : Option Addr) (S : List Int) (n3 c3 : Nat) (A5 : Option Addr) (ws : List Int) (n5 c5 : Nat) (j : Nat) (w : World) (hf : FldAt w f F) (h3 : IntsAt w A3 S) (hn3 : S.length = n3) (h5 : IntsAt w A5 ws) (hn5 : ws.length = n5) (ho : openedB F S = true) (hw : ∀ x ∈ ws, 0 ≤ x ∧ x ≤ 999) (hl : ws.length = F.op.length) (hj : j < F.di.length) :
    Calls Try.prog 64 #[f, .slice A3 n3 c3, .slice A5 n5 c5, .int .i64 j] w fun e w' => e = .returned (.int .i64 (offF F S ws j)) ∧ Kp w w' := by
  obtain ⟨A, c, B, d, rfl, hA, hB⟩ := hf
  have hk0 : Kp w (w.alloc (.cells #[.slice A F.op.length c, .slice B F.di.length d] 27)) := (Kp.refl w).alloc _
  obtain ⟨d0, d1⟩ := box2 w (.slice A F.op.length c) (.slice B F.di.length d) 27
  have hFA := FldAt.kp (show FldAt w (.agg #[.slice A F.op.length c, .slice B F.di.length d]) F from ⟨A, c, B, d, rfl, hA, hB⟩) hk0
  replace h3 := h3.kp hk0
  replace h5 := h5.kp hk0
  replace hB := hB.kp hk0
  have HO := Lib.hid (openedB_parts ho)
  have HS := Lib.hid (set_mem HO.out.2.1)
  have hp : 0 < S.length := List.length_pos_iff.2 HO.out.2.2
  have hop := (goodF_iff.1 HO.out.1).1.1
  have hs7 : n3 ≤ 9223372036854775807 := hn3 ▸ h3.1
  have Hn3 := Lib.hid hn3; have Hn5 := Lib.hid hn5; have Hl := Lib.hid hl
  have HV := Lib.hid (fun s => valF_bd (s := s) HO.out.1 hj hw)
  have HG := Lib.hid (fun k (hk : k < S.length) => minTo_bd (g := offG F S ws j) (K := S.length) (M := 1098) (fun i _ => HV.out _) k (Nat.le_of_lt hk))
  obtain ⟨bd, A4, c4, hBe, hcr, hrr⟩ := hB.at_ hj
  have HBe := Lib.hid hBe
  clear hBe
  have hrl := goodRow HO.out.1 hj
  obtain ⟨rd, hAe⟩ : ∃ rd, A4 = some rd := by obtain ⟨rd, e, _⟩ := hrr.at_ (k := 0) (by omega); exact ⟨rd, e⟩
  subst hAe
  obtain ⟨wd, hWe⟩ : ∃ wd, A5 = some wd := by obtain ⟨wd, e, _⟩ := h5.at_ (k := 0) (by omega); exact ⟨wd, e⟩
  subst hWe
  have p3 : 0 < n3 := by omega
  have hOf : Hid (offF F S ws j = minTo (offG F S ws j) (n3 - 1)) := by show _ = _; rw [offF, hn3]
  have Hrl := Lib.hid hrl
  clear hA hn3 hn5 ho hw hl hrl hop
  obtain ⟨s0, hSe, hc0⟩ := h3.at_ hp
  obtain ⟨x1, x2⟩ := HS.out _ (List.getElem_mem hp)
  have y1 : S[0].toNat < F.di[j].length := by rw [Hrl.out]; omega
  have y2 : S[0].toNat < ws.length := by rw [Hl.out]; omega
  have y3 : S[0].toNat < n5 := by rw [← Hn5.out]; exact y2
  have hc1 := dCell hj hrr x1 (by omega)
  have hc2 := lgetCell h5 y2
  obtain ⟨v1, v2⟩ := HV.out S[0]
  obtain ⟨v3, v4⟩ := dAt_bd HO.out.1 hj S[0]
  have Hg0 : Hid (minTo (offG F S ws j) 0 = dAt F j S[0] + lget ws S[0].toNat) := by show _ = _; show offG F S ws j 0 = _; rw [offG_at hp]; rfl
  rw [show valF F ws j S[0] = dAt F j S[0] + lget ws S[0].toNat from rfl] at v1 v2
  subst hSe
  rw [show s0.add 0 = s0 from rfl] at hc0
  generalize hss : S[0] = z at *
  clear hss
  go_enter Try.func64, Try.ntmps64
  go_wp2_with fail
  have hsz : Hid ((w.alloc (.cells #[.slice A F.op.length c, .slice B F.di.length d] 27)).heap.size = w.heap.size + 1) := by show _ = _; simp
  generalize w.alloc (.cells #[.slice A F.op.length c, .slice B F.di.length d] 27) = wb at *
  have hkb : Kp wb wb := Kp.refl _
  have hkw := hk0
  have hBe := HBe.out
  subst hBe
  have q_d0 := hkb.get d0
  have q_d1 := hkb.get d1
  go_wp2_with fail
  go_quiet (fail)
  go_wp2_with fail
  have hkr := hkb.drewN nq
  go_loopw [9, 10] (fun bv iv wr => ∃ i k : Nat, Hid (i = k + 1) ∧ i ≤ n3 ∧ iv = .int .i64 i ∧ bv = .int .i64 (minTo (offG F S ws j) k) ∧ Kp wb wr) (fun _ iv _ => n3 - (intOf iv).toNat)
  case atStart => exact ⟨1, 0, rfl, p3, rfl, by rw [Hg0.out], hkr⟩
  case round =>
    clear hkr
    obtain ⟨i, k, Hik, hi, rfl, rfl, hkr⟩ := hrel
    obtain ⟨v5, v6⟩ := HG.out k (by have := Hik.out; rw [Hn3.out]; omega)
    by_cases hlt : i < n3
    · have lx : i < S.length := by rw [Hn3.out]; exact hlt
      have hc0 := h3.some_ lx
      obtain ⟨x1, x2⟩ := HS.out _ (List.getElem_mem lx)
      have y1 : S[i].toNat < F.di[j].length := by rw [Hrl.out]; omega
      have y2 : S[i].toNat < ws.length := by rw [Hl.out]; omega
      have y3 : S[i].toNat < n5 := by rw [← Hn5.out]; exact y2
      have hc1 := dCell hj hrr x1 (by omega)
      have hc2 := lgetCell h5 y2
      obtain ⟨v1, v2⟩ := HV.out S[i]
      obtain ⟨v3, v4⟩ := dAt_bd HO.out.1 hj S[i]
      have Hgk : Hid (minTo (offG F S ws j) i = min (minTo (offG F S ws j) k) (dAt F j S[i] + lget ws S[i].toNat)) := by
        show _ = _
        have e := Hik.out
        subst e
        show min (minTo (offG F S ws j) k) (offG F S ws j (k + 1)) = _
        rw [offG_at lx]; rfl
      rw [show valF F ws j S[i] = dAt F j S[i] + lget ws S[i].toNat from rfl] at v1 v2
      generalize hss : S[i] = z at *
      clear hss
      generalize minTo (offG F S ws j) k = q at *
      have CL := Lib.hid (fun (wx : World) => l1Least_any q (dAt F j z + lget ws z.toNat) wx)
      have q0 := hkr.get d0
      have q1 := hkr.get d1
      have q2 := hkr.get hcr
      have q3 := hkr.get hc0
      have q4 := hkr.get hc1
      have q5 := hkr.get hc2
      go_wp2_with fail
      go_quiet ((go_at_call 77; exact Calls.same_quiet (CL.out _)))
      go_wp2_with fail
      go_roundw
      case rel => exact ⟨i + 1, i, rfl, by omega, by go_num, by rw [Hgk.out], hkr.drewN _⟩
      case measure => simp [intOf]; omega
    · have e : n3 - 1 = k := by have := Hik.out; omega
      rw [e] at hOf
      go_wp2_with fail
      go_ret
      exact ⟨ret_int hOf.out.symm, hkw.trans hkr⟩
end Go.Proofs.Ytcnceocgdghciaa

namespace Go.Proofs.Ytcnceocgdghciaa
open Go.RowKit Go.Sort

theorem pr_no {F : Fld} {S us ws : List Int} (h : ¬ prB F S us ws = true) : prB F S us ws = false := by simpa using h
theorem pr_len {F : Fld} {S us ws : List Int} (h : us.length ≠ F.di.length) : prB F S us ws = false := pr_no fun hb => h (prB_iff.1 hb).1
theorem pr_nums {F : Fld} {S us ws : List Int} (h : numsB ws F.op.length 999 = false) : prB F S us ws = false := pr_no fun hb => by
  rw [numsB_iff.2 (prB_iff.1 hb).2.1] at h; cases h
theorem pr_w {F : Fld} {S us ws : List Int} {a : Nat} (ha : a < ws.length) (h1 : 0 < lget ws a) (h2 : flHas S a = false) : prB F S us ws = false := pr_no fun hb => by
  rw [(prB_iff.1 hb).2.2.1 a ha h1] at h2; cases h2
theorem pr_u {F : Fld} {S us ws : List Int} {j : Nat} (hj : j < us.length) (h : ¬ ((-999 ≤ lget us j ∧ lget us j ≤ 999) ∧ lget us j ≤ offF F S ws j)) : prB F S us ws = false := pr_no fun hb => h ((prB_iff.1 hb).2.2.2 j hj)
set_option maxRecDepth 100000 in
set_option maxHeartbeats 2000000 in
theorem l7Prices_any (f : Value) (F : Fld) (A3 : Option Addr) (S : List Int) (n3 c3 : Nat) (A4 : Option Addr) (us : List Int) (n4 c4 : Nat) (A5 : Option Addr) (ws : List Int) (n5 c5 : Nat) (w : World) (hf : FldAt w f F) (h3 : IntsAt w A3 S) (hn3 : S.length = n3) (h4 : IntsAt w A4 us) (hn4 : us.length = n4) (h5 : IntsAt w A5 ws) (hn5 : ws.length = n5) (ho : openedB F S = true) :
    Calls Try.prog 33 #[f, .slice A3 n3 c3, .slice A4 n4 c4, .slice A5 n5 c5] w fun e w' => e = .returned (.bool (prB F S us ws)) ∧ Kp w w' := by
  have hm4 : n4 ≤ 9223372036854775807 := hn4 ▸ h4.1
  have hm5 : n5 ≤ 9223372036854775807 := hn5 ▸ h5.1
  obtain ⟨A, c, B, d, rfl, hA, hB⟩ := hf
  have hk0 : Kp w (w.alloc (.cells #[.slice A F.op.length c, .slice B F.di.length d] 27)) := (Kp.refl w).alloc _
  obtain ⟨d0, d1⟩ := box2 w (.slice A F.op.length c) (.slice B F.di.length d) 27
  have hFA := FldAt.kp (show FldAt w (.agg #[.slice A F.op.length c, .slice B F.di.length d]) F from ⟨A, c, B, d, rfl, hA, hB⟩) hk0
  replace h3 := h3.kp hk0
  replace h4 := h4.kp hk0
  replace h5 := h5.kp hk0
  have Hn3 := Lib.hid hn3; have Hn4 := Lib.hid hn4; have Hn5 := Lib.hid hn5
  have HO := Lib.hid ho
  clear hA hB hn3 hn4 hn5 ho
  by_cases hmd : n4 = F.di.length
  case neg =>
    have hne : ((n4 : Int) != (F.di.length : Int)) = true := by simp; omega
    have Hno : Hid (prB F S us ws = false) := pr_len (by rw [Hn4.out]; exact hmd)
    go_enter Try.func33, Try.ntmps33
    go_wp2_with fail
    go_ret
    exact ⟨ret_bool Hno.out.symm, hk0⟩
  have hne : ((n4 : Int) != (F.di.length : Int)) = false := by simp; omega
  have Hmd := Lib.hid hmd
  clear hmd
  go_enter Try.func33, Try.ntmps33
  go_wp2_with fail
  have hsz : Hid ((w.alloc (.cells #[.slice A F.op.length c, .slice B F.di.length d] 27)).heap.size = w.heap.size + 1) := by show _ = _; simp
  generalize w.alloc (.cells #[.slice A F.op.length c, .slice B F.di.length d] 27) = wb at *
  have hkb : Kp wb wb := Kp.refl _
  have hkw := hk0
  have q_d0 := hkb.get d0
  have q_d1 := hkb.get d1
  go_wp2_with fail
  have CC := Lib.hid (l7Numbers_any A5 ws n5 c5 F.op.length 999 wb h5 Hn5.out)
  with_reducible refine Calls.mono CC.out ?_
  rintro e w1 ⟨rfl, hw⟩
  obtain rfl := hw
  clear CC q_d0 q_d1
  cases hg_ : numsB ws F.op.length 999
  · have Hno : Hid (prB F S us ws = false) := pr_nums hg_
    clear hg_
    have q_d0 := hkb.get d0
    have q_d1 := hkb.get d1
    go_wp2_with fail
    go_ret
    exact ⟨ret_bool Hno.out.symm, hkw⟩
  have HW := Lib.hid (numsB_iff.1 hg_)
  clear hg_
  have q_d0 := hkb.get d0
  have q_d1 := hkb.get d1
  go_wp2_with fail
  go_loop [9] (fun iv => ∃ a : Nat, a ≤ n5 ∧ iv = .int .i64 a ∧ Hid (prW S ws a = true)) (fun iv => n5 - (intOf iv).toNat)
  case atStart => exact ⟨0, by omega, rfl, rfl⟩
  case round =>
    obtain ⟨a, ha, rfl, Hw⟩ := hrel
    by_cases hla : a < n5
    · have l5 : a < ws.length := by rw [Hn5.out]; exact hla
      obtain ⟨wd, rfl, hwc⟩ := h5.at_ l5
      rw [← lget_at l5] at hwc
      by_cases hp : 0 < lget ws a
      · clear q_d0 q_d1
        have q_d0 := hkb.get d0
        have q_d1 := hkb.get d1
        go_wp2_with fail
        have CC := Lib.hid (l1Has_any A3 S n3 c3 (a : Int) _ h3 Hn3.out)
        with_reducible refine Calls.mono CC.out ?_
        rintro e w2 ⟨rfl, hw⟩
        obtain rfl := hw
        clear CC q_d0 q_d1
        cases hh : (S.any fun y => y == (a : Int))
        · have Hno : Hid (prB F S us ws = false) := pr_w l5 hp hh
          clear hh
          have q_d0 := hkb.get d0
          have q_d1 := hkb.get d1
          go_wp2_with fail
          go_ret
          exact ⟨ret_bool Hno.out.symm, hkw⟩
        · have Hy : Hid (prW S ws (a + 1) = true) := by show _ = _; rw [prW_succ, Hw.out, flHas, hh]; simp
          clear hh
          have q_d0 := hkb.get d0
          have q_d1 := hkb.get d1
          go_wp2_with fail
          go_round
          case rel => exact ⟨a + 1, by omega, by go_num, Hy⟩
          case measure => simp [intOf]; omega
      · have Hy : Hid (prW S ws (a + 1) = true) := by show _ = _; rw [prW_succ, Hw.out, decide_eq_false hp]; rfl
        clear q_d0 q_d1
        have q_d0 := hkb.get d0
        have q_d1 := hkb.get d1
        go_wp2_with fail
        go_round
        case rel => exact ⟨a + 1, by omega, by go_num, Hy⟩
        case measure => simp [intOf]; omega
    · obtain rfl : a = n5 := by omega
      clear q_d0 q_d1
      have q_d0 := hkb.get d0
      have q_d1 := hkb.get d1
      go_wp2_with fail
      go_loopw [10] (fun iv wr => ∃ j : Nat, j ≤ n4 ∧ iv = .int .i64 j ∧ Hid (prU F S ws us j = true) ∧ Kp wb wr) (fun iv _ => n4 - (intOf iv).toNat)
      case atStart => exact ⟨0, by omega, rfl, rfl, hkb⟩
      case round =>
        clear hkb
        obtain ⟨j, hj, rfl, Hu, hkb⟩ := hrel
        by_cases hlj : j < n4
        · have l4 : j < us.length := by rw [Hn4.out]; exact hlj
          have ld : j < F.di.length := by rw [← Hmd.out]; exact hlj
          obtain ⟨ud, rfl, huc⟩ := h4.at_ l4
          rw [← lget_at l4] at huc
          have Hbad := Lib.hid (fun h => pr_u (F := F) (S := S) (us := us) (ws := ws) l4 h)
          have Hsu := Lib.hid (prU_succ (F := F) (S := S) (ws := ws) (us := us) (k := j))
          have C1 := Lib.hid (fun (wx : World) => l1In_any (lget us j) (-999) 999 wx)
          have C2 := Lib.hid (fun (wx : World) (hx : Kp wb wx) => l7Offer_any _ F A3 S n3 c3 A5 ws a c5 j wx (hFA.kp hx) (h3.kp hx) Hn3.out (h5.kp hx) Hn5.out HO.out HW.out.1 HW.out.2 ld)
          cases hin : inB (lget us j) (-999) 999
          · have Hno : Hid (prB F S us ws = false) := Hbad.out (fun h => by rw [inB_iff.2 h.1] at hin; cases hin)
            rw [hin] at C1
            clear hin
            have q0 := hkb.get d0
            have q1 := hkb.get d1
            have q2 := hkb.get huc
            go_wp2_with fail
            go_quiet ((go_at_call 63; exact Calls.same_quiet (C1.out _)))
            go_wp2_with fail
            go_ret
            exact ⟨ret_bool Hno.out.symm, hkw.trans (hkb.drewN _)⟩
          · have Hin := Lib.hid hin
            rw [hin] at C1
            clear hin
            generalize hoo : offF F S ws j = q at *
            clear hoo
            by_cases hle : lget us j ≤ q
            · have Hy : Hid (prU F S ws us (j + 1) = true) := by show _ = _; rw [Hsu.out, Hu.out, Hin.out, decide_eq_true hle]; rfl
              have hgt : ¬ q < lget us j := by omega
              clear hle
              clear q_d0 q_d1
              have q_d0 := hkb.get d0
              have q_d1 := hkb.get d1
              have q_huc := hkb.get huc
              have tok1 : True := trivial
              go_wp2_with fail
              go_region_held3 (fun w' => w'.cell? ⟨w.heap.size, 0, none⟩ = some (.slice A F.op.length c) ∧ w'.cell? ⟨w.heap.size, 1, none⟩ = some (.slice B F.di.length d) ∧ w'.cell? (ud.add j) = some (.int .i64 (lget us j)) ∧ Kp wb w')
                (first | (refine keepc3 d0 d1 huc ?_; exact (by repeat (first | with_reducible assumption | with_reducible exact Kp.refl _ | with_reducible refine Kp.drew ?_ | with_reducible refine Kp.alloc ?_ _ | with_reducible refine Kp.drewN ?_ _ | refine Kp.setCell ?_ (by dsimp only; omega) _))) | fail)
                (first
                  | (have _t := tok1; go_at_call 63; with_reducible refine Calls.mono (C1.out _) ?_; rintro e wr1 ⟨rfl, hw⟩; obtain rfl := hw; have tok2 : True := trivial; clear tok1 _t)
                  | (have _t := tok2; go_at_call 64; with_reducible refine Calls.mono (C2.out _ (by repeat (first | with_reducible assumption | with_reducible exact Kp.refl _ | with_reducible refine Kp.drew ?_ | with_reducible refine Kp.alloc ?_ _ | with_reducible refine Kp.drewN ?_ _ | refine Kp.setCell ?_ (by dsimp only; omega) _))) ?_; rintro e wr2 ⟨rfl, hka⟩; have hr2 : Kp wb wr2 := Kp.trans (by repeat (first | with_reducible assumption | with_reducible exact Kp.refl _ | with_reducible refine Kp.drew ?_ | with_reducible refine Kp.alloc ?_ _ | with_reducible refine Kp.drewN ?_ _ | refine Kp.setCell ?_ (by dsimp only; omega) _)) hka; have tok3 : True := trivial; clear tok2 _t)
                  | fail)
              go_wp2_with fail
              go_roundw
              case rel => exact ⟨j + 1, by omega, by go_num, Hy, hr2⟩
              case measure => simp [intOf]; omega
            · have Hno : Hid (prB F S us ws = false) := Hbad.out (fun h => hle h.2)
              have hgt : q < lget us j := by omega
              clear hle
              clear q_d0 q_d1
              have q_d0 := hkb.get d0
              have q_d1 := hkb.get d1
              have q_huc := hkb.get huc
              have tok1 : True := trivial
              go_wp2_with fail
              go_region_held3 (fun w' => w'.cell? ⟨w.heap.size, 0, none⟩ = some (.slice A F.op.length c) ∧ w'.cell? ⟨w.heap.size, 1, none⟩ = some (.slice B F.di.length d) ∧ w'.cell? (ud.add j) = some (.int .i64 (lget us j)) ∧ Kp wb w')
                (first | (refine keepc3 d0 d1 huc ?_; exact (by repeat (first | with_reducible assumption | with_reducible exact Kp.refl _ | with_reducible refine Kp.drew ?_ | with_reducible refine Kp.alloc ?_ _ | with_reducible refine Kp.drewN ?_ _ | refine Kp.setCell ?_ (by dsimp only; omega) _))) | fail)
                (first
                  | (have _t := tok1; go_at_call 63; with_reducible refine Calls.mono (C1.out _) ?_; rintro e wr1 ⟨rfl, hw⟩; obtain rfl := hw; have tok2 : True := trivial; clear tok1 _t)
                  | (have _t := tok2; go_at_call 64; with_reducible refine Calls.mono (C2.out _ (by repeat (first | with_reducible assumption | with_reducible exact Kp.refl _ | with_reducible refine Kp.drew ?_ | with_reducible refine Kp.alloc ?_ _ | with_reducible refine Kp.drewN ?_ _ | refine Kp.setCell ?_ (by dsimp only; omega) _))) ?_; rintro e wr2 ⟨rfl, hka⟩; have hr2 : Kp wb wr2 := Kp.trans (by repeat (first | with_reducible assumption | with_reducible exact Kp.refl _ | with_reducible refine Kp.drew ?_ | with_reducible refine Kp.alloc ?_ _ | with_reducible refine Kp.drewN ?_ _ | refine Kp.setCell ?_ (by dsimp only; omega) _)) hka; have tok3 : True := trivial; clear tok2 _t)
                  | fail)
              go_wp2_with fail
              go_ret
              exact ⟨ret_bool Hno.out.symm, hkw.trans hr2⟩
        · have Hyes : Hid (prB F S us ws = true) := prB_iff.2 ⟨by rw [Hn4.out]; exact Hmd.out, HW.out, by rw [Hn5.out]; exact prW_iff.1 Hw.out, by rw [Hn4.out]; exact fun i hi => prU_iff.1 Hu.out i (by omega)⟩
          clear q_d0 q_d1
          have q_d0 := hkb.get d0
          have q_d1 := hkb.get d1
          go_wp2_with fail
          go_ret
          exact ⟨ret_bool Hyes.out.symm, hkw.trans hkb⟩
end Go.Proofs.Ytcnceocgdghciaa

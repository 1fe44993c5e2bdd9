/- The reference's flows: LeastFlowCost, CanServe; LeastFlowCost and CanServe: the reference's, and CanServe: the program's; The least cost of a flow: there is one, and it is not great; The payment and the total of a set: reference and program. No condition. -/
import Derived.Test.YtpiijhfjliolfaaGreatQAu
import Derived.Test.YtpiijhfjliolfaaGreatQAk
import Derived.Test.YtpiijhfjliolfaaGreatQAt
import Derived.Test.YtpiijhfjliolfaaGreatQAf
import Derived.Deep.RegionHeld3
namespace Go.Proofs.YtpiijhfjliolfaaGreat
open Go.RowKit Go.Sort

theorem small_sum : ∀ (L : List Int), (∀ x ∈ L, 0 ≤ x ∧ x ≤ 1000) → 0 ≤ L.sum ∧ L.sum ≤ 1000 * (L.length : Int)
  | [], _ => by simp
  | x :: L, h => by
    have h1 := h x (by simp)
    have h2 := small_sum L (fun y hy => h y (by simp [hy]))
    simp only [List.sum_cons, List.length_cons]
    omega
theorem small_take {L : List Int} (h : ∀ x ∈ L, 0 ≤ x ∧ x ≤ 1000) (hl : L.length ≤ 1000) (k : Nat) (_ : k ≤ L.length) : -1000000000 ≤ (L.take k).sum ∧ (L.take k).sum ≤ 1000000000 := by
  have h1 := small_sum (L.take k) (fun x hx => h x (List.mem_of_mem_take hx))
  have h2 : (L.take k).length ≤ 1000 := by rw [List.length_take]; omega
  omega
set_option maxRecDepth 100000 in
set_option maxHeartbeats 1000000 in
theorem l7Can_any (f : Value) (F : Fld) (A1 : Option Addr) (rooms : List Int) (n1 c1 : Nat) (A2 : Option Addr) (needs : List Int) (n2 c2 : Nat) (A3 : Option Addr) (S : List Int) (n3 c3 : Nat) (w : World) (hf : FldAt w f F) (h1 : IntsAt w A1 rooms) (hn1 : rooms.length = n1) (h2 : IntsAt w A2 needs) (hn2 : needs.length = n2) (h3 : IntsAt w A3 S) (hn3 : S.length = n3) :
    Calls Tryz.prog 86 #[f, .slice A1 n1 c1, .slice A2 n2 c2, .slice A3 n3 c3] w fun e w' => e = .returned (.bool (lfOk F rooms needs S)) ∧ Kp w w' := by
  obtain ⟨A, c, B, d, rfl, hA, hB⟩ := hf
  have hk0 : Kp w (w.alloc (.cells #[.slice A F.op.length c, .slice B F.di.length d] 27)) := (Kp.refl w).alloc _
  obtain ⟨d0, d1⟩ := box2 w (.slice A F.op.length c) (.slice B F.di.length d) 27
  have hFA := FldAt.kp (show FldAt w (.agg #[.slice A F.op.length c, .slice B F.di.length d]) F from ⟨A, c, B, d, rfl, hA, hB⟩) hk0
  replace h1 := h1.kp hk0
  replace h2 := h2.kp hk0
  replace h3 := h3.kp hk0
  have Hn1 := Lib.hid hn1; have Hn2 := Lib.hid hn2; have Hn3 := Lib.hid hn3
  clear hA hB hn1 hn2 hn3
  go_enter Tryz.func86, Tryz.ntmps86
  go_wp2_with fail
  have hsz : Hid ((w.alloc (.cells #[.slice A F.op.length c, .slice B F.di.length d] 27)).heap.size = w.heap.size + 1) := by show _ = _; simp
  generalize w.alloc (.cells #[.slice A F.op.length c, .slice B F.di.length d] 27) = wb at *
  have hkb : Kp wb wb := Kp.refl _
  have hkw := hk0
  have CC := Lib.hid (l7Given_any _ F A1 rooms n1 c1 A2 needs n2 c2 A3 S n3 c3 _ (hFA.kp hkb) (h1.kp hkb) Hn1.out (h2.kp hkb) Hn2.out (h3.kp hkb) Hn3.out)
  with_reducible refine Calls.mono CC.out ?_
  rintro e w1 ⟨rfl, hk1⟩
  clear CC
  replace hkb := hkb.trans hk1
  cases hh_ : haulB F rooms needs S
  · have Hno : Hid (lfOk F rooms needs S = false) := by show _ = _; rw [lfOk, hh_]; rfl
    clear hh_
    have q_d0 := hkb.get d0
    have q_d1 := hkb.get d1
    go_wp2_with fail
    go_ret
    exact ⟨ret_bool Hno.out.symm, hkw.trans hkb⟩
  have HH := Lib.hid hh_
  have HP := Lib.hid (haul_p hh_)
  have HQ := Lib.hid (haulB_iff.1 hh_)
  clear hh_
  have h8 := (goodF_iff.1 HP.out.good).2.2.1
  have h7 := (goodF_iff.1 HP.out.good).1
  have hl3 : n3 ≤ 7 := by have := bitsL_len F.op.length (bagN S); rw [set_bits HP.out.set_, Hn3.out] at this; omega
  have hlen2 : needs.length ≤ 1000 := by have := HP.out.nl; omega
  have q_d0 := hkb.get d0
  have q_d1 := hkb.get d1
  go_wp2_with fail
  have CC := Lib.hid (l3Sum_any A2 needs n2 c2 _ (h2.kp hkb) Hn2.out (fun k hk => small_take (fun x hx => by have := HQ.out.2.2.1 x hx; omega) hlen2 k (by rw [Hn2.out]; exact hk)) (fun x hx => by have := HQ.out.2.2.1 x hx; omega))
  with_reducible refine Calls.mono CC.out ?_
  rintro e w2 ⟨rfl, hw⟩
  obtain rfl := hw
  clear CC q_d0 q_d1
  have q_d0 := hkb.get d0
  have q_d1 := hkb.get d1
  go_wp2_with fail
  have CC := Lib.hid (l7Room_any A1 rooms n1 c1 A3 S n3 c3 20 _ (h1.kp hkb) Hn1.out (h3.kp hkb) Hn3.out (fun x hx => by have := set_mem HP.out.set_ x hx; have := HP.out.rl; have := Hn1.out; omega) hl3 (by omega) (by omega) (fun x hx => by have := HQ.out.2.1.1 x hx; omega))
  with_reducible refine Calls.mono CC.out ?_
  rintro e w3 ⟨rfl, hw⟩
  obtain rfl := hw
  clear CC q_d0 q_d1
  have q_d0 := hkb.get d0
  have q_d1 := hkb.get d1
  go_wp2_with fail
  go_ret
  exact ⟨ret_bool (by rw [lfOk, HH.out]; rfl), hkw.trans hkb⟩
def AnyPost (w : World) (J M : Nat) (d : Nat → Nat → Int) (may : Nat → Nat → Bool) (nd rm : Nat → Int) (e : Ending) (w' : World) : Prop :=
  ∃ (L : NetL) (nl lf : Nat → Int) (fl : Nat → Nat → Int), e = .returned (.slice L.fA J L.cf) ∧ NetS w' w.heap.size L J M nl lf fl may ∧ NetN J M d may rm nd nl lf fl ∧ ((∀ j, j < J → nl j = 0) ∨ ((∃ j, j < J ∧ nl j ≠ 0) ∧ ∀ x, ¬ Haul J M may nd rm x)) ∧ Kp w w'
theorem NetN.zero {F : Fld} {rooms needs S : List Int} {may : Nat → Nat → Bool} (hP : HaulP F rooms needs S) : NetN F.di.length F.op.length (dF F) may (startR S rooms) (lget needs) (lget needs) (startR S rooms) (fun _ _ => 0) := by
  have hz : ∀ i, rowS F.op.length (fun _ _ => (0 : Int)) i = 0 := fun i => sumTo_c0 _
  refine ⟨Net.zero (fun j a => (dF_bd hP.good j a).1) (fun x _ => ?_), fun j _ => by rw [hz]; omega, fun j => by have := hP.nb j; omega⟩
  unfold startR; have := hP.rb x; split <;> omega
set_option maxRecDepth 100000 in
set_option maxHeartbeats 1000000 in
theorem l7Any_any (f : Value) (F : Fld) (A1 : Option Addr) (rooms : List Int) (n1 c1 : Nat) (A2 : Option Addr) (needs : List Int) (n2 c2 : Nat) (A3 : Option Addr) (S : List Int) (n3 c3 : Nat) (w : World) (hf : FldAt w f F) (h1 : IntsAt w A1 rooms) (hn1 : rooms.length = n1) (h2 : IntsAt w A2 needs) (hn2 : needs.length = n2) (h3 : IntsAt w A3 S) (hn3 : S.length = n3) (hP : HaulP F rooms needs S) :
    Calls Tryz.prog 88 #[f, .slice A1 n1 c1, .slice A2 n2 c2, .slice A3 n3 c3] w (AnyPost w F.di.length F.op.length (dF F) (startM F S 99) (lget needs) (startR S rooms)) := by
  obtain ⟨A, c, B, d, rfl, hA, hB⟩ := hf
  have hk0 : Kp w (w.alloc (.cells #[.slice A F.op.length c, .slice B F.di.length d] 27)) := (Kp.refl w).alloc _
  obtain ⟨d0, d1⟩ := box2 w (.slice A F.op.length c) (.slice B F.di.length d) 27
  have hFA := FldAt.kp (show FldAt w (.agg #[.slice A F.op.length c, .slice B F.di.length d]) F from ⟨A, c, B, d, rfl, hA, hB⟩) hk0
  have h8 := (goodF_iff.1 hP.good).2.2.1
  have h7 := (goodF_iff.1 hP.good).1
  have HP := Lib.hid hP
  have C0 := Lib.hid (fun (wx : World) (hx : Kp (w.alloc (.cells #[.slice A F.op.length c, .slice B F.di.length d] 27)) wx) => l7Start_any _ F A1 rooms n1 c1 A2 needs n2 c2 A3 S n3 c3 99 wx (hFA.kp hx) hP.good (h1.kp (hk0.trans hx)) hn1 (h2.kp (hk0.trans hx)) hn2 (h3.kp (hk0.trans hx)) hn3 (by rw [← hn1]; exact hP.rl) (by rw [← hn2]; exact hP.nl) (fun x hx => by have := set_mem hP.set_ x hx; omega))
  have C1 := Lib.hid (fun (wx wy : World) (L : NetL) (h0 : Kp (w.alloc (.cells #[.slice A F.op.length c, .slice B F.di.length d] 27)) wx) (hxy : Kp wx wy) (hn : NetS wy wx.heap.size L F.di.length F.op.length (lget needs) (startR S rooms) (fun _ _ => 0) (startM F S 99)) =>
    (l7Fill_any _ F L (lget needs) (startR S rooms) (startR S rooms) (lget needs) (fun _ _ => 0) (startM F S 99) wx.heap.size wx wy (hFA.kp h0) hxy (Nat.le_refl _) hxy.le hP.good hn (NetN.zero hP) (fun x _ => by unfold startR; have := hP.rb x; split <;> omega)).mono (fun e w' hp => by
      obtain ⟨nl, lf, fl, he, hN2, hNn, hor, ht⟩ := hp
      exact (⟨nl, lf, fl, he, hN2.mono (by have := hk0.le; have := h0.le; omega), hNn, hor, hxy.turn ht (fun i hi => hi.1)⟩ : ∃ (nl lf : Nat → Int) (fl : Nat → Nat → Int), e = .returned (.agg #[.slice L.nA F.di.length L.cn, .slice (some ⟨L.gr, 0, none⟩) F.op.length L.cr, .slice L.fA F.di.length L.cf, .slice L.mA F.di.length L.cm]) ∧ NetS w' w.heap.size L F.di.length F.op.length nl lf fl (startM F S 99) ∧ NetN F.di.length F.op.length (dF F) (startM F S 99) (startR S rooms) (lget needs) nl lf fl ∧ ((∀ j, j < F.di.length → nl j = 0) ∨ ((∃ j, j < F.di.length ∧ nl j ≠ 0) ∧ ∀ x, ¬ Haul F.di.length F.op.length (startM F S 99) (lget needs) (startR S rooms) x)) ∧ Kp wx w')))
  have hfd : ∀ (w : World) (a b c d : Option Addr) (p q u v x y s t : Nat), Sem.run Tryz.prog (Instr.field 90 (.agg #[.slice a p q, .slice b u v, .slice c x y, .slice d s t]) 2) w = .ok (  .slice c x y) w := fun _ _ _ _ _ _ _ _ _ _ _ _ _ => by kernel_rfl
  clear hA hB hn1 hn2 hn3 h1 h2 h3 hP
  go_enter Tryz.func88, Tryz.ntmps88
  go_wp2_with fail
  have hsz : Hid ((w.alloc (.cells #[.slice A F.op.length c, .slice B F.di.length d] 27)).heap.size = w.heap.size + 1) := by show _ = _; simp
  generalize w.alloc (.cells #[.slice A F.op.length c, .slice B F.di.length d] 27) = wb at *
  have hkb : Kp wb wb := Kp.refl _
  have hkw := hk0
  have q_d0 := hkb.get d0
  have q_d1 := hkb.get d1
  have tok1 : True := trivial
  go_wp2_with fail
  go_region_held3 (fun w' => w'.cell? ⟨w.heap.size, 0, none⟩ = some (.slice A F.op.length c) ∧ w'.cell? ⟨w.heap.size, 1, none⟩ = some (.slice B F.di.length d) ∧ Kp wb w')
    (first | (refine keepc2 d0 d1 ?_; exact (by repeat (first | with_reducible assumption | with_reducible exact Kp.refl _ | with_reducible refine Kp.drew ?_ | with_reducible refine Kp.alloc ?_ _ | with_reducible refine Kp.drewN ?_ _ | refine Kp.setCell ?_ (by dsimp only; omega) _))) | fail)
    (first
      | (have _t := tok1; go_at_call 75; with_reducible refine Calls.mono (C0.out _ (by repeat (first | with_reducible assumption | with_reducible exact Kp.refl _ | with_reducible refine Kp.drew ?_ | with_reducible refine Kp.alloc ?_ _ | with_reducible refine Kp.drewN ?_ _ | refine Kp.setCell ?_ (by dsimp only; omega) _))) ?_; rintro e wr1 ⟨L, rfl, hn, hka⟩; have hr1 : Kp wb wr1 := Kp.trans (by repeat (first | with_reducible assumption | with_reducible exact Kp.refl _ | with_reducible refine Kp.drew ?_ | with_reducible refine Kp.alloc ?_ _ | with_reducible refine Kp.drewN ?_ _ | refine Kp.setCell ?_ (by dsimp only; omega) _)) hka; have tok2 : True := trivial; clear tok1 _t)
      | (have _t := tok2; go_at_call 74; with_reducible refine Calls.mono (C1.out _ _ _ (by repeat (first | with_reducible assumption | with_reducible exact Kp.refl _ | with_reducible refine Kp.drew ?_ | with_reducible refine Kp.alloc ?_ _ | with_reducible refine Kp.drewN ?_ _ | refine Kp.setCell ?_ (by dsimp only; omega) _)) (Kp.trans hka (by repeat (first | with_reducible assumption | with_reducible exact Kp.refl _ | with_reducible refine Kp.drew ?_ | with_reducible refine Kp.alloc ?_ _ | with_reducible refine Kp.drewN ?_ _ | refine Kp.setCell ?_ (by dsimp only; omega) _))) (hn.kp (by repeat (first | with_reducible assumption | with_reducible exact Kp.refl _ | with_reducible refine Kp.drew ?_ | with_reducible refine Kp.alloc ?_ _ | with_reducible refine Kp.drewN ?_ _ | refine Kp.setCell ?_ (by dsimp only; omega) _)))) ?_; rintro e wr2 ⟨nl, lf, fl, rfl, hn2, hnn, hor, hka⟩; have hr2 : Kp wb wr2 := Kp.trans (by repeat (first | with_reducible assumption | with_reducible exact Kp.refl _ | with_reducible refine Kp.drew ?_ | with_reducible refine Kp.alloc ?_ _ | with_reducible refine Kp.drewN ?_ _ | refine Kp.setCell ?_ (by dsimp only; omega) _)) hka; have tok3 : True := trivial; clear tok2 _t)
      | fail)
  all_goals
    go_wp2_with fail
    go_ret
    exact ⟨L, nl, lf, fl, rfl, hn2, hnn, hor, hkw.trans hr2⟩
def csR (F : Fld) (rooms needs S : List Int) (r : Int) : Prop := CanH F.di.length F.op.length (startM F S r) (lget needs) (startR S rooms)
open Classical in
noncomputable def csB (F : Fld) (rooms needs S : List Int) (r : Int) : Bool := decide (csR F rooms needs S r)
theorem net_can {J M : Nat} {d : Nat → Nat → Int} {may : Nat → Nat → Bool} {rm nd nl lf : Nat → Int} {fl : Nat → Nat → Int} (hn : NetN J M d may rm nd nl lf fl) (hz : ∀ j, j < J → nl j = 0) : Haul J M may nd rm fl ∧ ∀ x, Haul J M may nd rm x → costT J M d fl ≤ costT J M d x :=
  hn.net.least (fun j hj => by have := hn.row j hj; have := hz j hj; omega)
theorem sum_left {J M : Nat} {d : Nat → Nat → Int} {may : Nat → Nat → Bool} {rm nd nl lf : Nat → Int} {fl : Nat → Nat → Int} (hn : NetN J M d may rm nd nl lf fl) (hor : (∀ j, j < J → nl j = 0) ∨ ((∃ j, j < J ∧ nl j ≠ 0) ∧ ∀ x, ¬ Haul J M may nd rm x)) : (sumTo nl J = 0 ∧ CanH J M may nd rm) ∨ (0 < sumTo nl J ∧ ¬ CanH J M may nd rm) := by
  rcases hor with h | ⟨⟨j, hj, hz⟩, h⟩
  · left
    refine ⟨?_, fl, (net_can hn h).1⟩
    rw [sumTo_congr h, sumTo_c0]
  · right
    refine ⟨?_, fun ⟨x, hx⟩ => h x hx⟩
    have h1 : nl j ≤ sumTo nl J := sumTo_ge (fun i _ => (hn.nb i).1) hj
    have := (hn.nb j).1
    omega
theorem sumTo_mapTo (g : Nat → Int) (n : Nat) : (mapTo g n).sum = sumTo g n := rfl
set_option maxRecDepth 100000 in
set_option maxHeartbeats 1000000 in
theorem l7Serves_any (f : Value) (F : Fld) (A1 : Option Addr) (rooms : List Int) (n1 c1 : Nat) (A2 : Option Addr) (needs : List Int) (n2 c2 : Nat) (A3 : Option Addr) (S : List Int) (n3 c3 : Nat) (r : Int) (w : World) (hf : FldAt w f F) (h1 : IntsAt w A1 rooms) (hn1 : rooms.length = n1) (h2 : IntsAt w A2 needs) (hn2 : needs.length = n2) (h3 : IntsAt w A3 S) (hn3 : S.length = n3) (hP : HaulP F rooms needs S) :
    Calls Tryz.prog 28 #[f, .slice A1 n1 c1, .slice A2 n2 c2, .slice A3 n3 c3, .int .i64 r] w (fun e w' => e = .returned (.bool (csB F rooms needs S r)) ∧ Kp w w') := by
  obtain ⟨A, c, B, d, rfl, hA, hB⟩ := hf
  have hk0 : Kp w (w.alloc (.cells #[.slice A F.op.length c, .slice B F.di.length d] 27)) := (Kp.refl w).alloc _
  obtain ⟨d0, d1⟩ := box2 w (.slice A F.op.length c) (.slice B F.di.length d) 27
  have hFA := FldAt.kp (show FldAt w (.agg #[.slice A F.op.length c, .slice B F.di.length d]) F from ⟨A, c, B, d, rfl, hA, hB⟩) hk0
  have h8 := (goodF_iff.1 hP.good).2.2.1
  have h7 := (goodF_iff.1 hP.good).1
  have HP := Lib.hid hP
  have C0 := Lib.hid (fun (wx : World) (hx : Kp (w.alloc (.cells #[.slice A F.op.length c, .slice B F.di.length d] 27)) wx) => l7Start_any _ F A1 rooms n1 c1 A2 needs n2 c2 A3 S n3 c3 r wx (hFA.kp hx) hP.good (h1.kp (hk0.trans hx)) hn1 (h2.kp (hk0.trans hx)) hn2 (h3.kp (hk0.trans hx)) hn3 (by rw [← hn1]; exact hP.rl) (by rw [← hn2]; exact hP.nl) (fun x hx => by have := set_mem hP.set_ x hx; omega))
  have C1 := Lib.hid (fun (wx wy : World) (L : NetL) (h0 : Kp (w.alloc (.cells #[.slice A F.op.length c, .slice B F.di.length d] 27)) wx) (hxy : Kp wx wy) (hn : NetS wy wx.heap.size L F.di.length F.op.length (lget needs) (startR S rooms) (fun _ _ => 0) (startM F S r)) =>
    (l7Fill_any _ F L (lget needs) (startR S rooms) (startR S rooms) (lget needs) (fun _ _ => 0) (startM F S r) wx.heap.size wx wy (hFA.kp h0) hxy (Nat.le_refl _) hxy.le hP.good hn (NetN.zero hP) (fun x _ => by unfold startR; have := hP.rb x; split <;> omega)).mono (fun e w' hp => by
      obtain ⟨nl, lf, fl, he, hN2, hNn, hor, ht⟩ := hp
      exact (⟨nl, lf, fl, he, hN2.mono (by have := hk0.le; have := h0.le; omega), hNn, hor, hxy.turn ht (fun i hi => hi.1)⟩ : ∃ (nl lf : Nat → Int) (fl : Nat → Nat → Int), e = .returned (.agg #[.slice L.nA F.di.length L.cn, .slice (some ⟨L.gr, 0, none⟩) F.op.length L.cr, .slice L.fA F.di.length L.cf, .slice L.mA F.di.length L.cm]) ∧ NetS w' w.heap.size L F.di.length F.op.length nl lf fl (startM F S r) ∧ NetN F.di.length F.op.length (dF F) (startM F S r) (startR S rooms) (lget needs) nl lf fl ∧ ((∀ j, j < F.di.length → nl j = 0) ∨ ((∃ j, j < F.di.length ∧ nl j ≠ 0) ∧ ∀ x, ¬ Haul F.di.length F.op.length (startM F S r) (lget needs) (startR S rooms) x)) ∧ Kp wx w')))
  have hfd : ∀ (w : World) (a b c d : Option Addr) (p q u v x y s t : Nat), Sem.run Tryz.prog (Instr.field 90 (.agg #[.slice a p q, .slice b u v, .slice c x y, .slice d s t]) 0) w = .ok (.slice a p q) w := fun _ _ _ _ _ _ _ _ _ _ _ _ _ => by kernel_rfl
  have C2 := Lib.hid (fun (wx : World) (base : Nat) (L : NetL) (nl lf : Nat → Int) (fl : Nat → Nat → Int) (hn : NetS wx base L F.di.length F.op.length nl lf fl (startM F S r)) (hnn : NetN F.di.length F.op.length (dF F) (startM F S r) (startR S rooms) (lget needs) nl lf fl) =>
    (show Calls Tryz.prog 67 #[.slice L.nA F.di.length L.cn] wx (fun e w' => e = .returned (.int .i64 (sumTo nl F.di.length)) ∧ wx = w') from
      l3Sum_any L.nA (mapTo nl F.di.length) F.di.length L.cn wx (by
        by_cases hj : 0 < F.di.length
        · obtain ⟨A', c', e, hi⟩ := (hn.nd hj).ints (by rw [mapTo_len]; omega)
          simp only [Value.slice.injEq] at e
          rw [hn.na hj, e.1]; exact hi
        · rw [show F.di.length = 0 by omega]; exact IntsAt.nil _ _) (mapTo_len _ _)
        (fun k hk => small_take (fun x hx => by
          simp only [mapTo, List.mem_map] at hx
          obtain ⟨i, _, rfl⟩ := hx
          exact hnn.nb i) (by rw [mapTo_len]; omega) k (by rw [mapTo_len]; exact hk))
        (fun x hx => by
          simp only [mapTo, List.mem_map] at hx
          obtain ⟨i, _, rfl⟩ := hx
          have := hnn.nb i; omega)))
  clear hA hB hn1 hn2 hn3 h1 h2 h3 hP
  go_enter Tryz.func28, Tryz.ntmps28
  go_wp2_with fail
  have hsz : Hid ((w.alloc (.cells #[.slice A F.op.length c, .slice B F.di.length d] 27)).heap.size = w.heap.size + 1) := by show _ = _; simp
  generalize w.alloc (.cells #[.slice A F.op.length c, .slice B F.di.length d] 27) = wb at *
  have hkb : Kp wb wb := Kp.refl _
  have hkw := hk0
  have q_d0 := hkb.get d0
  have q_d1 := hkb.get d1
  have tok1 : True := trivial
  go_wp2_with fail
  go_region_held3 (fun w' => w'.cell? ⟨w.heap.size, 0, none⟩ = some (.slice A F.op.length c) ∧ w'.cell? ⟨w.heap.size, 1, none⟩ = some (.slice B F.di.length d) ∧ Kp wb w')
    (first | (refine keepc2 d0 d1 ?_; exact (by repeat (first | with_reducible assumption | with_reducible exact Kp.refl _ | with_reducible refine Kp.drew ?_ | with_reducible refine Kp.alloc ?_ _ | with_reducible refine Kp.drewN ?_ _ | refine Kp.setCell ?_ (by dsimp only; omega) _))) | fail)
    (first
      | (have _t := tok1; go_at_call 75; with_reducible refine Calls.mono (C0.out _ (by repeat (first | with_reducible assumption | with_reducible exact Kp.refl _ | with_reducible refine Kp.drew ?_ | with_reducible refine Kp.alloc ?_ _ | with_reducible refine Kp.drewN ?_ _ | refine Kp.setCell ?_ (by dsimp only; omega) _))) ?_; rintro e wr1 ⟨L, rfl, hn, hka⟩; have hr1 : Kp wb wr1 := Kp.trans (by repeat (first | with_reducible assumption | with_reducible exact Kp.refl _ | with_reducible refine Kp.drew ?_ | with_reducible refine Kp.alloc ?_ _ | with_reducible refine Kp.drewN ?_ _ | refine Kp.setCell ?_ (by dsimp only; omega) _)) hka; have tok2 : True := trivial; clear tok1 _t)
      | (have _t := tok2; go_at_call 74; with_reducible refine Calls.mono (C1.out _ _ _ (by repeat (first | with_reducible assumption | with_reducible exact Kp.refl _ | with_reducible refine Kp.drew ?_ | with_reducible refine Kp.alloc ?_ _ | with_reducible refine Kp.drewN ?_ _ | refine Kp.setCell ?_ (by dsimp only; omega) _)) (Kp.trans hka (by repeat (first | with_reducible assumption | with_reducible exact Kp.refl _ | with_reducible refine Kp.drew ?_ | with_reducible refine Kp.alloc ?_ _ | with_reducible refine Kp.drewN ?_ _ | refine Kp.setCell ?_ (by dsimp only; omega) _))) (hn.kp (by repeat (first | with_reducible assumption | with_reducible exact Kp.refl _ | with_reducible refine Kp.drew ?_ | with_reducible refine Kp.alloc ?_ _ | with_reducible refine Kp.drewN ?_ _ | refine Kp.setCell ?_ (by dsimp only; omega) _)))) ?_; rintro e wr2 ⟨nl, lf, fl, rfl, hn2, hnn, hor, hka⟩; have hr2 : Kp wb wr2 := Kp.trans (by repeat (first | with_reducible assumption | with_reducible exact Kp.refl _ | with_reducible refine Kp.drew ?_ | with_reducible refine Kp.alloc ?_ _ | with_reducible refine Kp.drewN ?_ _ | refine Kp.setCell ?_ (by dsimp only; omega) _)) hka; have tok3 : True := trivial; clear tok2 _t)
      | (have _t := tok3; go_at_call 67; with_reducible refine Calls.mono (C2.out _ _ _ _ _ _ hn2 hnn) ?_; rintro e wr3 ⟨rfl, hw⟩; obtain rfl := hw; have tok4 : True := trivial; clear tok3 _t)
      | fail)
  all_goals
    go_wp2_with fail
    go_ret
    refine ⟨ret_bool ?_, hkw.trans hr2⟩
    rcases sum_left hnn hor with ⟨h1, h2⟩ | ⟨h1, h2⟩
    · rw [h1]; unfold csB csR; simp [h2]
    · unfold csB csR; simp [h2]; omega
end Go.Proofs.YtpiijhfjliolfaaGreat

namespace Go.Proofs.YtpiijhfjliolfaaGreat
open Go.RowKit Go.Sort

/-- Where a set's sites alone are open for all, there is a haul if there is room enough. -/
theorem haul_ex {J M : Nat} {sA : Nat → Bool} {rm : Nat → Int} (hr : ∀ a, a < M → 0 ≤ rm a) : ∀ (n : Nat) (nd : Nat → Int), (∀ j, j < J → 0 ≤ nd j) → sumTo nd J = n → sumTo nd J ≤ sumTo (fun a => if sA a = true then rm a else 0) M → ∃ x, Haul J M (fun _ a => sA a) nd rm x
  | 0, nd, h0, hn, _ => by
    have hz : ∀ j, j < J → nd j = 0 := fun j hj => by have := h0 j hj; have h1 : nd j ≤ sumTo nd J := sumTo_ge h0 hj; omega
    exact ⟨fun _ _ => 0, ⟨fun _ _ _ _ => Int.le_refl _, fun _ _ _ _ h => by omega, fun j hj => by rw [hz j hj]; exact sumTo_c0 _, fun a ha => by
      have : colT J (fun _ _ => (0 : Int)) a = 0 := sumTo_c0 _
      rw [this]; exact hr a ha⟩⟩
  | n + 1, nd, h0, hn, hs => by
    obtain ⟨j0, hj0, hp⟩ := sumTo_pos' h0 (by omega)
    have h1 : sumTo (upd nd j0 (nd j0 - 1)) J = n := by rw [sumTo_upd, if_pos hj0]; omega
    obtain ⟨x, hx⟩ := haul_ex (sA := sA) hr n (upd nd j0 (nd j0 - 1)) (fun j hj => by
      by_cases e : j = j0
      · subst e; rw [upd_at]; omega
      · rw [upd_ne e]; exact h0 j hj) h1 (by omega)
    have ht : sumTo (colT J x) M = n := by rw [tot, sumTo_congr hx.row, h1]
    have hA : ∃ a, a < M ∧ sA a = true ∧ colT J x a < rm a := Classical.byContradiction (fun hno => by
      have hle : sumTo (fun a => if sA a = true then rm a else 0) M ≤ sumTo (colT J x) M := sumTo_mono' (fun a ha => by
        by_cases hs : sA a = true
        · rw [if_pos hs]; exact Int.not_lt.1 (fun hlt => hno ⟨a, ha, hs, hlt⟩)
        · rw [if_neg hs]; exact sumTo_nn (fun j hj => hx.nn j a hj ha))
      omega)
    obtain ⟨a, ha, hsa, hlt⟩ := hA
    refine ⟨upd2 x j0 a (x j0 a + 1), ⟨fun j b hj hb => ?_, fun j b hj hb hpos => ?_, fun j hj => ?_, fun b hb => ?_⟩⟩
    · by_cases e : j = j0 ∧ b = a
      · obtain ⟨rfl, rfl⟩ := e; rw [upd2_at]; have := hx.nn j b hj hb; omega
      · rw [upd2_ne (by omega)]; exact hx.nn j b hj hb
    · by_cases e : j = j0 ∧ b = a
      · obtain ⟨rfl, rfl⟩ := e; exact hsa
      · rw [upd2_ne (by omega)] at hpos; exact hx.may j b hj hb hpos
    · rw [row_upd2 _ _ ha, hx.row j hj]
      by_cases e : j = j0
      · subst e; rw [if_pos rfl, upd_at]; omega
      · rw [if_neg e, upd_ne e]; omega
    · rw [col_upd2 _ _ hj0]
      have := hx.col b hb
      by_cases e : b = a
      · subst e; rw [if_pos rfl]; omega
      · rw [if_neg e]; omega
theorem startM_open {F : Fld} {S : List Int} (hg : goodF F = true) (j a : Nat) : startM F S 99 j a = openM S j a := by
  unfold startM openM
  have := (dF_bd hg j a).2
  rw [decide_eq_true this, Bool.and_true]
theorem startR_or (F : Fld) (S rooms : List Int) (r : Int) (J a : Nat) : (∀ j, j < J → startM F S r j a = false) ∨ startR S rooms a = lget rooms a := by
  cases h : flHas S a
  · exact .inl fun j _ => by unfold startM; rw [h]; rfl
  · exact .inr (by unfold startR; rw [if_pos h])
theorem startR_nn {rooms : List Int} (S : List Int) (h : ∀ x, 0 ≤ lget rooms x ∧ lget rooms x ≤ 20) (a : Nat) : 0 ≤ startR S rooms a := by unfold startR; have := h a; split <;> omega
/-- The reference's rooms and the given ones make no difference. -/
theorem start_lst {F : Fld} {rooms needs S : List Int} (hP : HaulP F rooms needs S) {c : Int} (h : IsLst F.di.length F.op.length (dF F) (startM F S 99) (lget needs) (startR S rooms) c) : IsLst F.di.length F.op.length (dF F) (openM S) (lget needs) (lget rooms) c :=
  lst_congr (fun _ _ _ _ => rfl) (fun j a _ _ => startM_open hP.good j a) (fun _ _ => rfl) (fun a _ => startR_or F S rooms 99 F.di.length a) (fun a _ => startR_nn S hP.rb a) (fun a _ => (hP.rb a).1) h
theorem start_haul {F : Fld} {rooms needs S : List Int} (hP : HaulP F rooms needs S) {r : Int} {x : Nat → Nat → Int} (h : Haul F.di.length F.op.length (startM F S r) (lget needs) (lget rooms) x) : Haul F.di.length F.op.length (startM F S r) (lget needs) (startR S rooms) x :=
  haul_congr (fun _ _ _ _ => rfl) (fun _ _ => rfl) (fun a _ => (startR_or F S rooms r F.di.length a).imp id Eq.symm) (fun a _ => startR_nn S hP.rb a) h
theorem start_haul' {F : Fld} {rooms needs S : List Int} (hP : HaulP F rooms needs S) {r : Int} {x : Nat → Nat → Int} (h : Haul F.di.length F.op.length (startM F S r) (lget needs) (startR S rooms) x) : Haul F.di.length F.op.length (startM F S r) (lget needs) (lget rooms) x :=
  haul_congr (fun _ _ _ _ => rfl) (fun _ _ => rfl) (fun a _ => startR_or F S rooms r F.di.length a) (fun a _ => (hP.rb a).1) h
/-- With room enough the reference's net is full. -/
theorem any_full {F : Fld} {rooms needs S : List Int} (hP : HaulP F rooms needs S) (hs : needs.sum ≤ roomS rooms S) : CanH F.di.length F.op.length (startM F S 99) (lget needs) (startR S rooms) := by
  obtain ⟨x, hx⟩ := haul_ex (J := F.di.length) (M := F.op.length) (sA := fun a => flHas S a) (rm := lget rooms) (fun a _ => (hP.rb a).1) (sumTo (lget needs) F.di.length).toNat (lget needs) (fun j _ => (hP.nb j).1) (by have : 0 ≤ sumTo (lget needs) F.di.length := sumTo_nn (fun j _ => (hP.nb j).1); omega) (by rw [hP.ns, hP.rs]; exact hs)
  exact ⟨x, start_haul hP (haul_congr (fun j a _ _ => by rw [startM_open hP.good]; rfl) (fun _ _ => rfl) (fun _ _ => .inr rfl) (fun a _ => (hP.rb a).1) hx)⟩
theorem net_grid {w : World} {base : Nat} {L : NetL} {J M : Nat} {nl lf : Nat → Int} {fl : Nat → Nat → Int} {may : Nat → Nat → Bool} (h : NetS w base L J M nl lf fl may) (hJ : J ≤ 1000) (hM : M ≤ 1000) : GridAt w L.fA (matL J M fl) := by
  by_cases h0 : 0 < J
  · rw [h.fa h0]; exact (h.fl h0).grid (by omega) (by omega)
  · obtain rfl : J = 0 := by omega
    exact ⟨by simp [matL], fun k hk => by simp [matL] at hk⟩
set_option maxRecDepth 100000 in
set_option maxHeartbeats 1000000 in
theorem specLf_any (f : Value) (F : Fld) (A1 : Option Addr) (rooms : List Int) (n1 c1 : Nat) (A2 : Option Addr) (needs : List Int) (n2 c2 : Nat) (A3 : Option Addr) (S : List Int) (n3 c3 : Nat) (w : World) (hf : FldAt w f F) (h1 : IntsAt w A1 rooms) (hn1 : rooms.length = n1) (h2 : IntsAt w A2 needs) (hn2 : needs.length = n2) (h3 : IntsAt w A3 S) (hn3 : S.length = n3) :
    Calls Tryz.prog 42 #[f, .slice A1 n1 c1, .slice A2 n2 c2, .slice A3 n3 c3] w fun e w' => e = .returned (.tuple #[.int .i64 (lfV F rooms needs S), .bool (lfOk F rooms needs S)]) ∧ Kp w w' := by
  obtain ⟨A, c, B, d, rfl, hA, hB⟩ := hf
  have hk0 : Kp w (w.alloc (.cells #[.slice A F.op.length c, .slice B F.di.length d] 27)) := (Kp.refl w).alloc _
  obtain ⟨d0, d1⟩ := box2 w (.slice A F.op.length c) (.slice B F.di.length d) 27
  have hFA := FldAt.kp (show FldAt w (.agg #[.slice A F.op.length c, .slice B F.di.length d]) F from ⟨A, c, B, d, rfl, hA, hB⟩) hk0
  replace h1 := h1.kp hk0
  replace h2 := h2.kp hk0
  replace h3 := h3.kp hk0
  have Hn1 := Lib.hid hn1; have Hn2 := Lib.hid hn2; have Hn3 := Lib.hid hn3
  clear hA hB hn1 hn2 hn3
  go_enter Tryz.func42, Tryz.ntmps42
  go_wp2_with fail
  have hsz : Hid ((w.alloc (.cells #[.slice A F.op.length c, .slice B F.di.length d] 27)).heap.size = w.heap.size + 1) := by show _ = _; simp
  generalize w.alloc (.cells #[.slice A F.op.length c, .slice B F.di.length d] 27) = wb at *
  have hkb : Kp wb wb := Kp.refl _
  have hkw := hk0
  have CC := Lib.hid (l7Can_any _ F A1 rooms n1 c1 A2 needs n2 c2 A3 S n3 c3 _ (hFA.kp hkb) (h1.kp hkb) Hn1.out (h2.kp hkb) Hn2.out (h3.kp hkb) Hn3.out)
  with_reducible refine Calls.mono CC.out ?_
  rintro e w1 ⟨rfl, hk1⟩
  clear CC
  replace hkb := hkb.trans hk1
  cases hh_ : lfOk F rooms needs S
  · have Hno : Hid (lfOk F rooms needs S = false) := hh_
    clear hh_
    have q_d0 := hkb.get d0
    have q_d1 := hkb.get d1
    go_wp2_with fail
    go_ret2
    exact ⟨by rw [lfV_no Hno.out, Hno.out]; rfl, hkw.trans hkb⟩
  have Hok := Lib.hid hh_
  have HH : Hid (haulB F rooms needs S = true ∧ needs.sum ≤ roomS rooms S) := by
    have := hh_
    unfold lfOk at this
    rw [Bool.and_eq_true, decide_eq_true_eq] at this
    exact this
  have HP := Lib.hid (haul_p HH.out.1)
  clear hh_
  have h8 := (goodF_iff.1 HP.out.good).2.2.1
  have h7 := (goodF_iff.1 HP.out.good).1
  have C0 := Lib.hid (fun (wx : World) (hx : Kp w1 wx) => (l7Any_any _ F A1 rooms n1 c1 A2 needs n2 c2 A3 S n3 c3 wx (hFA.kp (hkb.trans hx)) (h1.kp (hkb.trans hx)) Hn1.out (h2.kp (hkb.trans hx)) Hn2.out (h3.kp (hkb.trans hx)) Hn3.out HP.out).mono (fun e w' hp => by
    obtain ⟨L, nl, lf, fl, he, hN, hNn, hor, hk⟩ := hp
    have hz : ∀ j, j < F.di.length → nl j = 0 := by
      rcases hor with h | ⟨_, h⟩
      · exact h
      · obtain ⟨x, hx⟩ := any_full HP.out HH.out.2
        exact absurd hx (h x)
    exact (⟨L.fA, L.cf, fl, he, net_grid hN (by omega) (by omega), start_lst HP.out ⟨⟨fl, (net_can hNn hz).1, rfl⟩, (net_can hNn hz).2⟩, start_haul' HP.out (net_can hNn hz).1, hk⟩ : ∃ (fA : Option Addr) (cf : Nat) (fl : Nat → Nat → Int), e = .returned (.slice fA F.di.length cf) ∧ GridAt w' fA (matL F.di.length F.op.length fl) ∧ IsLst F.di.length F.op.length (dF F) (openM S) (lget needs) (lget rooms) (costT F.di.length F.op.length (dF F) fl) ∧ Haul F.di.length F.op.length (startM F S 99) (lget needs) (lget rooms) fl ∧ Kp wx w')))
  have C1 := Lib.hid (fun (wx : World) (hx : Kp w1 wx) (fA : Option Addr) (cf : Nat) (fl : Nat → Nat → Int) (hg : GridAt wx fA (matL F.di.length F.op.length fl)) (hl : IsLst F.di.length F.op.length (dF F) (openM S) (lget needs) (lget rooms) (costT F.di.length F.op.length (dF F) fl)) (hh : Haul F.di.length F.op.length (startM F S 99) (lget needs) (lget rooms) fl) =>
    (show Calls Tryz.prog 87 #[.agg #[.slice A F.op.length c, .slice B F.di.length d], .slice fA F.di.length cf] wx (fun e w' => e = .returned (.int .i64 (lfV F rooms needs S)) ∧ Kp wx w') from by
      rw [lfV_yes Hok.out hl, ← cost_mat fl]
      exact l7Cost_any _ F rooms needs S fA (matL F.di.length F.op.length fl) F.di.length cf wx (hFA.kp (hkb.trans hx)) hg (matL_len _ _ _) HH.out.1 (haul_flow (S := S) (fun j a _ _ h => by rw [startM_open HP.out.good] at h; exact h) hh)))
  have q0 := hkb.get d0
  have q1 := hkb.get d1
  have hkz : Kp w1 w1 := Kp.refl _
  have q_q0 := hkz.get q0
  have q_q1 := hkz.get q1
  go_wp2_with fail
  clear q_q0 q_q1
  have q_q0 := hkz.get q0
  have q_q1 := hkz.get q1
  have tok1 : True := trivial
  go_wp2_with fail
  go_region_held3 (fun w' => w'.cell? ⟨w.heap.size, 0, none⟩ = some (.slice A F.op.length c) ∧ w'.cell? ⟨w.heap.size, 1, none⟩ = some (.slice B F.di.length d) ∧ Kp w1 w')
    (first | (refine keepc2 q0 q1 ?_; exact (by repeat (first | with_reducible assumption | with_reducible exact Kp.refl _ | with_reducible refine Kp.drew ?_ | with_reducible refine Kp.alloc ?_ _ | with_reducible refine Kp.drewN ?_ _ | refine Kp.setCell ?_ (by dsimp only; omega) _))) | fail)
    (first
      | (have _t := tok1; go_at_call 88; with_reducible refine Calls.mono (C0.out _ (by repeat (first | with_reducible assumption | with_reducible exact Kp.refl _ | with_reducible refine Kp.drew ?_ | with_reducible refine Kp.alloc ?_ _ | with_reducible refine Kp.drewN ?_ _ | refine Kp.setCell ?_ (by dsimp only; omega) _))) ?_; rintro e wr1 ⟨fA, cf, fl, rfl, hg, hl, hh, hka⟩; have hr1 : Kp w1 wr1 := Kp.trans (by repeat (first | with_reducible assumption | with_reducible exact Kp.refl _ | with_reducible refine Kp.drew ?_ | with_reducible refine Kp.alloc ?_ _ | with_reducible refine Kp.drewN ?_ _ | refine Kp.setCell ?_ (by dsimp only; omega) _)) hka; have tok2 : True := trivial; clear tok1 _t)
      | (have _t := tok2; go_at_call 87; with_reducible refine Calls.mono (C1.out _ (by repeat (first | with_reducible assumption | with_reducible exact Kp.refl _ | with_reducible refine Kp.drew ?_ | with_reducible refine Kp.alloc ?_ _ | with_reducible refine Kp.drewN ?_ _ | refine Kp.setCell ?_ (by dsimp only; omega) _)) fA cf fl (hg.kp (by repeat (first | with_reducible assumption | with_reducible exact Kp.refl _ | with_reducible refine Kp.drew ?_ | with_reducible refine Kp.alloc ?_ _ | with_reducible refine Kp.drewN ?_ _ | refine Kp.setCell ?_ (by dsimp only; omega) _))) hl hh) ?_; rintro e wr2 ⟨rfl, hka⟩; have hr2 : Kp w1 wr2 := Kp.trans (by repeat (first | with_reducible assumption | with_reducible exact Kp.refl _ | with_reducible refine Kp.drew ?_ | with_reducible refine Kp.alloc ?_ _ | with_reducible refine Kp.drewN ?_ _ | refine Kp.setCell ?_ (by dsimp only; omega) _)) hka; have tok3 : True := trivial; clear tok2 _t)
      | fail)
  all_goals
    go_wp2_with fail
    go_ret2
    exact ⟨by rw [Hok.out]; rfl, (hkw.trans hkb).trans hr2⟩
def csOk (F : Fld) (rooms needs S : List Int) (r : Int) : Bool := haulB F rooms needs S && decide (0 ≤ r)
noncomputable def csV (F : Fld) (rooms needs S : List Int) (r : Int) : Bool := csOk F rooms needs S r && csB F rooms needs S r
set_option maxHeartbeats 400000 in
theorem canServeClo_any (F : Fld) (S : List Int) (r : Int) (p q t : Nat) (A : Option Addr) (c : Nat) (B : Option Addr) (d : Nat) (w : World) (hg : goodF F = true) (hS : ∀ x ∈ S, 0 ≤ x ∧ x < 7) (x0 : w.cell? ⟨p, 0, none⟩ = some (.int .u64 (bagN S))) (x1 : w.cell? ⟨q, 1, none⟩ = some (.slice B F.di.length d)) (x2 : w.cell? ⟨t, 0, none⟩ = some (.int .i64 r)) (hB : GridAt w B F.di) (i a : Nat) (hi : i < F.di.length) (ha : a < F.op.length) :
    Calls Tryz.prog 71 #[.int .i64 (i : Int), .int .i64 (a : Int), .pointer (some ⟨p, 0, none⟩), .pointer (some ⟨q, 0, none⟩), .pointer (some ⟨t, 0, none⟩)] w fun e w' => e = .returned (.bool (startM F S r i a)) ∧ Dr w w' := by
  have hb := bagN_lt (n := 7) hS
  have h7 := (goodF_iff.1 hg).1
  have HB := Lib.hid (bag_has (fun y hy => (hS y hy).1) a)
  obtain ⟨bd, ar, cr, rfl, hd1, hd2⟩ := dist_row hg hB hi
  have hd3 := hd2 a ha
  have hiI : (i : Int) < (F.di.length : Int) := by omega
  have haI : (a : Int) < (F.op.length : Int) := by omega
  obtain ⟨dd, Hdd⟩ : ∃ z, Hid (dF F i a = z) := ⟨_, rfl⟩
  rw [Hdd.out] at hd3
  have C1 := Lib.hid (fun (n : Nat) => Calls.same_quiet (has_any (bagN S) a (w.drewN n) (by omega) (by omega)))
  cases hh : flHas S a
  · rw [HB.out, hh] at C1
    have Hst : Hid (startM F S r i a = false) := by show _ = _; unfold startM; rw [hh]; rfl
    clear hd2 hB hh HB hS
    go_enter Tryz.func71, Tryz.ntmps71
    go_wp2_with fail
    go_quiet (exact C1.out _)
    go_wp2_with fail
    go_ret
    exact ⟨ret_bool Hst.out.symm, (Dr.refl w).drewN _⟩
  · rw [HB.out, hh] at C1
    have Hst : Hid (startM F S r i a = decide (dd ≤ r)) := by show _ = _; unfold startM; rw [hh, Hdd.out]; rfl
    clear hd2 hB hh HB hS
    go_enter Tryz.func71, Tryz.ntmps71
    go_wp2_with fail
    go_quiet (exact C1.out _)
    go_wp2_with fail
    go_ret
    exact ⟨ret_bool Hst.out.symm, (Dr.refl w).drewN _⟩
end Go.Proofs.YtpiijhfjliolfaaGreat

namespace Go.Proofs.YtpiijhfjliolfaaGreat
open Go.RowKit Go.Sort

theorem lfOk_iff {F : Fld} {rooms needs S : List Int} : lfOk F rooms needs S = true ↔ haulB F rooms needs S = true ∧ needs.sum ≤ roomS rooms S := by
  unfold lfOk; rw [Bool.and_eq_true, decide_eq_true_eq]
theorem lst_ex {J M : Nat} {d : Nat → Nat → Int} {may : Nat → Nat → Bool} {nd rm : Nat → Int} (hd : ∀ j a, 0 ≤ d j a) : (∃ x, Haul J M may nd rm x) → ∃ c, IsLst J M d may nd rm c := by
  rintro ⟨x, hx⟩
  have key : ∀ (n : Nat) (x : Nat → Nat → Int), Haul J M may nd rm x → costT J M d x ≤ n → ∃ c, IsLst J M d may nd rm c := by
    intro n
    induction n with
    | zero =>
      intro x hx hc
      exact ⟨costT J M d x, ⟨x, hx, rfl⟩, fun y hy => by
        have : 0 ≤ costT J M d y := sumTo_nn (fun j hj => sumTo_nn (fun a ha => Int.mul_nonneg (hy.nn j a hj ha) (hd j a)))
        omega⟩
    | succ n ih =>
      intro x hx hc
      by_cases h : ∃ y, Haul J M may nd rm y ∧ costT J M d y < costT J M d x
      · obtain ⟨y, hy, hlt⟩ := h
        exact ih y hy (by omega)
      · exact ⟨costT J M d x, ⟨x, hx, rfl⟩, fun y hy => Int.not_lt.1 (fun hlt => h ⟨y, hy, hlt⟩)⟩
  have h0 : 0 ≤ costT J M d x := sumTo_nn (fun j hj => sumTo_nn (fun a ha => Int.mul_nonneg (hx.nn j a hj ha) (hd j a)))
  exact key (costT J M d x).toNat x hx (by omega)
/-- With room enough there is a least cost. -/
theorem lf_lst {F : Fld} {rooms needs S : List Int} (h : lfOk F rooms needs S = true) : IsLst F.di.length F.op.length (dF F) (openM S) (lget needs) (lget rooms) (lfV F rooms needs S) := by
  obtain ⟨h1, h2⟩ := lfOk_iff.1 h
  have hP := haul_p h1
  obtain ⟨x, hx⟩ := haul_ex (J := F.di.length) (M := F.op.length) (sA := fun a => flHas S a) (rm := lget rooms) (fun a _ => (hP.rb a).1) (sumTo (lget needs) F.di.length).toNat (lget needs) (fun j _ => (hP.nb j).1) (by have : 0 ≤ sumTo (lget needs) F.di.length := sumTo_nn (fun j _ => (hP.nb j).1); omega) (by rw [hP.ns, hP.rs]; exact h2)
  obtain ⟨c, hc⟩ := lst_ex (d := dF F) (fun j a => (dF_bd hP.good j a).1) ⟨x, hx⟩
  have := lfV_yes h hc
  rw [this]; exact hc
theorem lf_bd {F : Fld} {rooms needs S : List Int} (h : lfOk F rooms needs S = true) : 0 ≤ lfV F rooms needs S ∧ lfV F rooms needs S ≤ 24255 := by
  obtain ⟨h1, h2⟩ := lfOk_iff.1 h
  have hP := haul_p h1
  obtain ⟨x, hx, hc⟩ := (lf_lst h).some_
  have hf := haul_flow (S := S) (fun j a _ _ h => h) hx
  have hb := costFl_bd (flow := matL F.di.length F.op.length x) hP.good (fun j => (hP.nb j).2) (fun j hj => (flow_parts hf).2.1 j (by rw [matL_len]; exact hj)) F.di.length (Nat.le_refl _)
  rw [cost_mat, hc] at hb
  have h8 := (goodF_iff.1 hP.good).2.2.1
  omega
theorem lf_bd0 (F : Fld) (rooms needs S : List Int) : 0 ≤ lfV F rooms needs S ∧ lfV F rooms needs S ≤ 24255 := by
  cases h : lfOk F rooms needs S
  · rw [lfV_no h]; omega
  · exact lf_bd h
end Go.Proofs.YtpiijhfjliolfaaGreat

namespace Go.Proofs.YtpiijhfjliolfaaGreat
open Go.RowKit Go.Sort

def opAt (F : Fld) (a : Int) : Int := F.op.getD a.toNat 0
def payTo (F : Fld) (S : List Int) (k : Nat) : Int := ((S.take k).map (opAt F)).sum
def payF (F : Fld) (S : List Int) : Int := (S.map (opAt F)).sum
theorem payTo_succ {F : Fld} {S : List Int} {k : Nat} (hk : k < S.length) : payTo F S (k + 1) = payTo F S k + opAt F S[k] := by
  unfold payTo
  rw [List.take_succ_eq_append_getElem hk, List.map_append, List.sum_append]; simp
theorem payTo_all {F : Fld} {S : List Int} {k : Nat} (hk : S.length ≤ k) : payTo F S k = payF F S := by
  unfold payTo payF
  rw [List.take_of_length_le hk]
theorem opAt_bd {F : Fld} (h : goodF F = true) (a : Int) : 0 ≤ opAt F a ∧ opAt F a ≤ 99 := by
  unfold opAt
  by_cases hk : a.toNat < F.op.length
  · have e : F.op.getD a.toNat 0 = F.op[a.toNat] := by simp [List.getD, hk]
    rw [e]; exact (goodF_iff.1 h).2.1 _ (List.getElem_mem hk)
  · rw [List.getD_eq_getElem?_getD, List.getElem?_eq_none (by omega)]; simp
theorem payTo_bd {F : Fld} (h : goodF F = true) (S : List Int) : ∀ k, k ≤ S.length → 0 ≤ payTo F S k ∧ payTo F S k ≤ k * 99
  | 0, _ => by simp [payTo]
  | k + 1, hk => by
    have h1 := payTo_bd h S k (by omega)
    have h2 := opAt_bd h (S[k]'(by omega))
    rw [payTo_succ (by omega)]; omega
theorem set_len {F : Fld} {S : List Int} (h : setB F S = true) : S.length ≤ F.op.length := by
  have hr := ris_iff.1 h
  have hm := set_mem h
  have := bitsL_len F.op.length (bagN S)
  rwa [set_bits h] at this
theorem payF_bd {F : Fld} (h : goodF F = true) {S : List Int} (hs : setB F S = true) : 0 ≤ payF F S ∧ payF F S ≤ 693 := by
  have h1 := payTo_bd h S S.length (Nat.le_refl _)
  rw [payTo_all (Nat.le_refl _)] at h1
  have := set_len hs
  have := (goodF_iff.1 h).1.2
  omega
theorem opCell {w : World} {ad : Addr} {F : Fld} {a : Int} (h : IntsAt w (some ad) F.op) (h0 : 0 ≤ a) (h1 : a < F.op.length) : w.cell? (ad.add a.toNat) = some (.int .i64 (opAt F a)) := by
  have hk : a.toNat < F.op.length := by omega
  rw [h.some_ hk]
  simp [opAt, List.getD, hk]
set_option maxRecDepth 100000 in
set_option maxHeartbeats 400000 in
theorem payment_any (f : Value) (F : Fld) (A0 : Option Addr) (S : List Int) (n c0 : Nat) (w : World) (hf : FldAt w f F) (hS : IntsAt w A0 S) (hn : S.length = n) (hg : goodF F = true) (hs : setB F S = true) :
    Calls Tryz.prog 38 #[f, .slice A0 n c0] w fun e w' => e = .returned (.int .i64 (payF F S)) ∧ Kp w w' := by
  have hl1 : 0 < F.op.length := by have := (goodF_iff.1 hg).1.1; omega
  have h7 := (goodF_iff.1 hg).1.2
  obtain ⟨A, c, B, d, rfl, hA, hB⟩ := hf
  obtain ⟨od, rfl, _⟩ := hA.at_ (k := 0) hl1
  have hk0 : Kp w (w.alloc (.cells #[.slice (some od) F.op.length c, .slice B F.di.length d] 27)) := (Kp.refl w).alloc _
  obtain ⟨d0, d1⟩ := box2 w (.slice (some od) F.op.length c) (.slice B F.di.length d) 27
  replace hA := hA.kp hk0
  replace hS := hS.kp hk0
  have hm : n ≤ 9223372036854775807 := hn ▸ hS.1
  have hn7 : n ≤ 7 := by have := set_len hs; omega
  have Hn := Lib.hid hn; clear hn
  have Hm := Lib.hid (set_mem hs)
  have HG := Lib.hid hg
  have HB := Lib.hid (fun k (hk : k ≤ S.length) => payTo_bd hg S k hk)
  clear hs hg hB
  go_enter Tryz.func38, Tryz.ntmps38
  go_wp2_with fail
  generalize w.alloc (.cells #[.slice (some od) F.op.length c, .slice B F.di.length d] 27) = wb at *
  go_loopw [5, 10] (fun sv iv wr => ∃ k : Nat, k ≤ n ∧ iv = .int .i64 k ∧ sv = .int .i64 (payTo F S k) ∧ Dr wb wr) (fun _ iv _ => n - (intOf iv).toNat)
  case atStart => exact ⟨0, by omega, rfl, rfl, Dr.refl _⟩
  case round =>
    obtain ⟨k, hk, rfl, rfl, hdr⟩ := hrel
    have e0 := hdr.kp.get d0
    by_cases hlt : k < n
    · have lx : k < S.length := by rw [Hn.out]; exact hlt
      obtain ⟨sd, rfl, hck⟩ := (hS.kp hdr.kp).at_ lx
      obtain ⟨ha0, ha1⟩ := Hm.out _ (List.getElem_mem lx)
      have hoc := opCell (hA.kp hdr.kp) ha0 ha1
      have hsu := Lib.hid (payTo_succ (F := F) lx)
      obtain ⟨b1, b2⟩ := HB.out k (Nat.le_of_lt lx)
      obtain ⟨b3, b4⟩ := opAt_bd HG.out S[k]
      go_wp2_with fail
      go_roundw
      case rel => exact ⟨k + 1, by omega, by go_num, by rw [hsu.out] <;> go_num, hdr⟩
      case measure => simp [intOf]; omega
    · go_wp2_with fail
      go_ret
      exact ⟨ret_int (by rw [payTo_all (by rw [Hn.out]; omega)]), hk0.trans hdr.kp⟩
set_option maxRecDepth 100000 in
set_option maxHeartbeats 400000 in
theorem l2Pay_any (f : Value) (F : Fld) (A0 : Option Addr) (S : List Int) (n c0 : Nat) (w : World) (hf : FldAt w f F) (hS : IntsAt w A0 S) (hn : S.length = n) (hg : goodF F = true) (hs : setB F S = true) :
    Calls Tryz.prog 43 #[f, .slice A0 n c0] w fun e w' => e = .returned (.int .i64 (payF F S)) ∧ Kp w w' := by
  have hl1 : 0 < F.op.length := by have := (goodF_iff.1 hg).1.1; omega
  have h7 := (goodF_iff.1 hg).1.2
  obtain ⟨A, c, B, d, rfl, hA, hB⟩ := hf
  obtain ⟨od, rfl, _⟩ := hA.at_ (k := 0) hl1
  have hk0 : Kp w (w.alloc (.cells #[.slice (some od) F.op.length c, .slice B F.di.length d] 27)) := (Kp.refl w).alloc _
  obtain ⟨d0, d1⟩ := box2 w (.slice (some od) F.op.length c) (.slice B F.di.length d) 27
  replace hA := hA.kp hk0
  replace hS := hS.kp hk0
  have hm : n ≤ 9223372036854775807 := hn ▸ hS.1
  have hn7 : n ≤ 7 := by have := set_len hs; omega
  have Hn := Lib.hid hn; clear hn
  have Hm := Lib.hid (set_mem hs)
  have HG := Lib.hid hg
  have HB := Lib.hid (fun k (hk : k ≤ S.length) => payTo_bd hg S k hk)
  clear hs hg hB
  go_enter Tryz.func43, Tryz.ntmps43
  go_wp2_with fail
  generalize w.alloc (.cells #[.slice (some od) F.op.length c, .slice B F.di.length d] 27) = wb at *
  go_loopw [5, 6] (fun sv iv wr => ∃ k : Nat, k ≤ n ∧ iv = .int .i64 k ∧ sv = .int .i64 (payTo F S k) ∧ Dr wb wr) (fun _ iv _ => n - (intOf iv).toNat)
  case atStart => exact ⟨0, by omega, rfl, rfl, Dr.refl _⟩
  case round =>
    obtain ⟨k, hk, rfl, rfl, hdr⟩ := hrel
    have e0 := hdr.kp.get d0
    by_cases hlt : k < n
    · have lx : k < S.length := by rw [Hn.out]; exact hlt
      obtain ⟨sd, rfl, hck⟩ := (hS.kp hdr.kp).at_ lx
      obtain ⟨ha0, ha1⟩ := Hm.out _ (List.getElem_mem lx)
      have hoc := opCell (hA.kp hdr.kp) ha0 ha1
      have hsu := Lib.hid (payTo_succ (F := F) lx)
      obtain ⟨b1, b2⟩ := HB.out k (Nat.le_of_lt lx)
      obtain ⟨b3, b4⟩ := opAt_bd HG.out S[k]
      go_wp2_with fail
      go_quiet (fail)
      go_wp2_with fail
      go_roundw
      case rel => exact ⟨k + 1, by omega, by go_num, by rw [hsu.out] <;> go_num, hdr.drewN nq⟩
      case measure => simp [intOf]; omega
    · go_wp2_with fail
      go_ret
      exact ⟨ret_int (by rw [payTo_all (by rw [Hn.out]; omega)]), hk0.trans hdr.kp⟩
def totF (F : Fld) (S : List Int) : Int := serveF F S + payF F S
end Go.Proofs.YtpiijhfjliolfaaGreat

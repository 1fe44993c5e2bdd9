/- The reference's flows: LeastFlowCost, CanServe; LeastFlowCost and CanServe: the reference's, and CanServe: the program's; CanServe: the program's and the reference's; Words for the laws on lists of lists; Five parameters opened. No condition. -/
import Derived.Test.YtmbpeicbpfmibaaCsAp
import Derived.Test.YtmbpeicbpfmibaaCsAg
import Derived.Test.YtmbpeicbpfmibaaCsAo
import Derived.Test.YtmbpeicbpfmibaaCsAb
import Derived.Carry
namespace Go.Proofs.Ytmbpeicbpfmibaa
open Go.RowKit Go.Sort

theorem small_sum : ∀ (L : List Int), (∀ x ∈ L, 0 ≤ x ∧ x ≤ 1000) → 0 ≤ L.sum ∧ L.sum ≤ 1000 * (L.length : Int)
  | [], _ => by simp
  | x :: L, h => by
    have h1 := h x (by simp)
    have h2 := small_sum L (fun y hy => h y (by simp [hy]))
    simp only [List.sum_cons, List.length_cons]
    omega
theorem small_take {L : List Int} (h : ∀ x ∈ L, 0 ≤ x ∧ x ≤ 1000) (hl : L.length ≤ 1000) (k : Nat) (_ : k ≤ L.length) : -1000000000 ≤ (L.take k).sum ∧ (L.take k).sum ≤ 1000000000 := by
  have h1 := small_sum (L.take k) (fun x hx => h x (List.mem_of_mem_take hx))
  have h2 : (L.take k).length ≤ 1000 := by rw [List.length_take]; omega
  omega
set_option maxRecDepth 100000 in
set_option maxHeartbeats 1000000 in
theorem l7Can_any (f : Value) (F : Fld) (A1 : Option Addr) (rooms : List Int) (n1 c1 : Nat) (A2 : Option Addr) (needs : List Int) (n2 c2 : Nat) (A3 : Option Addr) (S : List Int) (n3 c3 : Nat) (w : World) (hf : FldAt w f F) (h1 : IntsAt w A1 rooms) (hn1 : rooms.length = n1) (h2 : IntsAt w A2 needs) (hn2 : needs.length = n2) (h3 : IntsAt w A3 S) (hn3 : S.length = n3) :
    Calls Try.prog 31 #[f, .slice A1 n1 c1, .slice A2 n2 c2, .slice A3 n3 c3] w fun e w' => e = .returned (.bool (lfOk F rooms needs S)) ∧ Kp w w' := by
  obtain ⟨A, c, B, d, rfl, hA, hB⟩ := hf
  have hk0 : Kp w (w.alloc (.cells #[.slice A F.op.length c, .slice B F.di.length d] 29)) := (Kp.refl w).alloc _
  obtain ⟨d0, d1⟩ := box2 w (.slice A F.op.length c) (.slice B F.di.length d) 29
  have hFA := FldAt.kp (show FldAt w (.agg #[.slice A F.op.length c, .slice B F.di.length d]) F from ⟨A, c, B, d, rfl, hA, hB⟩) hk0
  replace h1 := h1.kp hk0
  replace h2 := h2.kp hk0
  replace h3 := h3.kp hk0
  have Hn1 := Lib.hid hn1; have Hn2 := Lib.hid hn2; have Hn3 := Lib.hid hn3
  clear hA hB hn1 hn2 hn3
  go_enter Try.func31, Try.ntmps31
  go_wp2_with fail
  have hsz : Hid ((w.alloc (.cells #[.slice A F.op.length c, .slice B F.di.length d] 29)).heap.size = w.heap.size + 1) := by show _ = _; simp
  generalize w.alloc (.cells #[.slice A F.op.length c, .slice B F.di.length d] 29) = wb at *
  have hkb : Kp wb wb := Kp.refl _
  have hkw := hk0
  have CC := Lib.hid (l7Given_any _ F A1 rooms n1 c1 A2 needs n2 c2 A3 S n3 c3 _ (hFA.kp hkb) (h1.kp hkb) Hn1.out (h2.kp hkb) Hn2.out (h3.kp hkb) Hn3.out)
  with_reducible refine Calls.mono CC.out ?_
  rintro e w1 ⟨rfl, hk1⟩
  clear CC
  replace hkb := hkb.trans hk1
  cases hh_ : haulB F rooms needs S
  · have Hno : Hid (lfOk F rooms needs S = false) := by show _ = _; rw [lfOk, hh_]; rfl
    clear hh_
    have q_d0 := hkb.get d0
    have q_d1 := hkb.get d1
    go_wp2_with fail
    go_ret
    exact ⟨ret_bool Hno.out.symm, hkw.trans hkb⟩
  have HH := Lib.hid hh_
  have HP := Lib.hid (haul_p hh_)
  have HQ := Lib.hid (haulB_iff.1 hh_)
  clear hh_
  have h8 := (goodF_iff.1 HP.out.good).2.2.1
  have h7 := (goodF_iff.1 HP.out.good).1
  have hl3 : n3 ≤ 7 := by have := bitsL_len F.op.length (bagN S); rw [set_bits HP.out.set_, Hn3.out] at this; omega
  have hlen2 : needs.length ≤ 1000 := by have := HP.out.nl; omega
  have q_d0 := hkb.get d0
  have q_d1 := hkb.get d1
  go_wp2_with fail
  have CC := Lib.hid (l3Sum_any A2 needs n2 c2 _ (h2.kp hkb) Hn2.out (fun k hk => small_take (fun x hx => by have := HQ.out.2.2.1 x hx; omega) hlen2 k (by rw [Hn2.out]; exact hk)) (fun x hx => by have := HQ.out.2.2.1 x hx; omega))
  with_reducible refine Calls.mono CC.out ?_
  rintro e w2 ⟨rfl, hw⟩
  obtain rfl := hw
  clear CC q_d0 q_d1
  have q_d0 := hkb.get d0
  have q_d1 := hkb.get d1
  go_wp2_with fail
  have CC := Lib.hid (l7Room_any A1 rooms n1 c1 A3 S n3 c3 20 _ (h1.kp hkb) Hn1.out (h3.kp hkb) Hn3.out (fun x hx => by have := set_mem HP.out.set_ x hx; have := HP.out.rl; have := Hn1.out; omega) hl3 (by omega) (by omega) (fun x hx => by have := HQ.out.2.1.1 x hx; omega))
  with_reducible refine Calls.mono CC.out ?_
  rintro e w3 ⟨rfl, hw⟩
  obtain rfl := hw
  clear CC q_d0 q_d1
  have q_d0 := hkb.get d0
  have q_d1 := hkb.get d1
  go_wp2_with fail
  go_ret
  exact ⟨ret_bool (by rw [lfOk, HH.out]; rfl), hkw.trans hkb⟩
def AnyPost (w : World) (J M : Nat) (d : Nat → Nat → Int) (may : Nat → Nat → Bool) (nd rm : Nat → Int) (e : Ending) (w' : World) : Prop :=
  ∃ (L : NetL) (nl lf : Nat → Int) (fl : Nat → Nat → Int), e = .returned (.slice L.fA J L.cf) ∧ NetS w' w.heap.size L J M nl lf fl may ∧ NetN J M d may rm nd nl lf fl ∧ ((∀ j, j < J → nl j = 0) ∨ ((∃ j, j < J ∧ nl j ≠ 0) ∧ ∀ x, ¬ Haul J M may nd rm x)) ∧ Kp w w'
theorem NetN.zero {F : Fld} {rooms needs S : List Int} {may : Nat → Nat → Bool} (hP : HaulP F rooms needs S) : NetN F.di.length F.op.length (dF F) may (startR S rooms) (lget needs) (lget needs) (startR S rooms) (fun _ _ => 0) := by
  have hz : ∀ i, rowS F.op.length (fun _ _ => (0 : Int)) i = 0 := fun i => sumTo_c0 _
  refine ⟨Net.zero (fun j a => (dF_bd hP.good j a).1) (fun x _ => ?_), fun j _ => by rw [hz]; omega, fun j => by have := hP.nb j; omega⟩
  unfold startR; have := hP.rb x; split <;> omega
set_option maxRecDepth 100000 in
set_option maxHeartbeats 1000000 in
theorem l7Any_any (f : Value) (F : Fld) (A1 : Option Addr) (rooms : List Int) (n1 c1 : Nat) (A2 : Option Addr) (needs : List Int) (n2 c2 : Nat) (A3 : Option Addr) (S : List Int) (n3 c3 : Nat) (w : World) (hf : FldAt w f F) (h1 : IntsAt w A1 rooms) (hn1 : rooms.length = n1) (h2 : IntsAt w A2 needs) (hn2 : needs.length = n2) (h3 : IntsAt w A3 S) (hn3 : S.length = n3) (hP : HaulP F rooms needs S) :
    Calls Try.prog 38 #[f, .slice A1 n1 c1, .slice A2 n2 c2, .slice A3 n3 c3] w (AnyPost w F.di.length F.op.length (dF F) (startM F S 99) (lget needs) (startR S rooms)) := by
  obtain ⟨A, c, B, d, rfl, hA, hB⟩ := hf
  have hk0 : Kp w (w.alloc (.cells #[.slice A F.op.length c, .slice B F.di.length d] 29)) := (Kp.refl w).alloc _
  obtain ⟨d0, d1⟩ := box2 w (.slice A F.op.length c) (.slice B F.di.length d) 29
  have hFA := FldAt.kp (show FldAt w (.agg #[.slice A F.op.length c, .slice B F.di.length d]) F from ⟨A, c, B, d, rfl, hA, hB⟩) hk0
  have h8 := (goodF_iff.1 hP.good).2.2.1
  have h7 := (goodF_iff.1 hP.good).1
  have HP := Lib.hid hP
  have C0 := Lib.hid (fun (wx : World) (hx : Kp (w.alloc (.cells #[.slice A F.op.length c, .slice B F.di.length d] 29)) wx) => l7Start_any _ F A1 rooms n1 c1 A2 needs n2 c2 A3 S n3 c3 99 wx (hFA.kp hx) hP.good (h1.kp (hk0.trans hx)) hn1 (h2.kp (hk0.trans hx)) hn2 (h3.kp (hk0.trans hx)) hn3 (by rw [← hn1]; exact hP.rl) (by rw [← hn2]; exact hP.nl) (fun x hx => by have := set_mem hP.set_ x hx; omega))
  have C1 := Lib.hid (fun (wx wy : World) (L : NetL) (h0 : Kp (w.alloc (.cells #[.slice A F.op.length c, .slice B F.di.length d] 29)) wx) (hxy : Kp wx wy) (hn : NetS wy wx.heap.size L F.di.length F.op.length (lget needs) (startR S rooms) (fun _ _ => 0) (startM F S 99)) =>
    (l7Fill_any _ F L (lget needs) (startR S rooms) (startR S rooms) (lget needs) (fun _ _ => 0) (startM F S 99) wx.heap.size wx wy (hFA.kp h0) hxy (Nat.le_refl _) hxy.le hP.good hn (NetN.zero hP) (fun x _ => by unfold startR; have := hP.rb x; split <;> omega)).mono (fun e w' hp => by
      obtain ⟨nl, lf, fl, he, hN2, hNn, hor, ht⟩ := hp
      exact (⟨nl, lf, fl, he, hN2.mono (by have := hk0.le; have := h0.le; omega), hNn, hor, hxy.turn ht (fun i hi => hi.1)⟩ : ∃ (nl lf : Nat → Int) (fl : Nat → Nat → Int), e = .returned (.agg #[.slice L.nA F.di.length L.cn, .slice (some ⟨L.gr, 0, none⟩) F.op.length L.cr, .slice L.fA F.di.length L.cf, .slice L.mA F.di.length L.cm]) ∧ NetS w' w.heap.size L F.di.length F.op.length nl lf fl (startM F S 99) ∧ NetN F.di.length F.op.length (dF F) (startM F S 99) (startR S rooms) (lget needs) nl lf fl ∧ ((∀ j, j < F.di.length → nl j = 0) ∨ ((∃ j, j < F.di.length ∧ nl j ≠ 0) ∧ ∀ x, ¬ Haul F.di.length F.op.length (startM F S 99) (lget needs) (startR S rooms) x)) ∧ Kp wx w')))
  have hfd : ∀ (w : World) (a b c d : Option Addr) (p q u v x y s t : Nat), Sem.run Try.prog (Instr.field 68 (.agg #[.slice a p q, .slice b u v, .slice c x y, .slice d s t]) 2) w = .ok (  .slice c x y) w := fun _ _ _ _ _ _ _ _ _ _ _ _ _ => by kernel_rfl
  clear hA hB hn1 hn2 hn3 h1 h2 h3 hP
  go_enter Try.func38, Try.ntmps38
  go_wp2_with fail
  have hsz : Hid ((w.alloc (.cells #[.slice A F.op.length c, .slice B F.di.length d] 29)).heap.size = w.heap.size + 1) := by show _ = _; simp
  generalize w.alloc (.cells #[.slice A F.op.length c, .slice B F.di.length d] 29) = wb at *
  have hkb : Kp wb wb := Kp.refl _
  have hkw := hk0
  have q_d0 := hkb.get d0
  have q_d1 := hkb.get d1
  have tok1 : True := trivial
  go_wp2_with fail
  go_region_held3 (fun w' => w'.cell? ⟨w.heap.size, 0, none⟩ = some (.slice A F.op.length c) ∧ w'.cell? ⟨w.heap.size, 1, none⟩ = some (.slice B F.di.length d) ∧ Kp wb w')
    (first | (refine keepc2 d0 d1 ?_; exact (by repeat (first | with_reducible assumption | with_reducible exact Kp.refl _ | with_reducible refine Kp.drew ?_ | with_reducible refine Kp.alloc ?_ _ | with_reducible refine Kp.drewN ?_ _ | refine Kp.setCell ?_ (by dsimp only; omega) _))) | fail)
    (first
      | (have _t := tok1; go_at_call 54; with_reducible refine Calls.mono (C0.out _ (by repeat (first | with_reducible assumption | with_reducible exact Kp.refl _ | with_reducible refine Kp.drew ?_ | with_reducible refine Kp.alloc ?_ _ | with_reducible refine Kp.drewN ?_ _ | refine Kp.setCell ?_ (by dsimp only; omega) _))) ?_; rintro e wr1 ⟨L, rfl, hn, hka⟩; have hr1 : Kp wb wr1 := Kp.trans (by repeat (first | with_reducible assumption | with_reducible exact Kp.refl _ | with_reducible refine Kp.drew ?_ | with_reducible refine Kp.alloc ?_ _ | with_reducible refine Kp.drewN ?_ _ | refine Kp.setCell ?_ (by dsimp only; omega) _)) hka; have tok2 : True := trivial; clear tok1 _t)
      | (have _t := tok2; go_at_call 53; with_reducible refine Calls.mono (C1.out _ _ _ (by repeat (first | with_reducible assumption | with_reducible exact Kp.refl _ | with_reducible refine Kp.drew ?_ | with_reducible refine Kp.alloc ?_ _ | with_reducible refine Kp.drewN ?_ _ | refine Kp.setCell ?_ (by dsimp only; omega) _)) (Kp.trans hka (by repeat (first | with_reducible assumption | with_reducible exact Kp.refl _ | with_reducible refine Kp.drew ?_ | with_reducible refine Kp.alloc ?_ _ | with_reducible refine Kp.drewN ?_ _ | refine Kp.setCell ?_ (by dsimp only; omega) _))) (hn.kp (by repeat (first | with_reducible assumption | with_reducible exact Kp.refl _ | with_reducible refine Kp.drew ?_ | with_reducible refine Kp.alloc ?_ _ | with_reducible refine Kp.drewN ?_ _ | refine Kp.setCell ?_ (by dsimp only; omega) _)))) ?_; rintro e wr2 ⟨nl, lf, fl, rfl, hn2, hnn, hor, hka⟩; have hr2 : Kp wb wr2 := Kp.trans (by repeat (first | with_reducible assumption | with_reducible exact Kp.refl _ | with_reducible refine Kp.drew ?_ | with_reducible refine Kp.alloc ?_ _ | with_reducible refine Kp.drewN ?_ _ | refine Kp.setCell ?_ (by dsimp only; omega) _)) hka; have tok3 : True := trivial; clear tok2 _t)
      | fail)
  all_goals
    go_wp2_with fail
    go_ret
    exact ⟨L, nl, lf, fl, rfl, hn2, hnn, hor, hkw.trans hr2⟩
def csR (F : Fld) (rooms needs S : List Int) (r : Int) : Prop := CanH F.di.length F.op.length (startM F S r) (lget needs) (startR S rooms)
open Classical in
noncomputable def csB (F : Fld) (rooms needs S : List Int) (r : Int) : Bool := decide (csR F rooms needs S r)
theorem net_can {J M : Nat} {d : Nat → Nat → Int} {may : Nat → Nat → Bool} {rm nd nl lf : Nat → Int} {fl : Nat → Nat → Int} (hn : NetN J M d may rm nd nl lf fl) (hz : ∀ j, j < J → nl j = 0) : Haul J M may nd rm fl ∧ ∀ x, Haul J M may nd rm x → costT J M d fl ≤ costT J M d x :=
  hn.net.least (fun j hj => by have := hn.row j hj; have := hz j hj; omega)
theorem sum_left {J M : Nat} {d : Nat → Nat → Int} {may : Nat → Nat → Bool} {rm nd nl lf : Nat → Int} {fl : Nat → Nat → Int} (hn : NetN J M d may rm nd nl lf fl) (hor : (∀ j, j < J → nl j = 0) ∨ ((∃ j, j < J ∧ nl j ≠ 0) ∧ ∀ x, ¬ Haul J M may nd rm x)) : (sumTo nl J = 0 ∧ CanH J M may nd rm) ∨ (0 < sumTo nl J ∧ ¬ CanH J M may nd rm) := by
  rcases hor with h | ⟨⟨j, hj, hz⟩, h⟩
  · left
    refine ⟨?_, fl, (net_can hn h).1⟩
    rw [sumTo_congr h, sumTo_c0]
  · right
    refine ⟨?_, fun ⟨x, hx⟩ => h x hx⟩
    have h1 : nl j ≤ sumTo nl J := sumTo_ge (fun i _ => (hn.nb i).1) hj
    have := (hn.nb j).1
    omega
theorem sumTo_mapTo (g : Nat → Int) (n : Nat) : (mapTo g n).sum = sumTo g n := rfl
set_option maxRecDepth 100000 in
set_option maxHeartbeats 1000000 in
theorem l7Serves_any (f : Value) (F : Fld) (A1 : Option Addr) (rooms : List Int) (n1 c1 : Nat) (A2 : Option Addr) (needs : List Int) (n2 c2 : Nat) (A3 : Option Addr) (S : List Int) (n3 c3 : Nat) (r : Int) (w : World) (hf : FldAt w f F) (h1 : IntsAt w A1 rooms) (hn1 : rooms.length = n1) (h2 : IntsAt w A2 needs) (hn2 : needs.length = n2) (h3 : IntsAt w A3 S) (hn3 : S.length = n3) (hP : HaulP F rooms needs S) :
    Calls Try.prog 46 #[f, .slice A1 n1 c1, .slice A2 n2 c2, .slice A3 n3 c3, .int .i64 r] w (fun e w' => e = .returned (.bool (csB F rooms needs S r)) ∧ Kp w w') := by
  obtain ⟨A, c, B, d, rfl, hA, hB⟩ := hf
  have hk0 : Kp w (w.alloc (.cells #[.slice A F.op.length c, .slice B F.di.length d] 29)) := (Kp.refl w).alloc _
  obtain ⟨d0, d1⟩ := box2 w (.slice A F.op.length c) (.slice B F.di.length d) 29
  have hFA := FldAt.kp (show FldAt w (.agg #[.slice A F.op.length c, .slice B F.di.length d]) F from ⟨A, c, B, d, rfl, hA, hB⟩) hk0
  have h8 := (goodF_iff.1 hP.good).2.2.1
  have h7 := (goodF_iff.1 hP.good).1
  have HP := Lib.hid hP
  have C0 := Lib.hid (fun (wx : World) (hx : Kp (w.alloc (.cells #[.slice A F.op.length c, .slice B F.di.length d] 29)) wx) => l7Start_any _ F A1 rooms n1 c1 A2 needs n2 c2 A3 S n3 c3 r wx (hFA.kp hx) hP.good (h1.kp (hk0.trans hx)) hn1 (h2.kp (hk0.trans hx)) hn2 (h3.kp (hk0.trans hx)) hn3 (by rw [← hn1]; exact hP.rl) (by rw [← hn2]; exact hP.nl) (fun x hx => by have := set_mem hP.set_ x hx; omega))
  have C1 := Lib.hid (fun (wx wy : World) (L : NetL) (h0 : Kp (w.alloc (.cells #[.slice A F.op.length c, .slice B F.di.length d] 29)) wx) (hxy : Kp wx wy) (hn : NetS wy wx.heap.size L F.di.length F.op.length (lget needs) (startR S rooms) (fun _ _ => 0) (startM F S r)) =>
    (l7Fill_any _ F L (lget needs) (startR S rooms) (startR S rooms) (lget needs) (fun _ _ => 0) (startM F S r) wx.heap.size wx wy (hFA.kp h0) hxy (Nat.le_refl _) hxy.le hP.good hn (NetN.zero hP) (fun x _ => by unfold startR; have := hP.rb x; split <;> omega)).mono (fun e w' hp => by
      obtain ⟨nl, lf, fl, he, hN2, hNn, hor, ht⟩ := hp
      exact (⟨nl, lf, fl, he, hN2.mono (by have := hk0.le; have := h0.le; omega), hNn, hor, hxy.turn ht (fun i hi => hi.1)⟩ : ∃ (nl lf : Nat → Int) (fl : Nat → Nat → Int), e = .returned (.agg #[.slice L.nA F.di.length L.cn, .slice (some ⟨L.gr, 0, none⟩) F.op.length L.cr, .slice L.fA F.di.length L.cf, .slice L.mA F.di.length L.cm]) ∧ NetS w' w.heap.size L F.di.length F.op.length nl lf fl (startM F S r) ∧ NetN F.di.length F.op.length (dF F) (startM F S r) (startR S rooms) (lget needs) nl lf fl ∧ ((∀ j, j < F.di.length → nl j = 0) ∨ ((∃ j, j < F.di.length ∧ nl j ≠ 0) ∧ ∀ x, ¬ Haul F.di.length F.op.length (startM F S r) (lget needs) (startR S rooms) x)) ∧ Kp wx w')))
  have hfd : ∀ (w : World) (a b c d : Option Addr) (p q u v x y s t : Nat), Sem.run Try.prog (Instr.field 68 (.agg #[.slice a p q, .slice b u v, .slice c x y, .slice d s t]) 0) w = .ok (.slice a p q) w := fun _ _ _ _ _ _ _ _ _ _ _ _ _ => by kernel_rfl
  have C2 := Lib.hid (fun (wx : World) (base : Nat) (L : NetL) (nl lf : Nat → Int) (fl : Nat → Nat → Int) (hn : NetS wx base L F.di.length F.op.length nl lf fl (startM F S r)) (hnn : NetN F.di.length F.op.length (dF F) (startM F S r) (startR S rooms) (lget needs) nl lf fl) =>
    (show Calls Try.prog 48 #[.slice L.nA F.di.length L.cn] wx (fun e w' => e = .returned (.int .i64 (sumTo nl F.di.length)) ∧ wx = w') from
      l3Sum_any L.nA (mapTo nl F.di.length) F.di.length L.cn wx (by
        by_cases hj : 0 < F.di.length
        · obtain ⟨A', c', e, hi⟩ := (hn.nd hj).ints (by rw [mapTo_len]; omega)
          simp only [Value.slice.injEq] at e
          rw [hn.na hj, e.1]; exact hi
        · rw [show F.di.length = 0 by omega]; exact IntsAt.nil _ _) (mapTo_len _ _)
        (fun k hk => small_take (fun x hx => by
          simp only [mapTo, List.mem_map] at hx
          obtain ⟨i, _, rfl⟩ := hx
          exact hnn.nb i) (by rw [mapTo_len]; omega) k (by rw [mapTo_len]; exact hk))
        (fun x hx => by
          simp only [mapTo, List.mem_map] at hx
          obtain ⟨i, _, rfl⟩ := hx
          have := hnn.nb i; omega)))
  clear hA hB hn1 hn2 hn3 h1 h2 h3 hP
  go_enter Try.func46, Try.ntmps46
  go_wp2_with fail
  have hsz : Hid ((w.alloc (.cells #[.slice A F.op.length c, .slice B F.di.length d] 29)).heap.size = w.heap.size + 1) := by show _ = _; simp
  generalize w.alloc (.cells #[.slice A F.op.length c, .slice B F.di.length d] 29) = wb at *
  have hkb : Kp wb wb := Kp.refl _
  have hkw := hk0
  have q_d0 := hkb.get d0
  have q_d1 := hkb.get d1
  have tok1 : True := trivial
  go_wp2_with fail
  go_region_held3 (fun w' => w'.cell? ⟨w.heap.size, 0, none⟩ = some (.slice A F.op.length c) ∧ w'.cell? ⟨w.heap.size, 1, none⟩ = some (.slice B F.di.length d) ∧ Kp wb w')
    (first | (refine keepc2 d0 d1 ?_; exact (by repeat (first | with_reducible assumption | with_reducible exact Kp.refl _ | with_reducible refine Kp.drew ?_ | with_reducible refine Kp.alloc ?_ _ | with_reducible refine Kp.drewN ?_ _ | refine Kp.setCell ?_ (by dsimp only; omega) _))) | fail)
    (first
      | (have _t := tok1; go_at_call 54; with_reducible refine Calls.mono (C0.out _ (by repeat (first | with_reducible assumption | with_reducible exact Kp.refl _ | with_reducible refine Kp.drew ?_ | with_reducible refine Kp.alloc ?_ _ | with_reducible refine Kp.drewN ?_ _ | refine Kp.setCell ?_ (by dsimp only; omega) _))) ?_; rintro e wr1 ⟨L, rfl, hn, hka⟩; have hr1 : Kp wb wr1 := Kp.trans (by repeat (first | with_reducible assumption | with_reducible exact Kp.refl _ | with_reducible refine Kp.drew ?_ | with_reducible refine Kp.alloc ?_ _ | with_reducible refine Kp.drewN ?_ _ | refine Kp.setCell ?_ (by dsimp only; omega) _)) hka; have tok2 : True := trivial; clear tok1 _t)
      | (have _t := tok2; go_at_call 53; with_reducible refine Calls.mono (C1.out _ _ _ (by repeat (first | with_reducible assumption | with_reducible exact Kp.refl _ | with_reducible refine Kp.drew ?_ | with_reducible refine Kp.alloc ?_ _ | with_reducible refine Kp.drewN ?_ _ | refine Kp.setCell ?_ (by dsimp only; omega) _)) (Kp.trans hka (by repeat (first | with_reducible assumption | with_reducible exact Kp.refl _ | with_reducible refine Kp.drew ?_ | with_reducible refine Kp.alloc ?_ _ | with_reducible refine Kp.drewN ?_ _ | refine Kp.setCell ?_ (by dsimp only; omega) _))) (hn.kp (by repeat (first | with_reducible assumption | with_reducible exact Kp.refl _ | with_reducible refine Kp.drew ?_ | with_reducible refine Kp.alloc ?_ _ | with_reducible refine Kp.drewN ?_ _ | refine Kp.setCell ?_ (by dsimp only; omega) _)))) ?_; rintro e wr2 ⟨nl, lf, fl, rfl, hn2, hnn, hor, hka⟩; have hr2 : Kp wb wr2 := Kp.trans (by repeat (first | with_reducible assumption | with_reducible exact Kp.refl _ | with_reducible refine Kp.drew ?_ | with_reducible refine Kp.alloc ?_ _ | with_reducible refine Kp.drewN ?_ _ | refine Kp.setCell ?_ (by dsimp only; omega) _)) hka; have tok3 : True := trivial; clear tok2 _t)
      | (have _t := tok3; go_at_call 48; with_reducible refine Calls.mono (C2.out _ _ _ _ _ _ hn2 hnn) ?_; rintro e wr3 ⟨rfl, hw⟩; obtain rfl := hw; have tok4 : True := trivial; clear tok3 _t)
      | fail)
  all_goals
    go_wp2_with fail
    go_ret
    refine ⟨ret_bool ?_, hkw.trans hr2⟩
    rcases sum_left hnn hor with ⟨h1, h2⟩ | ⟨h1, h2⟩
    · rw [h1]; unfold csB csR; simp [h2]
    · unfold csB csR; simp [h2]; omega
end Go.Proofs.Ytmbpeicbpfmibaa

namespace Go.Proofs.Ytmbpeicbpfmibaa
open Go.RowKit Go.Sort

/-- Where a set's sites alone are open for all, there is a haul if there is room enough. -/
theorem haul_ex {J M : Nat} {sA : Nat → Bool} {rm : Nat → Int} (hr : ∀ a, a < M → 0 ≤ rm a) : ∀ (n : Nat) (nd : Nat → Int), (∀ j, j < J → 0 ≤ nd j) → sumTo nd J = n → sumTo nd J ≤ sumTo (fun a => if sA a = true then rm a else 0) M → ∃ x, Haul J M (fun _ a => sA a) nd rm x
  | 0, nd, h0, hn, _ => by
    have hz : ∀ j, j < J → nd j = 0 := fun j hj => by have := h0 j hj; have h1 : nd j ≤ sumTo nd J := sumTo_ge h0 hj; omega
    exact ⟨fun _ _ => 0, ⟨fun _ _ _ _ => Int.le_refl _, fun _ _ _ _ h => by omega, fun j hj => by rw [hz j hj]; exact sumTo_c0 _, fun a ha => by
      have : colT J (fun _ _ => (0 : Int)) a = 0 := sumTo_c0 _
      rw [this]; exact hr a ha⟩⟩
  | n + 1, nd, h0, hn, hs => by
    obtain ⟨j0, hj0, hp⟩ := sumTo_pos' h0 (by omega)
    have h1 : sumTo (upd nd j0 (nd j0 - 1)) J = n := by rw [sumTo_upd, if_pos hj0]; omega
    obtain ⟨x, hx⟩ := haul_ex (sA := sA) hr n (upd nd j0 (nd j0 - 1)) (fun j hj => by
      by_cases e : j = j0
      · subst e; rw [upd_at]; omega
      · rw [upd_ne e]; exact h0 j hj) h1 (by omega)
    have ht : sumTo (colT J x) M = n := by rw [tot, sumTo_congr hx.row, h1]
    have hA : ∃ a, a < M ∧ sA a = true ∧ colT J x a < rm a := Classical.byContradiction (fun hno => by
      have hle : sumTo (fun a => if sA a = true then rm a else 0) M ≤ sumTo (colT J x) M := sumTo_mono' (fun a ha => by
        by_cases hs : sA a = true
        · rw [if_pos hs]; exact Int.not_lt.1 (fun hlt => hno ⟨a, ha, hs, hlt⟩)
        · rw [if_neg hs]; exact sumTo_nn (fun j hj => hx.nn j a hj ha))
      omega)
    obtain ⟨a, ha, hsa, hlt⟩ := hA
    refine ⟨upd2 x j0 a (x j0 a + 1), ⟨fun j b hj hb => ?_, fun j b hj hb hpos => ?_, fun j hj => ?_, fun b hb => ?_⟩⟩
    · by_cases e : j = j0 ∧ b = a
      · obtain ⟨rfl, rfl⟩ := e; rw [upd2_at]; have := hx.nn j b hj hb; omega
      · rw [upd2_ne (by omega)]; exact hx.nn j b hj hb
    · by_cases e : j = j0 ∧ b = a
      · obtain ⟨rfl, rfl⟩ := e; exact hsa
      · rw [upd2_ne (by omega)] at hpos; exact hx.may j b hj hb hpos
    · rw [row_upd2 _ _ ha, hx.row j hj]
      by_cases e : j = j0
      · subst e; rw [if_pos rfl, upd_at]; omega
      · rw [if_neg e, upd_ne e]; omega
    · rw [col_upd2 _ _ hj0]
      have := hx.col b hb
      by_cases e : b = a
      · subst e; rw [if_pos rfl]; omega
      · rw [if_neg e]; omega
theorem startM_open {F : Fld} {S : List Int} (hg : goodF F = true) (j a : Nat) : startM F S 99 j a = openM S j a := by
  unfold startM openM
  have := (dF_bd hg j a).2
  rw [decide_eq_true this, Bool.and_true]
theorem startR_or (F : Fld) (S rooms : List Int) (r : Int) (J a : Nat) : (∀ j, j < J → startM F S r j a = false) ∨ startR S rooms a = lget rooms a := by
  cases h : flHas S a
  · exact .inl fun j _ => by unfold startM; rw [h]; rfl
  · exact .inr (by unfold startR; rw [if_pos h])
theorem startR_nn {rooms : List Int} (S : List Int) (h : ∀ x, 0 ≤ lget rooms x ∧ lget rooms x ≤ 20) (a : Nat) : 0 ≤ startR S rooms a := by unfold startR; have := h a; split <;> omega
/-- The reference's rooms and the given ones make no difference. -/
theorem start_lst {F : Fld} {rooms needs S : List Int} (hP : HaulP F rooms needs S) {c : Int} (h : IsLst F.di.length F.op.length (dF F) (startM F S 99) (lget needs) (startR S rooms) c) : IsLst F.di.length F.op.length (dF F) (openM S) (lget needs) (lget rooms) c :=
  lst_congr (fun _ _ _ _ => rfl) (fun j a _ _ => startM_open hP.good j a) (fun _ _ => rfl) (fun a _ => startR_or F S rooms 99 F.di.length a) (fun a _ => startR_nn S hP.rb a) (fun a _ => (hP.rb a).1) h
theorem start_haul {F : Fld} {rooms needs S : List Int} (hP : HaulP F rooms needs S) {r : Int} {x : Nat → Nat → Int} (h : Haul F.di.length F.op.length (startM F S r) (lget needs) (lget rooms) x) : Haul F.di.length F.op.length (startM F S r) (lget needs) (startR S rooms) x :=
  haul_congr (fun _ _ _ _ => rfl) (fun _ _ => rfl) (fun a _ => (startR_or F S rooms r F.di.length a).imp id Eq.symm) (fun a _ => startR_nn S hP.rb a) h
theorem start_haul' {F : Fld} {rooms needs S : List Int} (hP : HaulP F rooms needs S) {r : Int} {x : Nat → Nat → Int} (h : Haul F.di.length F.op.length (startM F S r) (lget needs) (startR S rooms) x) : Haul F.di.length F.op.length (startM F S r) (lget needs) (lget rooms) x :=
  haul_congr (fun _ _ _ _ => rfl) (fun _ _ => rfl) (fun a _ => startR_or F S rooms r F.di.length a) (fun a _ => (hP.rb a).1) h
/-- With room enough the reference's net is full. -/
theorem any_full {F : Fld} {rooms needs S : List Int} (hP : HaulP F rooms needs S) (hs : needs.sum ≤ roomS rooms S) : CanH F.di.length F.op.length (startM F S 99) (lget needs) (startR S rooms) := by
  obtain ⟨x, hx⟩ := haul_ex (J := F.di.length) (M := F.op.length) (sA := fun a => flHas S a) (rm := lget rooms) (fun a _ => (hP.rb a).1) (sumTo (lget needs) F.di.length).toNat (lget needs) (fun j _ => (hP.nb j).1) (by have : 0 ≤ sumTo (lget needs) F.di.length := sumTo_nn (fun j _ => (hP.nb j).1); omega) (by rw [hP.ns, hP.rs]; exact hs)
  exact ⟨x, start_haul hP (haul_congr (fun j a _ _ => by rw [startM_open hP.good]; rfl) (fun _ _ => rfl) (fun _ _ => .inr rfl) (fun a _ => (hP.rb a).1) hx)⟩
theorem net_grid {w : World} {base : Nat} {L : NetL} {J M : Nat} {nl lf : Nat → Int} {fl : Nat → Nat → Int} {may : Nat → Nat → Bool} (h : NetS w base L J M nl lf fl may) (hJ : J ≤ 1000) (hM : M ≤ 1000) : GridAt w L.fA (matL J M fl) := by
  by_cases h0 : 0 < J
  · rw [h.fa h0]; exact (h.fl h0).grid (by omega) (by omega)
  · obtain rfl : J = 0 := by omega
    exact ⟨by simp [matL], fun k hk => by simp [matL] at hk⟩
set_option maxRecDepth 100000 in
set_option maxHeartbeats 1000000 in
theorem specLf_any (f : Value) (F : Fld) (A1 : Option Addr) (rooms : List Int) (n1 c1 : Nat) (A2 : Option Addr) (needs : List Int) (n2 c2 : Nat) (A3 : Option Addr) (S : List Int) (n3 c3 : Nat) (w : World) (hf : FldAt w f F) (h1 : IntsAt w A1 rooms) (hn1 : rooms.length = n1) (h2 : IntsAt w A2 needs) (hn2 : needs.length = n2) (h3 : IntsAt w A3 S) (hn3 : S.length = n3) :
    Calls Try.prog 18 #[f, .slice A1 n1 c1, .slice A2 n2 c2, .slice A3 n3 c3] w fun e w' => e = .returned (.tuple #[.int .i64 (lfV F rooms needs S), .bool (lfOk F rooms needs S)]) ∧ Kp w w' := by
  obtain ⟨A, c, B, d, rfl, hA, hB⟩ := hf
  have hk0 : Kp w (w.alloc (.cells #[.slice A F.op.length c, .slice B F.di.length d] 29)) := (Kp.refl w).alloc _
  obtain ⟨d0, d1⟩ := box2 w (.slice A F.op.length c) (.slice B F.di.length d) 29
  have hFA := FldAt.kp (show FldAt w (.agg #[.slice A F.op.length c, .slice B F.di.length d]) F from ⟨A, c, B, d, rfl, hA, hB⟩) hk0
  replace h1 := h1.kp hk0
  replace h2 := h2.kp hk0
  replace h3 := h3.kp hk0
  have Hn1 := Lib.hid hn1; have Hn2 := Lib.hid hn2; have Hn3 := Lib.hid hn3
  clear hA hB hn1 hn2 hn3
  go_enter Try.func18, Try.ntmps18
  go_wp2_with fail
  have hsz : Hid ((w.alloc (.cells #[.slice A F.op.length c, .slice B F.di.length d] 29)).heap.size = w.heap.size + 1) := by show _ = _; simp
  generalize w.alloc (.cells #[.slice A F.op.length c, .slice B F.di.length d] 29) = wb at *
  have hkb : Kp wb wb := Kp.refl _
  have hkw := hk0
  have CC := Lib.hid (l7Can_any _ F A1 rooms n1 c1 A2 needs n2 c2 A3 S n3 c3 _ (hFA.kp hkb) (h1.kp hkb) Hn1.out (h2.kp hkb) Hn2.out (h3.kp hkb) Hn3.out)
  with_reducible refine Calls.mono CC.out ?_
  rintro e w1 ⟨rfl, hk1⟩
  clear CC
  replace hkb := hkb.trans hk1
  cases hh_ : lfOk F rooms needs S
  · have Hno : Hid (lfOk F rooms needs S = false) := hh_
    clear hh_
    have q_d0 := hkb.get d0
    have q_d1 := hkb.get d1
    go_wp2_with fail
    go_ret2
    exact ⟨by rw [lfV_no Hno.out, Hno.out]; rfl, hkw.trans hkb⟩
  have Hok := Lib.hid hh_
  have HH : Hid (haulB F rooms needs S = true ∧ needs.sum ≤ roomS rooms S) := by
    have := hh_
    unfold lfOk at this
    rw [Bool.and_eq_true, decide_eq_true_eq] at this
    exact this
  have HP := Lib.hid (haul_p HH.out.1)
  clear hh_
  have h8 := (goodF_iff.1 HP.out.good).2.2.1
  have h7 := (goodF_iff.1 HP.out.good).1
  have C0 := Lib.hid (fun (wx : World) (hx : Kp w1 wx) => (l7Any_any _ F A1 rooms n1 c1 A2 needs n2 c2 A3 S n3 c3 wx (hFA.kp (hkb.trans hx)) (h1.kp (hkb.trans hx)) Hn1.out (h2.kp (hkb.trans hx)) Hn2.out (h3.kp (hkb.trans hx)) Hn3.out HP.out).mono (fun e w' hp => by
    obtain ⟨L, nl, lf, fl, he, hN, hNn, hor, hk⟩ := hp
    have hz : ∀ j, j < F.di.length → nl j = 0 := by
      rcases hor with h | ⟨_, h⟩
      · exact h
      · obtain ⟨x, hx⟩ := any_full HP.out HH.out.2
        exact absurd hx (h x)
    exact (⟨L.fA, L.cf, fl, he, net_grid hN (by omega) (by omega), start_lst HP.out ⟨⟨fl, (net_can hNn hz).1, rfl⟩, (net_can hNn hz).2⟩, start_haul' HP.out (net_can hNn hz).1, hk⟩ : ∃ (fA : Option Addr) (cf : Nat) (fl : Nat → Nat → Int), e = .returned (.slice fA F.di.length cf) ∧ GridAt w' fA (matL F.di.length F.op.length fl) ∧ IsLst F.di.length F.op.length (dF F) (openM S) (lget needs) (lget rooms) (costT F.di.length F.op.length (dF F) fl) ∧ Haul F.di.length F.op.length (startM F S 99) (lget needs) (lget rooms) fl ∧ Kp wx w')))
  have C1 := Lib.hid (fun (wx : World) (hx : Kp w1 wx) (fA : Option Addr) (cf : Nat) (fl : Nat → Nat → Int) (hg : GridAt wx fA (matL F.di.length F.op.length fl)) (hl : IsLst F.di.length F.op.length (dF F) (openM S) (lget needs) (lget rooms) (costT F.di.length F.op.length (dF F) fl)) (hh : Haul F.di.length F.op.length (startM F S 99) (lget needs) (lget rooms) fl) =>
    (show Calls Try.prog 37 #[.agg #[.slice A F.op.length c, .slice B F.di.length d], .slice fA F.di.length cf] wx (fun e w' => e = .returned (.int .i64 (lfV F rooms needs S)) ∧ Kp wx w') from by
      rw [lfV_yes Hok.out hl, ← cost_mat fl]
      exact l7Cost_any _ F rooms needs S fA (matL F.di.length F.op.length fl) F.di.length cf wx (hFA.kp (hkb.trans hx)) hg (matL_len _ _ _) HH.out.1 (haul_flow (S := S) (fun j a _ _ h => by rw [startM_open HP.out.good] at h; exact h) hh)))
  have q0 := hkb.get d0
  have q1 := hkb.get d1
  have hkz : Kp w1 w1 := Kp.refl _
  have q_q0 := hkz.get q0
  have q_q1 := hkz.get q1
  go_wp2_with fail
  clear q_q0 q_q1
  have q_q0 := hkz.get q0
  have q_q1 := hkz.get q1
  have tok1 : True := trivial
  go_wp2_with fail
  go_region_held3 (fun w' => w'.cell? ⟨w.heap.size, 0, none⟩ = some (.slice A F.op.length c) ∧ w'.cell? ⟨w.heap.size, 1, none⟩ = some (.slice B F.di.length d) ∧ Kp w1 w')
    (first | (refine keepc2 q0 q1 ?_; exact (by repeat (first | with_reducible assumption | with_reducible exact Kp.refl _ | with_reducible refine Kp.drew ?_ | with_reducible refine Kp.alloc ?_ _ | with_reducible refine Kp.drewN ?_ _ | refine Kp.setCell ?_ (by dsimp only; omega) _))) | fail)
    (first
      | (have _t := tok1; go_at_call 38; with_reducible refine Calls.mono (C0.out _ (by repeat (first | with_reducible assumption | with_reducible exact Kp.refl _ | with_reducible refine Kp.drew ?_ | with_reducible refine Kp.alloc ?_ _ | with_reducible refine Kp.drewN ?_ _ | refine Kp.setCell ?_ (by dsimp only; omega) _))) ?_; rintro e wr1 ⟨fA, cf, fl, rfl, hg, hl, hh, hka⟩; have hr1 : Kp w1 wr1 := Kp.trans (by repeat (first | with_reducible assumption | with_reducible exact Kp.refl _ | with_reducible refine Kp.drew ?_ | with_reducible refine Kp.alloc ?_ _ | with_reducible refine Kp.drewN ?_ _ | refine Kp.setCell ?_ (by dsimp only; omega) _)) hka; have tok2 : True := trivial; clear tok1 _t)
      | (have _t := tok2; go_at_call 37; with_reducible refine Calls.mono (C1.out _ (by repeat (first | with_reducible assumption | with_reducible exact Kp.refl _ | with_reducible refine Kp.drew ?_ | with_reducible refine Kp.alloc ?_ _ | with_reducible refine Kp.drewN ?_ _ | refine Kp.setCell ?_ (by dsimp only; omega) _)) fA cf fl (hg.kp (by repeat (first | with_reducible assumption | with_reducible exact Kp.refl _ | with_reducible refine Kp.drew ?_ | with_reducible refine Kp.alloc ?_ _ | with_reducible refine Kp.drewN ?_ _ | refine Kp.setCell ?_ (by dsimp only; omega) _))) hl hh) ?_; rintro e wr2 ⟨rfl, hka⟩; have hr2 : Kp w1 wr2 := Kp.trans (by repeat (first | with_reducible assumption | with_reducible exact Kp.refl _ | with_reducible refine Kp.drew ?_ | with_reducible refine Kp.alloc ?_ _ | with_reducible refine Kp.drewN ?_ _ | refine Kp.setCell ?_ (by dsimp only; omega) _)) hka; have tok3 : True := trivial; clear tok2 _t)
      | fail)
  all_goals
    go_wp2_with fail
    go_ret2
    exact ⟨by rw [Hok.out]; rfl, (hkw.trans hkb).trans hr2⟩
def csOk (F : Fld) (rooms needs S : List Int) (r : Int) : Bool := haulB F rooms needs S && decide (0 ≤ r)
noncomputable def csV (F : Fld) (rooms needs S : List Int) (r : Int) : Bool := csOk F rooms needs S r && csB F rooms needs S r
set_option maxHeartbeats 400000 in
theorem canServeClo_any (F : Fld) (S : List Int) (r : Int) (p q t : Nat) (A : Option Addr) (c : Nat) (B : Option Addr) (d : Nat) (w : World) (hg : goodF F = true) (hS : ∀ x ∈ S, 0 ≤ x ∧ x < 7) (x0 : w.cell? ⟨p, 0, none⟩ = some (.int .u64 (bagN S))) (x1 : w.cell? ⟨q, 1, none⟩ = some (.slice B F.di.length d)) (x2 : w.cell? ⟨t, 0, none⟩ = some (.int .i64 r)) (hB : GridAt w B F.di) (i a : Nat) (hi : i < F.di.length) (ha : a < F.op.length) :
    Calls Try.prog 63 #[.int .i64 (i : Int), .int .i64 (a : Int), .pointer (some ⟨p, 0, none⟩), .pointer (some ⟨q, 0, none⟩), .pointer (some ⟨t, 0, none⟩)] w fun e w' => e = .returned (.bool (startM F S r i a)) ∧ Dr w w' := by
  have hb := bagN_lt (n := 7) hS
  have h7 := (goodF_iff.1 hg).1
  have HB := Lib.hid (bag_has (fun y hy => (hS y hy).1) a)
  obtain ⟨bd, ar, cr, rfl, hd1, hd2⟩ := dist_row hg hB hi
  have hd3 := hd2 a ha
  have hiI : (i : Int) < (F.di.length : Int) := by omega
  have haI : (a : Int) < (F.op.length : Int) := by omega
  obtain ⟨dd, Hdd⟩ : ∃ z, Hid (dF F i a = z) := ⟨_, rfl⟩
  rw [Hdd.out] at hd3
  have C1 := Lib.hid (fun (n : Nat) => Calls.same_quiet (has_any (bagN S) a (w.drewN n) (by omega) (by omega)))
  cases hh : flHas S a
  · rw [HB.out, hh] at C1
    have Hst : Hid (startM F S r i a = false) := by show _ = _; unfold startM; rw [hh]; rfl
    clear hd2 hB hh HB hS
    go_enter Try.func63, Try.ntmps63
    go_wp2_with fail
    go_quiet (exact C1.out _)
    go_wp2_with fail
    go_ret
    exact ⟨ret_bool Hst.out.symm, (Dr.refl w).drewN _⟩
  · rw [HB.out, hh] at C1
    have Hst : Hid (startM F S r i a = decide (dd ≤ r)) := by show _ = _; unfold startM; rw [hh, Hdd.out]; rfl
    clear hd2 hB hh HB hS
    go_enter Try.func63, Try.ntmps63
    go_wp2_with fail
    go_quiet (exact C1.out _)
    go_wp2_with fail
    go_ret
    exact ⟨ret_bool Hst.out.symm, (Dr.refl w).drewN _⟩
end Go.Proofs.Ytmbpeicbpfmibaa

namespace Go.Proofs.Ytmbpeicbpfmibaa
open Go.RowKit Go.Sort

open Classical in
theorem cs_yes {F : Fld} {rooms needs S : List Int} {r : Int} (hP : HaulP F rooms needs S) {x : Nat → Nat → Int} (h : Haul F.di.length F.op.length (startM F S r) (lget needs) (lget rooms) x) : csB F rooms needs S r = true := by
  unfold csB; exact @decide_eq_true _ _ (show csR F rooms needs S r from ⟨x, start_haul hP h⟩)
open Classical in
theorem cs_no {F : Fld} {rooms needs S : List Int} {r : Int} (hP : HaulP F rooms needs S) (h : ∀ x, ¬ Haul F.di.length F.op.length (startM F S r) (lget needs) (lget rooms) x) : csB F rooms needs S r = false := by
  unfold csB; exact @decide_eq_false _ _ (show ¬ csR F rooms needs S r from fun ⟨x, hx⟩ => h x (start_haul' hP hx))
set_option maxRecDepth 100000 in
set_option maxHeartbeats 1000000 in
theorem canServe_any (f : Value) (F : Fld) (A1 : Option Addr) (rooms : List Int) (n1 c1 : Nat) (A2 : Option Addr) (needs : List Int) (n2 c2 : Nat) (A3 : Option Addr) (S : List Int) (n3 c3 : Nat) (r : Int) (w : World) (hf : FldAt w f F) (h1 : IntsAt w A1 rooms) (hn1 : rooms.length = n1) (h2 : IntsAt w A2 needs) (hn2 : needs.length = n2) (h3 : IntsAt w A3 S) (hn3 : S.length = n3) (hP : HaulP F rooms needs S) :
    Calls Try.prog 47 #[f, .slice A1 n1 c1, .slice A2 n2 c2, .slice A3 n3 c3, .int .i64 r] w fun e w' => e = .returned (.bool (csB F rooms needs S r)) ∧ Kp w w' := by
  obtain ⟨A, c, B, d, rfl, hA, hB⟩ := id hf
  have HP := Lib.hid hP
  have h7 := (goodF_iff.1 hP.good).1.2
  have hk2 : Kp w ((w.alloc (.cells #[.slice A F.op.length c, .slice B F.di.length d] 29)).alloc (.cells #[.int .i64 r] 3)) := ((Kp.refl w).alloc _).alloc _
  have hk3 : Kp w (((w.alloc (.cells #[.slice A F.op.length c, .slice B F.di.length d] 29)).alloc (.cells #[.int .i64 r] 3)).alloc (.cells #[.int .u64 (bagN S)] 73)) := hk2.alloc _
  have CC := Lib.hid (bagOf_any A3 S n3 c3 _ (h3.kp hk2) hn3 (fun x hx => by have := hP.mem x hx; omega))
  have d0 : (((w.alloc (.cells #[.slice A F.op.length c, .slice B F.di.length d] 29)).alloc (.cells #[.int .i64 r] 3)).alloc (.cells #[.int .u64 (bagN S)] 73)).cell? ⟨w.heap.size, 0, none⟩ = some (.slice A F.op.length c) := by
    rw [World.cell?_alloc_past _ _ _ (by simp only [World.size_alloc]; omega), World.cell?_alloc_past _ _ _ (by simp only [World.size_alloc]; omega), World.cell?_alloc_at _ _ _ _ rfl]; rfl
  have d1 : (((w.alloc (.cells #[.slice A F.op.length c, .slice B F.di.length d] 29)).alloc (.cells #[.int .i64 r] 3)).alloc (.cells #[.int .u64 (bagN S)] 73)).cell? ⟨w.heap.size, 1, none⟩ = some (.slice B F.di.length d) := by
    rw [World.cell?_alloc_past _ _ _ (by simp only [World.size_alloc]; omega), World.cell?_alloc_past _ _ _ (by simp only [World.size_alloc]; omega), World.cell?_alloc_at _ _ _ _ rfl]; rfl
  have d2 : (((w.alloc (.cells #[.slice A F.op.length c, .slice B F.di.length d] 29)).alloc (.cells #[.int .i64 r] 3)).alloc (.cells #[.int .u64 (bagN S)] 73)).cell? ⟨w.heap.size + 1, 0, none⟩ = some (.int .i64 r) := by
    rw [World.cell?_alloc_past _ _ _ (by simp only [World.size_alloc]; omega), World.cell?_alloc_at _ _ _ _ (by simp only [World.size_alloc])]; rfl
  have d3 : (((w.alloc (.cells #[.slice A F.op.length c, .slice B F.di.length d] 29)).alloc (.cells #[.int .i64 r] 3)).alloc (.cells #[.int .u64 (bagN S)] 73)).cell? ⟨w.heap.size + 1 + 1, 0, none⟩ = some (.int .u64 (bagN S)) := by
    rw [World.cell?_alloc_at _ _ _ _ (by simp only [World.size_alloc])]; rfl
  have hcan : Can 63 #[.pointer (some ⟨w.heap.size + 1 + 1, 0, none⟩), .pointer (some ⟨w.heap.size, 0, none⟩), .pointer (some ⟨w.heap.size + 1, 0, none⟩)] F.di.length F.op.length (startM F S r) (((w.alloc (.cells #[.slice A F.op.length c, .slice B F.di.length d] 29)).alloc (.cells #[.int .i64 r] 3)).alloc (.cells #[.int .u64 (bagN S)] 73)) :=
    ⟨callFunc_of Try.func63 (by kernel_rfl) (by kernel_rfl), fun i a w' hk hi ha => canServeClo_any F S r (w.heap.size + 1 + 1) w.heap.size (w.heap.size + 1) A c B d w' hP.good hP.mem (hk.get d3) (hk.get d1) (hk.get d2) (hB.kp (hk3.trans hk)) i a hi ha⟩
  have CF := Lib.hid (flow_any _ F A1 rooms n1 c1 A2 needs n2 c2 _ _ (startM F S r) _ (hf.kp hk3) hP.good (h1.kp hk3) hn1 (h2.kp hk3) hn2 (by rw [← hn1]; exact hP.rl) (by rw [← hn2]; exact hP.nl) hcan (fun x => by have := hP.rb x; omega) (fun x => by have := hP.nb x; omega))
  have HK := Lib.hid hk3
  clear hcan hf hA hB hk2 hk3 h1 h2 h3 hn1 hn2 hn3 hP
  go_enter Try.func47, Try.ntmps47
  go_wp2_with fail
  with_reducible refine Calls.mono CC.out ?_
  rintro e w' ⟨rfl, hw⟩
  obtain rfl := hw
  clear CC
  go_wp2_with fail
  with_reducible refine Calls.mono CF.out ?_
  clear CF
  rintro e w' (⟨g, cap, Bk, Ck, fl, lf, rfl, hm, hN, hR, hk⟩ | ⟨rfl, hk, hno, _⟩)
  · have Hv := Lib.hid (cs_yes HP.out (hN.least hR).1)
    clear hm hN hR d0 d1 d2 d3
    go_wp2_with fail
    go_ret
    exact ⟨ret_bool Hv.out.symm, HK.out.trans hk⟩
  · have Hv := Lib.hid (cs_no HP.out hno)
    clear hno d0 d1 d2 d3
    go_wp2_with fail
    go_ret
    exact ⟨ret_bool Hv.out.symm, HK.out.trans hk⟩
set_option maxRecDepth 100000 in
set_option maxHeartbeats 1000000 in
theorem implCs_any (f : Value) (F : Fld) (A1 : Option Addr) (rooms : List Int) (n1 c1 : Nat) (A2 : Option Addr) (needs : List Int) (n2 c2 : Nat) (A3 : Option Addr) (S : List Int) (n3 c3 : Nat) (r : Int) (w : World) (hf : FldAt w f F) (h1 : IntsAt w A1 rooms) (hn1 : rooms.length = n1) (h2 : IntsAt w A2 needs) (hn2 : needs.length = n2) (h3 : IntsAt w A3 S) (hn3 : S.length = n3) :
    Calls Try.prog 28 #[f, .slice A1 n1 c1, .slice A2 n2 c2, .slice A3 n3 c3, .int .i64 r] w fun e w' => e = .returned (.tuple #[.bool (csV F rooms needs S r), .bool (csOk F rooms needs S r)]) ∧ Kp w w' := by
  obtain ⟨A, c, B, d, rfl, hA, hB⟩ := hf
  have hk0 : Kp w (w.alloc (.cells #[.slice A F.op.length c, .slice B F.di.length d] 29)) := (Kp.refl w).alloc _
  obtain ⟨d0, d1⟩ := box2 w (.slice A F.op.length c) (.slice B F.di.length d) 29
  have hFA := FldAt.kp (show FldAt w (.agg #[.slice A F.op.length c, .slice B F.di.length d]) F from ⟨A, c, B, d, rfl, hA, hB⟩) hk0
  replace h1 := h1.kp hk0
  replace h2 := h2.kp hk0
  replace h3 := h3.kp hk0
  have Hn1 := Lib.hid hn1; have Hn2 := Lib.hid hn2; have Hn3 := Lib.hid hn3
  clear hA hB hn1 hn2 hn3
  go_enter Try.func28, Try.ntmps28
  go_wp2_with fail
  have hsz : Hid ((w.alloc (.cells #[.slice A F.op.length c, .slice B F.di.length d] 29)).heap.size = w.heap.size + 1) := by show _ = _; simp
  generalize w.alloc (.cells #[.slice A F.op.length c, .slice B F.di.length d] 29) = wb at *
  have hkb : Kp wb wb := Kp.refl _
  have hkw := hk0
  have CC := Lib.hid (isHaul_any _ F A1 rooms n1 c1 A2 needs n2 c2 A3 S n3 c3 _ (hFA.kp hkb) (h1.kp hkb) Hn1.out (h2.kp hkb) Hn2.out (h3.kp hkb) Hn3.out)
  with_reducible refine Calls.mono CC.out ?_
  rintro e w1 ⟨rfl, hk1⟩
  clear CC
  replace hkb := hkb.trans hk1
  cases hh_ : haulB F rooms needs S
  · have Hno : Hid (csOk F rooms needs S r = false) := by show _ = _; rw [csOk, hh_]; rfl
    clear hh_
    have q_d0 := hkb.get d0
    have q_d1 := hkb.get d1
    go_wp2_with fail
    go_ret2
    exact ⟨by unfold csV; rw [Hno.out]; rfl, hkw.trans hkb⟩
  have HH := Lib.hid hh_
  have HP := Lib.hid (haul_p hh_)
  clear hh_
  by_cases hr : r < 0
  · have g1 : decide (r < 0) = true := decide_eq_true hr
    have Hno : Hid (csOk F rooms needs S r = false) := by show _ = _; rw [csOk, HH.out, decide_eq_false (by omega)]; rfl
    have q_d0 := hkb.get d0
    have q_d1 := hkb.get d1
    go_wp2_with fail
    go_ret2
    exact ⟨by unfold csV; rw [Hno.out]; rfl, hkw.trans hkb⟩
  · have g1 : decide (r < 0) = false := decide_eq_false hr
    have Hok : Hid (csOk F rooms needs S r = true) := by show _ = _; rw [csOk, HH.out, decide_eq_true (by omega)]; rfl
    have q_d0 := hkb.get d0
    have q_d1 := hkb.get d1
    go_wp2_with fail
    have CC := Lib.hid (canServe_any _ F A1 rooms n1 c1 A2 needs n2 c2 A3 S n3 c3 r _ (hFA.kp hkb) (h1.kp hkb) Hn1.out (h2.kp hkb) Hn2.out (h3.kp hkb) Hn3.out HP.out)
    with_reducible refine Calls.mono CC.out ?_
    rintro e w2 ⟨rfl, hk2⟩
    clear CC q_d0 q_d1
    replace hkb := hkb.trans hk2
    have q_d0 := hkb.get d0
    have q_d1 := hkb.get d1
    go_wp2_with fail
    go_ret2
    exact ⟨by unfold csV; rw [Hok.out, Bool.true_and]; rfl, hkw.trans hkb⟩
set_option maxRecDepth 100000 in
set_option maxHeartbeats 1000000 in
theorem specCs_any (f : Value) (F : Fld) (A1 : Option Addr) (rooms : List Int) (n1 c1 : Nat) (A2 : Option Addr) (needs : List Int) (n2 c2 : Nat) (A3 : Option Addr) (S : List Int) (n3 c3 : Nat) (r : Int) (w : World) (hf : FldAt w f F) (h1 : IntsAt w A1 rooms) (hn1 : rooms.length = n1) (h2 : IntsAt w A2 needs) (hn2 : needs.length = n2) (h3 : IntsAt w A3 S) (hn3 : S.length = n3) :
    Calls Try.prog 27 #[f, .slice A1 n1 c1, .slice A2 n2 c2, .slice A3 n3 c3, .int .i64 r] w fun e w' => e = .returned (.tuple #[.bool (csV F rooms needs S r), .bool (csOk F rooms needs S r)]) ∧ Kp w w' := by
  obtain ⟨A, c, B, d, rfl, hA, hB⟩ := hf
  have hk0 : Kp w (w.alloc (.cells #[.slice A F.op.length c, .slice B F.di.length d] 29)) := (Kp.refl w).alloc _
  obtain ⟨d0, d1⟩ := box2 w (.slice A F.op.length c) (.slice B F.di.length d) 29
  have hFA := FldAt.kp (show FldAt w (.agg #[.slice A F.op.length c, .slice B F.di.length d]) F from ⟨A, c, B, d, rfl, hA, hB⟩) hk0
  replace h1 := h1.kp hk0
  replace h2 := h2.kp hk0
  replace h3 := h3.kp hk0
  have Hn1 := Lib.hid hn1; have Hn2 := Lib.hid hn2; have Hn3 := Lib.hid hn3
  clear hA hB hn1 hn2 hn3
  go_enter Try.func27, Try.ntmps27
  go_wp2_with fail
  have hsz : Hid ((w.alloc (.cells #[.slice A F.op.length c, .slice B F.di.length d] 29)).heap.size = w.heap.size + 1) := by show _ = _; simp
  generalize w.alloc (.cells #[.slice A F.op.length c, .slice B F.di.length d] 29) = wb at *
  have hkb : Kp wb wb := Kp.refl _
  have hkw := hk0
  have CC := Lib.hid (l7Given_any _ F A1 rooms n1 c1 A2 needs n2 c2 A3 S n3 c3 _ (hFA.kp hkb) (h1.kp hkb) Hn1.out (h2.kp hkb) Hn2.out (h3.kp hkb) Hn3.out)
  with_reducible refine Calls.mono CC.out ?_
  rintro e w1 ⟨rfl, hk1⟩
  clear CC
  replace hkb := hkb.trans hk1
  cases hh_ : haulB F rooms needs S
  · have Hno : Hid (csOk F rooms needs S r = false) := by show _ = _; rw [csOk, hh_]; rfl
    clear hh_
    have q_d0 := hkb.get d0
    have q_d1 := hkb.get d1
    go_wp2_with fail
    go_ret2
    exact ⟨by unfold csV; rw [Hno.out]; rfl, hkw.trans hkb⟩
  have HH := Lib.hid hh_
  have HP := Lib.hid (haul_p hh_)
  clear hh_
  by_cases hr : r < 0
  · have g1 : decide (r < 0) = true := decide_eq_true hr
    have Hno : Hid (csOk F rooms needs S r = false) := by show _ = _; rw [csOk, HH.out, decide_eq_false (by omega)]; rfl
    have q_d0 := hkb.get d0
    have q_d1 := hkb.get d1
    go_wp2_with fail
    go_ret2
    exact ⟨by unfold csV; rw [Hno.out]; rfl, hkw.trans hkb⟩
  · have g1 : decide (r < 0) = false := decide_eq_false hr
    have Hok : Hid (csOk F rooms needs S r = true) := by show _ = _; rw [csOk, HH.out, decide_eq_true (by omega)]; rfl
    have q_d0 := hkb.get d0
    have q_d1 := hkb.get d1
    go_wp2_with fail
    have CC := Lib.hid (l7Serves_any _ F A1 rooms n1 c1 A2 needs n2 c2 A3 S n3 c3 r _ (hFA.kp hkb) (h1.kp hkb) Hn1.out (h2.kp hkb) Hn2.out (h3.kp hkb) Hn3.out HP.out)
    with_reducible refine Calls.mono CC.out ?_
    rintro e w2 ⟨rfl, hk2⟩
    clear CC q_d0 q_d1
    replace hkb := hkb.trans hk2
    have q_d0 := hkb.get d0
    have q_d1 := hkb.get d1
    go_wp2_with fail
    go_ret2
    exact ⟨by unfold csV; rw [Hok.out, Bool.true_and]; rfl, hkw.trans hkb⟩
end Go.Proofs.Ytmbpeicbpfmibaa

namespace Go.Proofs.Ytmbpeicbpfmibaa
open Go.RowKit Go.Sort Go.ChangeShapes Go.WideShapes Go.ChangeAt

theorem eqIntSS_same (A B : Option Addr) (xs : List (List Int)) (n c d : Nat) (w : World) (hx : GridAt w A xs) (hy : GridAt w B xs) (hnx : xs.length = n) :
    Calls Try.prog 22 #[.slice A n c, .slice B n d] w fun e w' => e = .returned (.bool true) ∧ Dr w w' :=
  (eqIntSS_dr A B xs xs n n c d w hx hy hnx hnx).mono fun _ _ ⟨he, h⟩ => ⟨by rw [he]; simp, h⟩
theorem left1_pos {n : Nat} {l : Int} (h : (n : Int) ≤ l) : left1 n l = l - n := by unfold left1; rw [if_pos h]
theorem left1_no {n : Nat} {l : Int} (h : ¬ (n : Int) ≤ l) : left1 n l = -1 := by unfold left1; rw [if_neg h]
set_option maxRecDepth 100000 in
/-- An argument that is a slice of slices. -/
theorem open_gridAt {H : Type} {enc : TypeId × Value → H} {W : World} {v : Value} {d : DataW H} {p : List MemPlace} {b0 : Nat}
    (hv : Value.okWide Try.prog W .any b0 23 v) (h : DataW.Trod enc Try.prog W 0 (fun _ => true) true 23 v d p) : ∃ B rows c, v = .slice B rows.length c ∧ GridAt W B rows := by
  obtain ⟨a, len, cap, rfl⟩ := okWide_slice Try.underlying23 hv
  obtain ⟨fuel, hf⟩ := h
  simp only [Value.cells] at hf
  exact gridAt_of_trod Try.underlying23 Try.underlying22 Try.underlying3 cellsInts cellsInt hf
theorem rows_small {rows : List (List Int)} {l : Nat} (h : rowSum rows ≤ l) : ∀ k (hk : k < rows.length), rows[k].length ≤ l := fun k hk => Nat.le_trans (rowSum_mem hk) h
theorem toIntSS_at (B : Option Addr) (rows : List (List Int)) (m c : Nat) (w : World) (hx : GridAt w B rows) (hm : rows.length = m) (hb : ((m + rowSum rows : Nat) : Int) ≤ 1048576) :
    Calls Try.prog 33 #[.slice B m c] w fun e w' => ∃ A c', e = .returned (.slice A m c') ∧ GridAt w' A rows ∧ Kp w w' := by
  have hs := rows_small (rows := rows) (l := 1048576) (by omega)
  refine (toIntSS_any B rows m c w hx hm (by omega) hs).mono ?_
  rintro e w' ⟨v, rfl, ho, hk⟩
  obtain ⟨A, c', e1, hg⟩ := ho.grid hm (fun j hj => rfl) (by omega) (fun j hj => by
    have hj' : j < rows.length := by omega
    have := hs j hj'
    simp [List.getD, hj']; omega)
  exact ⟨A, c', by rw [e1], hg, hk⟩
theorem eqIntSS_any2 (A B : Option Addr) (xs : List (List Int)) (n c d : Nat) (w : World) (hx : GridAt w A xs) (hy : GridAt w B xs) (hn : xs.length = n) :
    Calls Try.prog 22 #[.slice A n c, .slice B n d] w fun e w' => e = .returned (.bool true) ∧ Kp w w' :=
  (eqIntSS_same A B xs n c d w hx hy hn).mono fun _ _ ⟨h1, h2⟩ => ⟨h1, h2.kp⟩
end Go.Proofs.Ytmbpeicbpfmibaa

namespace Go.Proofs.Ytmbpeicbpfmibaa
open Go.RowKit Go.ChangeShapes

theorem trodAll_five {H : Type} {enc : TypeId × Value → H} {P : Program} {w : World} {base : Nat} {spare : Nat → Bool} {held : Bool} {t t' t'' t3 t4 : TypeId} {args : Array Value} {ds : List (DataW H)} {ps : List MemPlace} (h : DataW.TrodAll enc P w base spare held [t, t', t'', t3, t4] args.toList ds ps) :
    ∃ v v' v'' v3 v4 d d' d'' d3 d4 p p' p'' p3 p4, args = #[v, v', v'', v3, v4] ∧ ds = [d, d', d'', d3, d4] ∧ ps = p ++ p' ++ p'' ++ p3 ++ p4 ∧ DataW.Trod enc P w base spare held t v d p ∧ DataW.Trod enc P w base spare held t' v' d' p' ∧ DataW.Trod enc P w base spare held t'' v'' d'' p'' ∧ DataW.Trod enc P w base spare held t3 v3 d3 p3 ∧ DataW.Trod enc P w base spare held t4 v4 d4 p4 := by
  obtain ⟨v, vs, d, ds', p, q, hargs, rfl, rfl, hd, hrest⟩ := trodAll_cons h
  obtain ⟨v', vs', d', ds'', p', q', rfl, rfl, rfl, hd', hrest'⟩ := trodAll_cons hrest
  obtain ⟨v'', vs'', d'', ds''', p'', q'', rfl, rfl, rfl, hd'', hrest''⟩ := trodAll_cons hrest'
  obtain ⟨v3, vs3, d3, ds3, p3, q3, rfl, rfl, rfl, hd3, hrest3⟩ := trodAll_cons hrest''
  obtain ⟨v4, vs4, d4, ds4, p4, q4, rfl, rfl, rfl, hd4, hrest4⟩ := trodAll_cons hrest3
  obtain ⟨rfl, rfl, rfl⟩ := trodAll_nil hrest4
  exact ⟨v, v', v'', v3, v4, d, d', d'', d3, d4, p, p', p'', p3, p4, by cases args; simp_all, rfl, by simp, hd, hd', hd'', hd3, hd4⟩
theorem trodAll_seven {H : Type} {enc : TypeId × Value → H} {P : Program} {w : World} {base : Nat} {spare : Nat → Bool} {held : Bool} {t t' t'' t3 t4 t5 t6 : TypeId} {args : Array Value} {ds : List (DataW H)} {ps : List MemPlace} (h : DataW.TrodAll enc P w base spare held [t, t', t'', t3, t4, t5, t6] args.toList ds ps) :
    ∃ v v' v'' v3 v4 v5 v6 d d' d'' d3 d4 d5 d6 p p' p'' p3 p4 p5 p6, args = #[v, v', v'', v3, v4, v5, v6] ∧ ds = [d, d', d'', d3, d4, d5, d6] ∧ ps = p ++ p' ++ p'' ++ p3 ++ p4 ++ p5 ++ p6 ∧ DataW.Trod enc P w base spare held t v d p ∧ DataW.Trod enc P w base spare held t' v' d' p' ∧ DataW.Trod enc P w base spare held t'' v'' d'' p'' ∧ DataW.Trod enc P w base spare held t3 v3 d3 p3 ∧ DataW.Trod enc P w base spare held t4 v4 d4 p4 ∧ DataW.Trod enc P w base spare held t5 v5 d5 p5 ∧ DataW.Trod enc P w base spare held t6 v6 d6 p6 := by
  obtain ⟨v, vs, d, ds', p, q, hargs, rfl, rfl, hd, hrest⟩ := trodAll_cons h
  obtain ⟨v', vs', d', ds'', p', q', rfl, rfl, rfl, hd', hrest'⟩ := trodAll_cons hrest
  obtain ⟨v'', vs'', d'', ds''', p'', q'', rfl, rfl, rfl, hd'', hrest''⟩ := trodAll_cons hrest'
  obtain ⟨v3, vs3, d3, ds3, p3, q3, rfl, rfl, rfl, hd3, hrest3⟩ := trodAll_cons hrest''
  obtain ⟨v4, vs4, d4, ds4, p4, q4, rfl, rfl, rfl, hd4, hrest4⟩ := trodAll_cons hrest3
  obtain ⟨v5, vs5, d5, ds5, p5, q5, rfl, rfl, rfl, hd5, hrest5⟩ := trodAll_cons hrest4
  obtain ⟨v6, vs6, d6, ds6, p6, q6, rfl, rfl, rfl, hd6, hrest6⟩ := trodAll_cons hrest5
  obtain ⟨rfl, rfl, rfl⟩ := trodAll_nil hrest6
  exact ⟨v, v', v'', v3, v4, v5, v6, d, d', d'', d3, d4, d5, d6, p, p', p'', p3, p4, p5, p6, by cases args; simp_all, rfl, by simp, hd, hd', hd'', hd3, hd4, hd5, hd6⟩
end Go.Proofs.Ytmbpeicbpfmibaa

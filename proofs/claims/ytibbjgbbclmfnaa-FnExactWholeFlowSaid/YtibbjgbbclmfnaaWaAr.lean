/- The reference's flows: LeastFlowCost, CanServe; A region whose last operation waits for all others. No condition. -/
import Derived.Test.YtibbjgbbclmfnaaWaAq
import Derived.Test.YtibbjgbbclmfnaaWaAg
import Derived.Test.YtibbjgbbclmfnaaWaAk
namespace Go.Proofs.Ytibbjgbbclmfnaa
open Go.RowKit Go.Sort

theorem small_sum : ∀ (L : List Int), (∀ x ∈ L, 0 ≤ x ∧ x ≤ 1000) → 0 ≤ L.sum ∧ L.sum ≤ 1000 * (L.length : Int)
  | [], _ => by simp
  | x :: L, h => by
    have h1 := h x (by simp)
    have h2 := small_sum L (fun y hy => h y (by simp [hy]))
    simp only [List.sum_cons, List.length_cons]
    omega
theorem small_take {L : List Int} (h : ∀ x ∈ L, 0 ≤ x ∧ x ≤ 1000) (hl : L.length ≤ 1000) (k : Nat) (_ : k ≤ L.length) : -1000000000 ≤ (L.take k).sum ∧ (L.take k).sum ≤ 1000000000 := by
  have h1 := small_sum (L.take k) (fun x hx => h x (List.mem_of_mem_take hx))
  have h2 : (L.take k).length ≤ 1000 := by rw [List.length_take]; omega
  omega
set_option maxRecDepth 100000 in
set_option maxHeartbeats 1000000 in
theorem l7Can_any (f : Value) (F : Fld) (A1 : Option Addr) (rooms : List Int) (n1 c1 : Nat) (A2 : Option Addr) (needs : List Int) (n2 c2 : Nat) (A3 : Option Addr) (S : List Int) (n3 c3 : Nat) (w : World) (hf : FldAt w f F) (h1 : IntsAt w A1 rooms) (hn1 : rooms.length = n1) (h2 : IntsAt w A2 needs) (hn2 : needs.length = n2) (h3 : IntsAt w A3 S) (hn3 : S.length = n3) :
    Calls Try.prog 22 #[f, .slice A1 n1 c1, .slice A2 n2 c2, .slice A3 n3 c3] w fun e w' => e = .returned (.bool (lfOk F rooms needs S)) ∧ Kp w w' := by
  obtain ⟨A, c, B, d, rfl, hA, hB⟩ := hf
  have hk0 : Kp w (w.alloc (.cells #[.slice A F.op.length c, .slice B F.di.length d] 29)) := (Kp.refl w).alloc _
  obtain ⟨d0, d1⟩ := box2 w (.slice A F.op.length c) (.slice B F.di.length d) 29
  have hFA := FldAt.kp (show FldAt w (.agg #[.slice A F.op.length c, .slice B F.di.length d]) F from ⟨A, c, B, d, rfl, hA, hB⟩) hk0
  replace h1 := h1.kp hk0
  replace h2 := h2.kp hk0
  replace h3 := h3.kp hk0
  have Hn1 := Lib.hid hn1; have Hn2 := Lib.hid hn2; have Hn3 := Lib.hid hn3
  clear hA hB hn1 hn2 hn3
  go_enter Try.func22, Try.ntmps22
  go_wp2_with fail
  have hsz : Hid ((w.alloc (.cells #[.slice A F.op.length c, .slice B F.di.length d] 29)).heap.size = w.heap.size + 1) := by show _ = _; simp
  generalize w.alloc (.cells #[.slice A F.op.length c, .slice B F.di.length d] 29) = wb at *
  have hkb : Kp wb wb := Kp.refl _
  have hkw := hk0
  have CC := Lib.hid (l7Given_any _ F A1 rooms n1 c1 A2 needs n2 c2 A3 S n3 c3 _ (hFA.kp hkb) (h1.kp hkb) Hn1.out (h2.kp hkb) Hn2.out (h3.kp hkb) Hn3.out)
  with_reducible refine Calls.mono CC.out ?_
  rintro e w1 ⟨rfl, hk1⟩
  clear CC
  replace hkb := hkb.trans hk1
  cases hh_ : haulB F rooms needs S
  · have Hno : Hid (lfOk F rooms needs S = false) := by show _ = _; rw [lfOk, hh_]; rfl
    clear hh_
    have q_d0 := hkb.get d0
    have q_d1 := hkb.get d1
    go_wp2_with fail
    go_ret
    exact ⟨ret_bool Hno.out.symm, hkw.trans hkb⟩
  have HH := Lib.hid hh_
  have HP := Lib.hid (haul_p hh_)
  have HQ := Lib.hid (haulB_iff.1 hh_)
  clear hh_
  have h8 := (goodF_iff.1 HP.out.good).2.2.1
  have h7 := (goodF_iff.1 HP.out.good).1
  have hl3 : n3 ≤ 7 := by have := bitsL_len F.op.length (bagN S); rw [set_bits HP.out.set_, Hn3.out] at this; omega
  have hlen2 : needs.length ≤ 1000 := by have := HP.out.nl; omega
  have q_d0 := hkb.get d0
  have q_d1 := hkb.get d1
  go_wp2_with fail
  have CC := Lib.hid (l3Sum_any A2 needs n2 c2 _ (h2.kp hkb) Hn2.out (fun k hk => small_take (fun x hx => by have := HQ.out.2.2.1 x hx; omega) hlen2 k (by rw [Hn2.out]; exact hk)) (fun x hx => by have := HQ.out.2.2.1 x hx; omega))
  with_reducible refine Calls.mono CC.out ?_
  rintro e w2 ⟨rfl, hw⟩
  obtain rfl := hw
  clear CC q_d0 q_d1
  have q_d0 := hkb.get d0
  have q_d1 := hkb.get d1
  go_wp2_with fail
  have CC := Lib.hid (l7Room_any A1 rooms n1 c1 A3 S n3 c3 20 _ (h1.kp hkb) Hn1.out (h3.kp hkb) Hn3.out (fun x hx => by have := set_mem HP.out.set_ x hx; have := HP.out.rl; have := Hn1.out; omega) hl3 (by omega) (by omega) (fun x hx => by have := HQ.out.2.1.1 x hx; omega))
  with_reducible refine Calls.mono CC.out ?_
  rintro e w3 ⟨rfl, hw⟩
  obtain rfl := hw
  clear CC q_d0 q_d1
  have q_d0 := hkb.get d0
  have q_d1 := hkb.get d1
  go_wp2_with fail
  go_ret
  exact ⟨ret_bool (by rw [lfOk, HH.out]; rfl), hkw.trans hkb⟩
def AnyPost (w : World) (J M : Nat) (d : Nat → Nat → Int) (may : Nat → Nat → Bool) (nd rm : Nat → Int) (e : Ending) (w' : World) : Prop :=
  ∃ (L : NetL) (nl lf : Nat → Int) (fl : Nat → Nat → Int), e = .returned (.slice L.fA J L.cf) ∧ NetS w' w.heap.size L J M nl lf fl may ∧ NetN J M d may rm nd nl lf fl ∧ ((∀ j, j < J → nl j = 0) ∨ ((∃ j, j < J ∧ nl j ≠ 0) ∧ ∀ x, ¬ Haul J M may nd rm x)) ∧ Kp w w'
theorem NetN.zero {F : Fld} {rooms needs S : List Int} {may : Nat → Nat → Bool} (hP : HaulP F rooms needs S) : NetN F.di.length F.op.length (dF F) may (startR S rooms) (lget needs) (lget needs) (startR S rooms) (fun _ _ => 0) := by
  have hz : ∀ i, rowS F.op.length (fun _ _ => (0 : Int)) i = 0 := fun i => sumTo_c0 _
  refine ⟨Net.zero (fun j a => (dF_bd hP.good j a).1) (fun x _ => ?_), fun j _ => by rw [hz]; omega, fun j => by have := hP.nb j; omega⟩
  unfold startR; have := hP.rb x; split <;> omega
set_option maxRecDepth 100000 in
set_option maxHeartbeats 1000000 in
theorem l7Any_any (f : Value) (F : Fld) (A1 : Option Addr) (rooms : List Int) (n1 c1 : Nat) (A2 : Option Addr) (needs : List Int) (n2 c2 : Nat) (A3 : Option Addr) (S : List Int) (n3 c3 : Nat) (w : World) (hf : FldAt w f F) (h1 : IntsAt w A1 rooms) (hn1 : rooms.length = n1) (h2 : IntsAt w A2 needs) (hn2 : needs.length = n2) (h3 : IntsAt w A3 S) (hn3 : S.length = n3) (hP : HaulP F rooms needs S) :
    Calls Try.prog 41 #[f, .slice A1 n1 c1, .slice A2 n2 c2, .slice A3 n3 c3] w (AnyPost w F.di.length F.op.length (dF F) (startM F S 99) (lget needs) (startR S rooms)) := by
  obtain ⟨A, c, B, d, rfl, hA, hB⟩ := hf
  have hk0 : Kp w (w.alloc (.cells #[.slice A F.op.length c, .slice B F.di.length d] 29)) := (Kp.refl w).alloc _
  obtain ⟨d0, d1⟩ := box2 w (.slice A F.op.length c) (.slice B F.di.length d) 29
  have hFA := FldAt.kp (show FldAt w (.agg #[.slice A F.op.length c, .slice B F.di.length d]) F from ⟨A, c, B, d, rfl, hA, hB⟩) hk0
  have h8 := (goodF_iff.1 hP.good).2.2.1
  have h7 := (goodF_iff.1 hP.good).1
  have HP := Lib.hid hP
  have C0 := Lib.hid (fun (wx : World) (hx : Kp (w.alloc (.cells #[.slice A F.op.length c, .slice B F.di.length d] 29)) wx) => l7Start_any _ F A1 rooms n1 c1 A2 needs n2 c2 A3 S n3 c3 99 wx (hFA.kp hx) hP.good (h1.kp (hk0.trans hx)) hn1 (h2.kp (hk0.trans hx)) hn2 (h3.kp (hk0.trans hx)) hn3 (by rw [← hn1]; exact hP.rl) (by rw [← hn2]; exact hP.nl) (fun x hx => by have := set_mem hP.set_ x hx; omega))
  have C1 := Lib.hid (fun (wx wy : World) (L : NetL) (h0 : Kp (w.alloc (.cells #[.slice A F.op.length c, .slice B F.di.length d] 29)) wx) (hxy : Kp wx wy) (hn : NetS wy wx.heap.size L F.di.length F.op.length (lget needs) (startR S rooms) (fun _ _ => 0) (startM F S 99)) =>
    (l7Fill_any _ F L (lget needs) (startR S rooms) (startR S rooms) (lget needs) (fun _ _ => 0) (startM F S 99) wx.heap.size wx wy (hFA.kp h0) hxy (Nat.le_refl _) hxy.le hP.good hn (NetN.zero hP) (fun x _ => by unfold startR; have := hP.rb x; split <;> omega)).mono (fun e w' hp => by
      obtain ⟨nl, lf, fl, he, hN2, hNn, hor, ht⟩ := hp
      exact (⟨nl, lf, fl, he, hN2.mono (by have := hk0.le; have := h0.le; omega), hNn, hor, hxy.turn ht (fun i hi => hi.1)⟩ : ∃ (nl lf : Nat → Int) (fl : Nat → Nat → Int), e = .returned (.agg #[.slice L.nA F.di.length L.cn, .slice (some ⟨L.gr, 0, none⟩) F.op.length L.cr, .slice L.fA F.di.length L.cf, .slice L.mA F.di.length L.cm]) ∧ NetS w' w.heap.size L F.di.length F.op.length nl lf fl (startM F S 99) ∧ NetN F.di.length F.op.length (dF F) (startM F S 99) (startR S rooms) (lget needs) nl lf fl ∧ ((∀ j, j < F.di.length → nl j = 0) ∨ ((∃ j, j < F.di.length ∧ nl j ≠ 0) ∧ ∀ x, ¬ Haul F.di.length F.op.length (startM F S 99) (lget needs) (startR S rooms) x)) ∧ Kp wx w')))
  have hfd : ∀ (w : World) (a b c d : Option Addr) (p q u v x y s t : Nat), Sem.run Try.prog (Instr.field 70 (.agg #[.slice a p q, .slice b u v, .slice c x y, .slice d s t]) 2) w = .ok (  .slice c x y) w := fun _ _ _ _ _ _ _ _ _ _ _ _ _ => by kernel_rfl
  clear hA hB hn1 hn2 hn3 h1 h2 h3 hP
  go_enter Try.func41, Try.ntmps41
  go_wp2_with fail
  have hsz : Hid ((w.alloc (.cells #[.slice A F.op.length c, .slice B F.di.length d] 29)).heap.size = w.heap.size + 1) := by show _ = _; simp
  generalize w.alloc (.cells #[.slice A F.op.length c, .slice B F.di.length d] 29) = wb at *
  have hkb : Kp wb wb := Kp.refl _
  have hkw := hk0
  have q_d0 := hkb.get d0
  have q_d1 := hkb.get d1
  have tok1 : True := trivial
  go_wp2_with fail
  go_region_held3 (fun w' => w'.cell? ⟨w.heap.size, 0, none⟩ = some (.slice A F.op.length c) ∧ w'.cell? ⟨w.heap.size, 1, none⟩ = some (.slice B F.di.length d) ∧ Kp wb w')
    (first | (refine keepc2 d0 d1 ?_; exact (by repeat (first | with_reducible assumption | with_reducible exact Kp.refl _ | with_reducible refine Kp.drew ?_ | with_reducible refine Kp.alloc ?_ _ | with_reducible refine Kp.drewN ?_ _ | refine Kp.setCell ?_ (by dsimp only; omega) _))) | fail)
    (first
      | (have _t := tok1; go_at_call 53; with_reducible refine Calls.mono (C0.out _ (by repeat (first | with_reducible assumption | with_reducible exact Kp.refl _ | with_reducible refine Kp.drew ?_ | with_reducible refine Kp.alloc ?_ _ | with_reducible refine Kp.drewN ?_ _ | refine Kp.setCell ?_ (by dsimp only; omega) _))) ?_; rintro e wr1 ⟨L, rfl, hn, hka⟩; have hr1 : Kp wb wr1 := Kp.trans (by repeat (first | with_reducible assumption | with_reducible exact Kp.refl _ | with_reducible refine Kp.drew ?_ | with_reducible refine Kp.alloc ?_ _ | with_reducible refine Kp.drewN ?_ _ | refine Kp.setCell ?_ (by dsimp only; omega) _)) hka; have tok2 : True := trivial; clear tok1 _t)
      | (have _t := tok2; go_at_call 52; with_reducible refine Calls.mono (C1.out _ _ _ (by repeat (first | with_reducible assumption | with_reducible exact Kp.refl _ | with_reducible refine Kp.drew ?_ | with_reducible refine Kp.alloc ?_ _ | with_reducible refine Kp.drewN ?_ _ | refine Kp.setCell ?_ (by dsimp only; omega) _)) (Kp.trans hka (by repeat (first | with_reducible assumption | with_reducible exact Kp.refl _ | with_reducible refine Kp.drew ?_ | with_reducible refine Kp.alloc ?_ _ | with_reducible refine Kp.drewN ?_ _ | refine Kp.setCell ?_ (by dsimp only; omega) _))) (hn.kp (by repeat (first | with_reducible assumption | with_reducible exact Kp.refl _ | with_reducible refine Kp.drew ?_ | with_reducible refine Kp.alloc ?_ _ | with_reducible refine Kp.drewN ?_ _ | refine Kp.setCell ?_ (by dsimp only; omega) _)))) ?_; rintro e wr2 ⟨nl, lf, fl, rfl, hn2, hnn, hor, hka⟩; have hr2 : Kp wb wr2 := Kp.trans (by repeat (first | with_reducible assumption | with_reducible exact Kp.refl _ | with_reducible refine Kp.drew ?_ | with_reducible refine Kp.alloc ?_ _ | with_reducible refine Kp.drewN ?_ _ | refine Kp.setCell ?_ (by dsimp only; omega) _)) hka; have tok3 : True := trivial; clear tok2 _t)
      | fail)
  all_goals
    go_wp2_with fail
    go_ret
    exact ⟨L, nl, lf, fl, rfl, hn2, hnn, hor, hkw.trans hr2⟩
def csR (F : Fld) (rooms needs S : List Int) (r : Int) : Prop := CanH F.di.length F.op.length (startM F S r) (lget needs) (startR S rooms)
open Classical in
noncomputable def csB (F : Fld) (rooms needs S : List Int) (r : Int) : Bool := decide (csR F rooms needs S r)
theorem net_can {J M : Nat} {d : Nat → Nat → Int} {may : Nat → Nat → Bool} {rm nd nl lf : Nat → Int} {fl : Nat → Nat → Int} (hn : NetN J M d may rm nd nl lf fl) (hz : ∀ j, j < J → nl j = 0) : Haul J M may nd rm fl ∧ ∀ x, Haul J M may nd rm x → costT J M d fl ≤ costT J M d x :=
  hn.net.least (fun j hj => by have := hn.row j hj; have := hz j hj; omega)
theorem sum_left {J M : Nat} {d : Nat → Nat → Int} {may : Nat → Nat → Bool} {rm nd nl lf : Nat → Int} {fl : Nat → Nat → Int} (hn : NetN J M d may rm nd nl lf fl) (hor : (∀ j, j < J → nl j = 0) ∨ ((∃ j, j < J ∧ nl j ≠ 0) ∧ ∀ x, ¬ Haul J M may nd rm x)) : (sumTo nl J = 0 ∧ CanH J M may nd rm) ∨ (0 < sumTo nl J ∧ ¬ CanH J M may nd rm) := by
  rcases hor with h | ⟨⟨j, hj, hz⟩, h⟩
  · left
    refine ⟨?_, fl, (net_can hn h).1⟩
    rw [sumTo_congr h, sumTo_c0]
  · right
    refine ⟨?_, fun ⟨x, hx⟩ => h x hx⟩
    have h1 : nl j ≤ sumTo nl J := sumTo_ge (fun i _ => (hn.nb i).1) hj
    have := (hn.nb j).1
    omega
theorem sumTo_mapTo (g : Nat → Int) (n : Nat) : (mapTo g n).sum = sumTo g n := rfl
end Go.Proofs.Ytibbjgbbclmfnaa

namespace Go.Proofs.Ytibbjgbbclmfnaa
open Go.RowKit Go.Sort

section
variable {P : Program} {md : Region.Mode} {init : Array Oper} {o : Oper} {Q : Exit → Act → World → Prop} {S : World → Prop}
/-- The post of the shorter region: the last operation, then the post. -/
def lastQ (P : Program) (o : Oper) (Q : Exit → Act → World → Prop) : Exit → Act → World → Prop
  | .normal => fun a w => o.wp P a w (fun a w => Q .normal a w) Q
  | e => Q e
theorem push_getD (listed : Array Bool) (i : Nat) (d : Bool) : (listed.push false).getD i d = if i = listed.size then false else listed.getD i d := by
  by_cases h : i = listed.size
  · subst h; simp [Array.getD]
  · rw [if_neg h]
    by_cases hl : i < listed.size
    · simp [Array.getD, hl, Nat.lt_succ_of_lt hl, Array.getElem_push]
    · have : ¬ i < listed.size + 1 := by omega
      simp [Array.getD, hl, this]
theorem all_listed (hord : ∀ (i : Nat) (oi : Oper), init[i]? = some oi → ∀ e ∈ oi.after, e.on < i) {listed : Array Bool} (hr : Region.ready md init listed = []) (hs : listed.size = init.size) : ∀ i, i < init.size → listed.getD i false = true := by
  intro i
  induction i using Nat.strongRecOn with
  | _ i ih =>
    intro hi
    cases h : listed.getD i false with
    | true => rfl
    | false =>
      exfalso
      have h2 : listed.getD i true = false := by
        have hl : i < listed.size := by omega
        simp [Array.getD, hl] at h ⊢
        exact h
      have : i ∈ Region.ready md init listed := mem_ready.2 ⟨h2, init[i], by simp [hi], fun e he _ => ih e.on (hord i _ (by simp [hi]) e he) (by have := hord i init[i] (by simp [hi]) e he; omega)⟩
      rw [hr] at this
      cases this
theorem wp_monoQ {oi : Oper} {a : Act} {w : World} {K K' : Act → World → Prop} {Q' : Exit → Act → World → Prop} (h : ∀ a w, K a w → K' a w) (hp : ∀ c a w, Q (.panic c) a w → Q' (.panic c) a w) (hl : LetsOut Q → LetsOut Q') (hh : oi.wp P a w K Q) : oi.wp P a w K' Q' := by
  unfold Oper.wp at *
  generalize (execOp a.eval oi).run P w = r at *
  cases r with
  | ok n w' =>
    cases n <;> simp only [Oper.upon] at hh ⊢ <;>
      first
        | exact h _ _ hh
        | exact Calls.mono hh (fun e w'' he => by cases e <;> first | exact h _ _ he | exact hp _ _ _ he | exact hl he)
        | exact Rows.mono hh (fun _ _ he => h _ _ he)
  | halt x w' => cases x <;> simp only [Oper.upon] at hh ⊢ <;> first | exact hp _ _ _ hh | exact hh
theorem wpAny_last (hord : ∀ (i : Nat) (oi : Oper), init[i]? = some oi → ∀ e ∈ oi.after, e.on < i) (hg : ∀ (i : Nat) (oi : Oper), (init.push o)[i]? = some oi → oi.guard = none) (hon : ∀ e ∈ o.after, e.on < init.size) (hb : ∀ j, j < init.size → ∃ e ∈ o.after, Region.binds md e = true ∧ e.on = j) :
    ∀ (fuel : Nat) (listed : Array Bool) (a : Act) (w : World), listed.size = init.size → wpAnyH P md init (lastQ P o Q) S fuel listed a w → wpAny P md (init.push o) Q (fuel + 1) (listed.push false) a w := by
  have hnone : ∀ {listed : Array Bool} {a : Act} {w : World}, listed.size = init.size → (Region.ready md init listed = [] → o.wp P a w (fun a w => Q .normal a w) Q) → ∀ fuel, Region.ready md init listed = [] →
      wpOp P (init.push o) Q init.size (wpAny P md (init.push o) Q fuel ((listed.push false).setIfInBounds init.size true)) a w := by
    intro listed a w hs h fuel hr
    have hget : (init.push o)[init.size]? = some o := by simp
    have hw : ∀ ys, Region.wanted o ys = true := fun ys => by simp [Region.wanted, hg _ _ hget]
    unfold wpOp
    rw [hget]
    simp only [hw, if_true]
    refine .inl (wp_monoQ (fun a' w' hq => wpAny_done ?_ hq fuel) (fun _ _ _ h => h) (fun h => h) (h hr))
    rw [List.eq_nil_iff_forall_not_mem]
    intro i hi
    obtain ⟨h0, oi, ho, _⟩ := mem_ready.1 hi
    have hi2 : i < init.size + 1 := by have := (Array.getElem?_eq_some_iff.1 ho).1; simpa using this
    by_cases e : i = init.size
    · subst e
      simp [Array.getD, hs] at h0
    · have := all_listed hord hr hs i (by omega)
      rw [getD_set_ne _ (by omega), push_getD, if_neg (by omega)] at h0
      have hl : i < listed.size := by omega
      simp [Array.getD, hl] at h0 this
      rw [h0] at this; cases this
  have hlast : ∀ {listed : Array Bool} {i : Nat}, listed.size = init.size → i ∈ Region.ready md (init.push o) (listed.push false) → (i = init.size ∧ Region.ready md init listed = []) ∨ (i ∈ Region.ready md init listed ∧ i < init.size) := by
    intro listed i hs hi
    obtain ⟨h0, oi, ho, hall⟩ := mem_ready.1 hi
    have hi2 : i < init.size + 1 := by have := (Array.getElem?_eq_some_iff.1 ho).1; simpa using this
    by_cases e : i = init.size
    · left
      refine ⟨e, ?_⟩
      subst e
      obtain rfl : o = oi := by simpa using ho
      rw [List.eq_nil_iff_forall_not_mem]
      intro j hj
      obtain ⟨h1, oj, hoj, _⟩ := mem_ready.1 hj
      have hj2 := (Array.getElem?_eq_some_iff.1 hoj).1
      obtain ⟨e, he, hbe, rfl⟩ := hb j hj2
      have := hall e he hbe
      rw [push_getD, if_neg (by omega)] at this
      have hl : e.on < listed.size := by omega
      simp [Array.getD, hl] at h1 this
      rw [h1] at this; cases this
    · right
      refine ⟨mem_ready.2 ⟨?_, oi, ?_, fun e he hbe => ?_⟩, by omega⟩
      · rw [push_getD, if_neg (by omega)] at h0; exact h0
      · rw [Array.getElem?_push, if_neg (by omega)] at ho; exact ho
      · have := hall e he hbe
        rw [push_getD] at this
        split at this
        · cases this
        · exact this
  have hany : ∀ {listed : Array Bool}, listed.size = init.size → Region.ready md (init.push o) (listed.push false) ≠ [] := by
    intro listed hs hr
    by_cases hi : Region.ready md init listed = []
    · have ha := all_listed hord hi hs
      have : init.size ∈ Region.ready md (init.push o) (listed.push false) := by
        refine mem_ready.2 ⟨by rw [push_getD, if_pos hs.symm], o, by simp, fun e he hbe => ?_⟩
        have := hon e he
        rw [push_getD, if_neg (by omega)]
        exact ha _ this
      rw [hr] at this; cases this
    · obtain ⟨i, hi2⟩ := List.exists_mem_of_ne_nil _ hi
      obtain ⟨h0, oi, ho, hall⟩ := mem_ready.1 hi2
      have hlt := (Array.getElem?_eq_some_iff.1 ho).1
      have : i ∈ Region.ready md (init.push o) (listed.push false) := by
        refine mem_ready.2 ⟨by rw [push_getD, if_neg (by omega)]; exact h0, oi, by rw [Array.getElem?_push, if_neg (by omega)]; exact ho, fun e he hbe => ?_⟩
        have := hord i oi ho e he
        rw [push_getD, if_neg (by omega)]
        exact hall e he hbe
      rw [hr] at this; cases this
  intro fuel
  induction fuel with
  | zero =>
    intro listed a w hs h
    refine ⟨fun hr => absurd hr (hany hs), fun i hi => ?_⟩
    rcases hlast hs hi with ⟨rfl, hr⟩ | ⟨hi', _⟩
    · exact hnone hs (fun _ => h.2) 0 hr
    · rw [h.1] at hi'; cases hi'
  | succ fuel ih =>
    intro listed a w hs h
    refine ⟨fun hr => absurd hr (hany hs), fun i hi => ?_⟩
    rcases hlast hs hi with ⟨rfl, hr⟩ | ⟨hi', hlt⟩
    · exact hnone hs (fun hr => h.1 hr) _ hr
    · have h2 := h.2 i hi'
      obtain ⟨_, oi, ho, _⟩ := mem_ready.1 hi'
      have ho2 : (init.push o)[i]? = some oi := by rw [Array.getElem?_push, if_neg (by omega)]; exact ho
      have hw : ∀ ys, Region.wanted oi ys = true := fun ys => by simp [Region.wanted, hg _ _ ho2]
      unfold wpOp at h2 ⊢
      rw [ho] at h2
      rw [ho2]
      simp only [hw, if_true] at h2 ⊢
      have hpush : (listed.push false).setIfInBounds i true = (listed.setIfInBounds i true).push false := by
        have hil : i < listed.size := by omega
        obtain ⟨l⟩ := listed
        have hil2 : i < l.length := by simpa using hil
        simp [List.set_append_left _ _ hil2]
      rcases h2 with h2 | ⟨h2, h3⟩
      · refine .inl (wp_monoQ (Q := lastQ P o Q) (Q' := Q) (fun a' w' hk => ?_) (fun _ _ _ h => h) (fun h => h) h2)
        rw [hpush]
        exact ih _ a' w' (by simpa using hs) hk.2
      · exact .inr ⟨h2, h3⟩
/-- The region, by the shorter one. -/
theorem wp_region_last {id : Nat} {a : Act} {w : World} (hm : P.follows .mixedOrders = true) (hord : ∀ (i : Nat) (oi : Oper), init[i]? = some oi → ∀ e ∈ oi.after, e.on < i) (hg : ∀ (i : Nat) (oi : Oper), (init.push o)[i]? = some oi → oi.guard = none) (hon : ∀ e ∈ o.after, e.on < init.size) (hb : ∀ j, j < init.size → ∃ e ∈ o.after, Region.binds .any e = true ∧ e.on = j)
    (h : wpAnyH P .any init (lastQ P o Q) S init.size (Array.replicate init.size false) a w.drew) : (Code.region id (init.push o) true).wp P Q a w := by
  refine wp_region_any hm ?_
  have := wpAny_last hord hg hon hb init.size (Array.replicate init.size false) a w.drew (by simp) h
  rw [show (Array.replicate init.size false).push false = Array.replicate (init.push o).size false from by simp [Array.replicate_succ], show init.size + 1 = (init.push o).size from by simp] at this
  exact this
end
end Go.Proofs.Ytibbjgbbclmfnaa

/- The reference's flows: LeastFlowCost, CanServe; The first haul of least cost: its numbers one after the other, row by row; LeastFlow: which numbers of the reference's net may grow, written; LeastFlowCost and CanServe: the reference's, and CanServe: the program's; LeastFlow: small pieces of the program's walk; LeastFlow: what the program holds while it fixes the numbers. No condition. -/
import Derived.Test.YtibbjgbbclmfnaaLsAq
import Derived.Test.YtibbjgbbclmfnaaLsAg
import Derived.Test.YtibbjgbbclmfnaaLsAp
import Derived.Test.YtibbjgbbclmfnaaLsAf
import Derived.Test.YtibbjgbbclmfnaaLsAk
namespace Go.Proofs.Ytibbjgbbclmfnaa
open Go.RowKit Go.Sort

theorem small_sum : ∀ (L : List Int), (∀ x ∈ L, 0 ≤ x ∧ x ≤ 1000) → 0 ≤ L.sum ∧ L.sum ≤ 1000 * (L.length : Int)
  | [], _ => by simp
  | x :: L, h => by
    have h1 := h x (by simp)
    have h2 := small_sum L (fun y hy => h y (by simp [hy]))
    simp only [List.sum_cons, List.length_cons]
    omega
theorem small_take {L : List Int} (h : ∀ x ∈ L, 0 ≤ x ∧ x ≤ 1000) (hl : L.length ≤ 1000) (k : Nat) (_ : k ≤ L.length) : -1000000000 ≤ (L.take k).sum ∧ (L.take k).sum ≤ 1000000000 := by
  have h1 := small_sum (L.take k) (fun x hx => h x (List.mem_of_mem_take hx))
  have h2 : (L.take k).length ≤ 1000 := by rw [List.length_take]; omega
  omega
set_option maxRecDepth 100000 in
set_option maxHeartbeats 1000000 in
theorem l7Can_any (f : Value) (F : Fld) (A1 : Option Addr) (rooms : List Int) (n1 c1 : Nat) (A2 : Option Addr) (needs : List Int) (n2 c2 : Nat) (A3 : Option Addr) (S : List Int) (n3 c3 : Nat) (w : World) (hf : FldAt w f F) (h1 : IntsAt w A1 rooms) (hn1 : rooms.length = n1) (h2 : IntsAt w A2 needs) (hn2 : needs.length = n2) (h3 : IntsAt w A3 S) (hn3 : S.length = n3) :
    Calls Try.prog 22 #[f, .slice A1 n1 c1, .slice A2 n2 c2, .slice A3 n3 c3] w fun e w' => e = .returned (.bool (lfOk F rooms needs S)) ∧ Kp w w' := by
  obtain ⟨A, c, B, d, rfl, hA, hB⟩ := hf
  have hk0 : Kp w (w.alloc (.cells #[.slice A F.op.length c, .slice B F.di.length d] 29)) := (Kp.refl w).alloc _
  obtain ⟨d0, d1⟩ := box2 w (.slice A F.op.length c) (.slice B F.di.length d) 29
  have hFA := FldAt.kp (show FldAt w (.agg #[.slice A F.op.length c, .slice B F.di.length d]) F from ⟨A, c, B, d, rfl, hA, hB⟩) hk0
  replace h1 := h1.kp hk0
  replace h2 := h2.kp hk0
  replace h3 := h3.kp hk0
  have Hn1 := Lib.hid hn1; have Hn2 := Lib.hid hn2; have Hn3 := Lib.hid hn3
  clear hA hB hn1 hn2 hn3
  go_enter Try.func22, Try.ntmps22
  go_wp2_with fail
  have hsz : Hid ((w.alloc (.cells #[.slice A F.op.length c, .slice B F.di.length d] 29)).heap.size = w.heap.size + 1) := by show _ = _; simp
  generalize w.alloc (.cells #[.slice A F.op.length c, .slice B F.di.length d] 29) = wb at *
  have hkb : Kp wb wb := Kp.refl _
  have hkw := hk0
  have CC := Lib.hid (l7Given_any _ F A1 rooms n1 c1 A2 needs n2 c2 A3 S n3 c3 _ (hFA.kp hkb) (h1.kp hkb) Hn1.out (h2.kp hkb) Hn2.out (h3.kp hkb) Hn3.out)
  with_reducible refine Calls.mono CC.out ?_
  rintro e w1 ⟨rfl, hk1⟩
  clear CC
  replace hkb := hkb.trans hk1
  cases hh_ : haulB F rooms needs S
  · have Hno : Hid (lfOk F rooms needs S = false) := by show _ = _; rw [lfOk, hh_]; rfl
    clear hh_
    have q_d0 := hkb.get d0
    have q_d1 := hkb.get d1
    go_wp2_with fail
    go_ret
    exact ⟨ret_bool Hno.out.symm, hkw.trans hkb⟩
  have HH := Lib.hid hh_
  have HP := Lib.hid (haul_p hh_)
  have HQ := Lib.hid (haulB_iff.1 hh_)
  clear hh_
  have h8 := (goodF_iff.1 HP.out.good).2.2.1
  have h7 := (goodF_iff.1 HP.out.good).1
  have hl3 : n3 ≤ 7 := by have := bitsL_len F.op.length (bagN S); rw [set_bits HP.out.set_, Hn3.out] at this; omega
  have hlen2 : needs.length ≤ 1000 := by have := HP.out.nl; omega
  have q_d0 := hkb.get d0
  have q_d1 := hkb.get d1
  go_wp2_with fail
  have CC := Lib.hid (l3Sum_any A2 needs n2 c2 _ (h2.kp hkb) Hn2.out (fun k hk => small_take (fun x hx => by have := HQ.out.2.2.1 x hx; omega) hlen2 k (by rw [Hn2.out]; exact hk)) (fun x hx => by have := HQ.out.2.2.1 x hx; omega))
  with_reducible refine Calls.mono CC.out ?_
  rintro e w2 ⟨rfl, hw⟩
  obtain rfl := hw
  clear CC q_d0 q_d1
  have q_d0 := hkb.get d0
  have q_d1 := hkb.get d1
  go_wp2_with fail
  have CC := Lib.hid (l7Room_any A1 rooms n1 c1 A3 S n3 c3 20 _ (h1.kp hkb) Hn1.out (h3.kp hkb) Hn3.out (fun x hx => by have := set_mem HP.out.set_ x hx; have := HP.out.rl; have := Hn1.out; omega) hl3 (by omega) (by omega) (fun x hx => by have := HQ.out.2.1.1 x hx; omega))
  with_reducible refine Calls.mono CC.out ?_
  rintro e w3 ⟨rfl, hw⟩
  obtain rfl := hw
  clear CC q_d0 q_d1
  have q_d0 := hkb.get d0
  have q_d1 := hkb.get d1
  go_wp2_with fail
  go_ret
  exact ⟨ret_bool (by rw [lfOk, HH.out]; rfl), hkw.trans hkb⟩
def AnyPost (w : World) (J M : Nat) (d : Nat → Nat → Int) (may : Nat → Nat → Bool) (nd rm : Nat → Int) (e : Ending) (w' : World) : Prop :=
  ∃ (L : NetL) (nl lf : Nat → Int) (fl : Nat → Nat → Int), e = .returned (.slice L.fA J L.cf) ∧ NetS w' w.heap.size L J M nl lf fl may ∧ NetN J M d may rm nd nl lf fl ∧ ((∀ j, j < J → nl j = 0) ∨ ((∃ j, j < J ∧ nl j ≠ 0) ∧ ∀ x, ¬ Haul J M may nd rm x)) ∧ Kp w w'
theorem NetN.zero {F : Fld} {rooms needs S : List Int} {may : Nat → Nat → Bool} (hP : HaulP F rooms needs S) : NetN F.di.length F.op.length (dF F) may (startR S rooms) (lget needs) (lget needs) (startR S rooms) (fun _ _ => 0) := by
  have hz : ∀ i, rowS F.op.length (fun _ _ => (0 : Int)) i = 0 := fun i => sumTo_c0 _
  refine ⟨Net.zero (fun j a => (dF_bd hP.good j a).1) (fun x _ => ?_), fun j _ => by rw [hz]; omega, fun j => by have := hP.nb j; omega⟩
  unfold startR; have := hP.rb x; split <;> omega
set_option maxRecDepth 100000 in
set_option maxHeartbeats 1000000 in
theorem l7Any_any (f : Value) (F : Fld) (A1 : Option Addr) (rooms : List Int) (n1 c1 : Nat) (A2 : Option Addr) (needs : List Int) (n2 c2 : Nat) (A3 : Option Addr) (S : List Int) (n3 c3 : Nat) (w : World) (hf : FldAt w f F) (h1 : IntsAt w A1 rooms) (hn1 : rooms.length = n1) (h2 : IntsAt w A2 needs) (hn2 : needs.length = n2) (h3 : IntsAt w A3 S) (hn3 : S.length = n3) (hP : HaulP F rooms needs S) :
    Calls Try.prog 41 #[f, .slice A1 n1 c1, .slice A2 n2 c2, .slice A3 n3 c3] w (AnyPost w F.di.length F.op.length (dF F) (startM F S 99) (lget needs) (startR S rooms)) := by
  obtain ⟨A, c, B, d, rfl, hA, hB⟩ := hf
  have hk0 : Kp w (w.alloc (.cells #[.slice A F.op.length c, .slice B F.di.length d] 29)) := (Kp.refl w).alloc _
  obtain ⟨d0, d1⟩ := box2 w (.slice A F.op.length c) (.slice B F.di.length d) 29
  have hFA := FldAt.kp (show FldAt w (.agg #[.slice A F.op.length c, .slice B F.di.length d]) F from ⟨A, c, B, d, rfl, hA, hB⟩) hk0
  have h8 := (goodF_iff.1 hP.good).2.2.1
  have h7 := (goodF_iff.1 hP.good).1
  have HP := Lib.hid hP
  have C0 := Lib.hid (fun (wx : World) (hx : Kp (w.alloc (.cells #[.slice A F.op.length c, .slice B F.di.length d] 29)) wx) => l7Start_any _ F A1 rooms n1 c1 A2 needs n2 c2 A3 S n3 c3 99 wx (hFA.kp hx) hP.good (h1.kp (hk0.trans hx)) hn1 (h2.kp (hk0.trans hx)) hn2 (h3.kp (hk0.trans hx)) hn3 (by rw [← hn1]; exact hP.rl) (by rw [← hn2]; exact hP.nl) (fun x hx => by have := set_mem hP.set_ x hx; omega))
  have C1 := Lib.hid (fun (wx wy : World) (L : NetL) (h0 : Kp (w.alloc (.cells #[.slice A F.op.length c, .slice B F.di.length d] 29)) wx) (hxy : Kp wx wy) (hn : NetS wy wx.heap.size L F.di.length F.op.length (lget needs) (startR S rooms) (fun _ _ => 0) (startM F S 99)) =>
    (l7Fill_any _ F L (lget needs) (startR S rooms) (startR S rooms) (lget needs) (fun _ _ => 0) (startM F S 99) wx.heap.size wx wy (hFA.kp h0) hxy (Nat.le_refl _) hxy.le hP.good hn (NetN.zero hP) (fun x _ => by unfold startR; have := hP.rb x; split <;> omega)).mono (fun e w' hp => by
      obtain ⟨nl, lf, fl, he, hN2, hNn, hor, ht⟩ := hp
      exact (⟨nl, lf, fl, he, hN2.mono (by have := hk0.le; have := h0.le; omega), hNn, hor, hxy.turn ht (fun i hi => hi.1)⟩ : ∃ (nl lf : Nat → Int) (fl : Nat → Nat → Int), e = .returned (.agg #[.slice L.nA F.di.length L.cn, .slice (some ⟨L.gr, 0, none⟩) F.op.length L.cr, .slice L.fA F.di.length L.cf, .slice L.mA F.di.length L.cm]) ∧ NetS w' w.heap.size L F.di.length F.op.length nl lf fl (startM F S 99) ∧ NetN F.di.length F.op.length (dF F) (startM F S 99) (startR S rooms) (lget needs) nl lf fl ∧ ((∀ j, j < F.di.length → nl j = 0) ∨ ((∃ j, j < F.di.length ∧ nl j ≠ 0) ∧ ∀ x, ¬ Haul F.di.length F.op.length (startM F S 99) (lget needs) (startR S rooms) x)) ∧ Kp wx w')))
  have hfd : ∀ (w : World) (a b c d : Option Addr) (p q u v x y s t : Nat), Sem.run Try.prog (Instr.field 70 (.agg #[.slice a p q, .slice b u v, .slice c x y, .slice d s t]) 2) w = .ok (  .slice c x y) w := fun _ _ _ _ _ _ _ _ _ _ _ _ _ => by kernel_rfl
  clear hA hB hn1 hn2 hn3 h1 h2 h3 hP
  go_enter Try.func41, Try.ntmps41
  go_wp2_with fail
  have hsz : Hid ((w.alloc (.cells #[.slice A F.op.length c, .slice B F.di.length d] 29)).heap.size = w.heap.size + 1) := by show _ = _; simp
  generalize w.alloc (.cells #[.slice A F.op.length c, .slice B F.di.length d] 29) = wb at *
  have hkb : Kp wb wb := Kp.refl _
  have hkw := hk0
  have q_d0 := hkb.get d0
  have q_d1 := hkb.get d1
  have tok1 : True := trivial
  go_wp2_with fail
  go_region_held3 (fun w' => w'.cell? ⟨w.heap.size, 0, none⟩ = some (.slice A F.op.length c) ∧ w'.cell? ⟨w.heap.size, 1, none⟩ = some (.slice B F.di.length d) ∧ Kp wb w')
    (first | (refine keepc2 d0 d1 ?_; exact (by repeat (first | with_reducible assumption | with_reducible exact Kp.refl _ | with_reducible refine Kp.drew ?_ | with_reducible refine Kp.alloc ?_ _ | with_reducible refine Kp.drewN ?_ _ | refine Kp.setCell ?_ (by dsimp only; omega) _))) | fail)
    (first
      | (have _t := tok1; go_at_call 53; with_reducible refine Calls.mono (C0.out _ (by repeat (first | with_reducible assumption | with_reducible exact Kp.refl _ | with_reducible refine Kp.drew ?_ | with_reducible refine Kp.alloc ?_ _ | with_reducible refine Kp.drewN ?_ _ | refine Kp.setCell ?_ (by dsimp only; omega) _))) ?_; rintro e wr1 ⟨L, rfl, hn, hka⟩; have hr1 : Kp wb wr1 := Kp.trans (by repeat (first | with_reducible assumption | with_reducible exact Kp.refl _ | with_reducible refine Kp.drew ?_ | with_reducible refine Kp.alloc ?_ _ | with_reducible refine Kp.drewN ?_ _ | refine Kp.setCell ?_ (by dsimp only; omega) _)) hka; have tok2 : True := trivial; clear tok1 _t)
      | (have _t := tok2; go_at_call 52; with_reducible refine Calls.mono (C1.out _ _ _ (by repeat (first | with_reducible assumption | with_reducible exact Kp.refl _ | with_reducible refine Kp.drew ?_ | with_reducible refine Kp.alloc ?_ _ | with_reducible refine Kp.drewN ?_ _ | refine Kp.setCell ?_ (by dsimp only; omega) _)) (Kp.trans hka (by repeat (first | with_reducible assumption | with_reducible exact Kp.refl _ | with_reducible refine Kp.drew ?_ | with_reducible refine Kp.alloc ?_ _ | with_reducible refine Kp.drewN ?_ _ | refine Kp.setCell ?_ (by dsimp only; omega) _))) (hn.kp (by repeat (first | with_reducible assumption | with_reducible exact Kp.refl _ | with_reducible refine Kp.drew ?_ | with_reducible refine Kp.alloc ?_ _ | with_reducible refine Kp.drewN ?_ _ | refine Kp.setCell ?_ (by dsimp only; omega) _)))) ?_; rintro e wr2 ⟨nl, lf, fl, rfl, hn2, hnn, hor, hka⟩; have hr2 : Kp wb wr2 := Kp.trans (by repeat (first | with_reducible assumption | with_reducible exact Kp.refl _ | with_reducible refine Kp.drew ?_ | with_reducible refine Kp.alloc ?_ _ | with_reducible refine Kp.drewN ?_ _ | refine Kp.setCell ?_ (by dsimp only; omega) _)) hka; have tok3 : True := trivial; clear tok2 _t)
      | fail)
  all_goals
    go_wp2_with fail
    go_ret
    exact ⟨L, nl, lf, fl, rfl, hn2, hnn, hor, hkw.trans hr2⟩
def csR (F : Fld) (rooms needs S : List Int) (r : Int) : Prop := CanH F.di.length F.op.length (startM F S r) (lget needs) (startR S rooms)
open Classical in
noncomputable def csB (F : Fld) (rooms needs S : List Int) (r : Int) : Bool := decide (csR F rooms needs S r)
theorem net_can {J M : Nat} {d : Nat → Nat → Int} {may : Nat → Nat → Bool} {rm nd nl lf : Nat → Int} {fl : Nat → Nat → Int} (hn : NetN J M d may rm nd nl lf fl) (hz : ∀ j, j < J → nl j = 0) : Haul J M may nd rm fl ∧ ∀ x, Haul J M may nd rm x → costT J M d fl ≤ costT J M d x :=
  hn.net.least (fun j hj => by have := hn.row j hj; have := hz j hj; omega)
theorem sum_left {J M : Nat} {d : Nat → Nat → Int} {may : Nat → Nat → Bool} {rm nd nl lf : Nat → Int} {fl : Nat → Nat → Int} (hn : NetN J M d may rm nd nl lf fl) (hor : (∀ j, j < J → nl j = 0) ∨ ((∃ j, j < J ∧ nl j ≠ 0) ∧ ∀ x, ¬ Haul J M may nd rm x)) : (sumTo nl J = 0 ∧ CanH J M may nd rm) ∨ (0 < sumTo nl J ∧ ¬ CanH J M may nd rm) := by
  rcases hor with h | ⟨⟨j, hj, hz⟩, h⟩
  · left
    refine ⟨?_, fl, (net_can hn h).1⟩
    rw [sumTo_congr h, sumTo_c0]
  · right
    refine ⟨?_, fun ⟨x, hx⟩ => h x hx⟩
    have h1 : nl j ≤ sumTo nl J := sumTo_ge (fun i _ => (hn.nb i).1) hj
    have := (hn.nb j).1
    omega
theorem sumTo_mapTo (g : Nat → Int) (n : Nat) : (mapTo g n).sum = sumTo g n := rfl
end Go.Proofs.Ytibbjgbbclmfnaa

namespace Go.Proofs.Ytibbjgbbclmfnaa
open Go.RowKit Go.Sort

theorem pos_lt {M i a j b : Nat} (ha : a < M) (hb : b < M) : i * M + a < j * M + b ↔ i < j ∨ (i = j ∧ a < b) := by
  constructor
  · intro h
    rcases Nat.lt_trichotomy i j with h1 | h1 | h1
    · exact .inl h1
    · subst h1; exact .inr ⟨rfl, by omega⟩
    · have := Nat.mul_le_mul_right M (show j + 1 ≤ i from h1)
      rw [Nat.add_mul, Nat.one_mul] at this
      omega
  · rintro (h1 | ⟨rfl, h1⟩)
    · have := Nat.mul_le_mul_right M (show i + 1 ≤ j from h1)
      rw [Nat.add_mul, Nat.one_mul] at this
      omega
    · omega
theorem pos_eq {M i a j b : Nat} (ha : a < M) (hb : b < M) (h : i * M + a = j * M + b) : i = j ∧ a = b := by
  have h1 := (pos_lt (i := i) (j := j) ha hb)
  have h2 := (pos_lt (i := j) (j := i) hb ha)
  omega
/-- There is a haul of cost c that has these numbers at the first t places. -/
def ExtG (J M : Nat) (d : Nat → Nat → Int) (may : Nat → Nat → Bool) (nd rm : Nat → Int) (c : Int) (t : Nat) (v : Nat → Nat → Int) : Prop :=
  ∃ x, Haul J M may nd rm x ∧ costT J M d x = c ∧ ∀ j a, j < J → a < M → j * M + a < t → x j a = v j a
section
variable {J M : Nat} {d : Nat → Nat → Int} {may : Nat → Nat → Bool} {nd rm : Nat → Int} {c : Int} {t : Nat} {v v' : Nat → Nat → Int}
theorem ExtG.congr (h : ExtG J M d may nd rm c t v) (e : ∀ j a, j < J → a < M → j * M + a < t → v j a = v' j a) : ExtG J M d may nd rm c t v' := by
  obtain ⟨x, h1, h2, h3⟩ := h
  exact ⟨x, h1, h2, fun j a hj ha hp => (h3 j a hj ha hp).trans (e j a hj ha hp)⟩
theorem ExtG.mono {t' : Nat} (h : ExtG J M d may nd rm c t v) (ht : t' ≤ t) : ExtG J M d may nd rm c t' v := by
  obtain ⟨x, h1, h2, h3⟩ := h
  exact ⟨x, h1, h2, fun j a hj ha hp => h3 j a hj ha (by omega)⟩
structure FirstG (J M : Nat) (d : Nat → Nat → Int) (may : Nat → Nat → Bool) (nd rm : Nat → Int) (c : Int) (t : Nat) (v : Nat → Nat → Int) : Prop where
  nn : ∀ j a, 0 ≤ v j a
  zero : ∀ j a, j < J → a < M → t ≤ j * M + a → v j a = 0
  ext : ExtG J M d may nd rm c t v
  least : ∀ j a, j < J → a < M → j * M + a < t → ∀ n : Nat, (n : Int) < v j a → ¬ ExtG J M d may nd rm c (j * M + a + 1) (upd2 v j a n)
theorem FirstG.start (h : IsLst J M d may nd rm c) : FirstG J M d may nd rm c 0 (fun _ _ => 0) := by
  obtain ⟨x, hx, hc⟩ := h.some_
  exact ⟨fun _ _ => Int.le_refl _, fun _ _ _ _ _ => rfl, ⟨x, hx, hc, fun j a _ _ hp => by omega⟩, fun j a _ _ hp => by omega⟩
theorem upd2_same {f : Nat → Nat → Int} {j a i b : Nat} {x : Int} : upd2 f j a x i b = if i = j ∧ b = a then x else f i b := by
  by_cases h : i = j ∧ b = a
  · obtain ⟨rfl, rfl⟩ := h; rw [if_pos ⟨rfl, rfl⟩, upd2_at]
  · rw [if_neg h, upd2_ne (by omega)]
/-- One number more. -/
theorem FirstG.step {j a : Nat} (h : FirstG J M d may nd rm c (j * M + a) v) (hj : j < J) (ha : a < M) (n : Nat) (he : ExtG J M d may nd rm c (j * M + a + 1) (upd2 v j a n)) (hm : ∀ m : Nat, m < n → ¬ ExtG J M d may nd rm c (j * M + a + 1) (upd2 v j a m)) :
    FirstG J M d may nd rm c (j * M + a + 1) (upd2 v j a n) := by
  refine ⟨fun i b => ?_, fun i b hi hb hp => ?_, he, fun i b hi hb hp m hlt hx => ?_⟩
  · rw [upd2_same]; split
    · omega
    · exact h.nn i b
  · rw [upd2_ne (by
      by_cases e : i = j
      · subst e; right; intro e2; subst e2; omega
      · exact .inl e)]
    exact h.zero i b hi hb (by omega)
  · by_cases e : i = j ∧ b = a
    · obtain ⟨rfl, rfl⟩ := e
      rw [upd2_at] at hlt
      refine hm m (by omega) (hx.congr (fun i' b' _ _ _ => ?_))
      rw [upd2_same, upd2_same, upd2_same]
      split <;> rfl
    · rw [upd2_ne (by omega)] at hlt
      have hlt2 : i * M + b < j * M + a := by
        rcases Nat.lt_or_ge (i * M + b) (j * M + a) with h1 | h1
        · exact h1
        · exact absurd (pos_eq hb ha (show i * M + b = j * M + a by omega)) e
      refine h.least i b hi hb hlt2 m hlt (hx.congr (fun i' b' hi' hb' hp' => ?_))
      rw [upd2_same, upd2_same, upd2_same]
      by_cases e1 : i' = i ∧ b' = b
      · rw [if_pos e1, if_pos e1]
      · rw [if_neg e1, if_neg e1, if_neg (by
          rintro ⟨rfl, rfl⟩
          omega)]
/-- There is a next number, and it is no greater than any haul's of least cost that begins so. -/
theorem FirstG.next {j a : Nat} (h : FirstG J M d may nd rm c (j * M + a) v) (hj : j < J) (ha : a < M) (hn : ∀ i, nd i ≤ 1000) : ∃ n : Nat, n ≤ 1000 ∧ ExtG J M d may nd rm c (j * M + a + 1) (upd2 v j a n) := by
  obtain ⟨x, h1, h2, h3⟩ := h.ext
  have h4 := h1.nn j a hj ha
  have h5 : x j a ≤ rowS M x j := sumTo_ge (g := x j) (fun b hb => h1.nn j b hj hb) ha
  rw [h1.row j hj] at h5
  have h6 := hn j
  refine ⟨(x j a).toNat, by omega, x, h1, h2, fun i b hi hb hp => ?_⟩
  rw [upd2_same]
  by_cases e : i = j ∧ b = a
  · obtain ⟨rfl, rfl⟩ := e
    rw [if_pos ⟨rfl, rfl⟩, Int.toNat_of_nonneg h4]
  · rw [if_neg e]
    exact h3 i b hi hb (by
      rcases Nat.lt_or_ge (i * M + b) (j * M + a) with h1 | h1
      · exact h1
      · exact absurd (pos_eq hb ha (show i * M + b = j * M + a by omega)) e)
theorem FirstG.uniq (h : FirstG J M d may nd rm c t v) (h' : FirstG J M d may nd rm c t v') : ∀ p j a, j < J → a < M → j * M + a = p → p < t → v j a = v' j a := by
  intro p
  induction p using Nat.strongRecOn with
  | _ p ih =>
    intro j a hj ha hp hpt
    have low : ∀ {u u' : Nat → Nat → Int}, FirstG J M d may nd rm c t u → FirstG J M d may nd rm c t u' → (∀ i b, i < J → b < M → i * M + b < p → u i b = u' i b) → ¬ u j a < u' j a := fun {u u'} hu hu' he hlt => by
      have h0 := hu.nn j a
      refine hu'.least j a hj ha (by omega) (u j a).toNat (by rw [Int.toNat_of_nonneg h0]; exact hlt) ((hu.ext.mono (t' := j * M + a + 1) (by omega)).congr (fun i b hi hb hib => ?_))
      rw [upd2_same]
      by_cases e : i = j ∧ b = a
      · obtain ⟨rfl, rfl⟩ := e
        rw [if_pos ⟨rfl, rfl⟩, Int.toNat_of_nonneg h0]
      · rw [if_neg e]
        refine he i b hi hb ?_
        rcases Nat.lt_or_ge (i * M + b) p with h1 | h1
        · exact h1
        · exact absurd (pos_eq hb ha (show i * M + b = j * M + a by omega)) e
    have h1 := low h h' (fun i b hi hb hib => ih _ hib i b hi hb rfl (by omega))
    have h2 := low h' h (fun i b hi hb hib => (ih _ hib i b hi hb rfl (by omega)).symm)
    omega
end
/-- What is left to be done behind the first t numbers. -/
def mayT (M : Nat) (may : Nat → Nat → Bool) (t j a : Nat) : Bool := may j a && decide (t ≤ j * M + a)
theorem row_add (M : Nat) (x y : Nat → Nat → Int) (j : Nat) : rowS M (fun j a => x j a + y j a) j = rowS M x j + rowS M y j := sumTo_addf _ _ _
theorem col_add (J : Nat) (x y : Nat → Nat → Int) (a : Nat) : colT J (fun j a => x j a + y j a) a = colT J x a + colT J y a := sumTo_addf _ _ _
theorem cost_add (J M : Nat) (d x y : Nat → Nat → Int) : costT J M d (fun j a => x j a + y j a) = costT J M d x + costT J M d y := by
  unfold costT
  rw [← sumTo_addf]
  exact sumTo_congr (fun j _ => by
    rw [← sumTo_addf]
    exact sumTo_congr (fun a _ => by rw [Int.add_mul]))
theorem cost_congr {J M : Nat} {d x y : Nat → Nat → Int} (h : ∀ j a, j < J → a < M → x j a = y j a) : costT J M d x = costT J M d y := sumTo_congr (fun j hj => sumTo_congr (fun a ha => by rw [h j a hj ha]))
theorem cost_upd2 {J M : Nat} (d f : Nat → Nat → Int) {j a : Nat} (x : Int) (hj : j < J) (ha : a < M) : costT J M d (upd2 f j a x) = costT J M d f + (x - f j a) * d j a := by
  have e1 : ∀ i, i < J → sumTo (fun b => upd2 f j a x i b * d i b) M = upd (fun i => sumTo (fun b => f i b * d i b) M) j (sumTo (fun b => f j b * d j b) M + (x - f j a) * d j a) i := fun i hi => by
    by_cases e : i = j
    · subst e
      rw [upd_at]
      have e2 : sumTo (fun b => upd2 f i a x i b * d i b) M = sumTo (upd (fun b => f i b * d i b) a (x * d i a)) M := sumTo_congr (fun b _ => by
        rw [upd2_same]
        by_cases e : b = a
        · subst e; rw [if_pos ⟨rfl, rfl⟩, upd_at]
        · rw [if_neg (fun h => e h.2), upd_ne e])
      rw [e2, sumTo_upd, if_pos ha, Int.sub_mul]
    · rw [upd_ne e]
      exact sumTo_congr (fun b _ => by rw [upd2_ne (.inl e)])
  unfold costT
  rw [sumTo_congr e1, sumTo_upd, if_pos hj]
  omega
section
variable {J M : Nat} {d : Nat → Nat → Int} {may : Nat → Nat → Bool} {nd rm : Nat → Int} {c : Int} {t : Nat} {v : Nat → Nat → Int}
theorem ext_down (h : ExtG J M d may nd rm c t v) (hz : ∀ j a, j < J → a < M → t ≤ j * M + a → v j a = 0) : ∃ y, Haul J M (mayT M may t) (fun j => nd j - rowS M v j) (fun a => rm a - colT J v a) y ∧ costT J M d v + costT J M d y = c := by
  obtain ⟨x, h1, h2, h3⟩ := h
  have hsum : ∀ j a, j < J → a < M → x j a = v j a + (x j a - v j a) := fun j a _ _ => by omega
  have hy : ∀ j a, j < J → a < M → (x j a - v j a = 0 ∧ j * M + a < t) ∨ (x j a - v j a = x j a ∧ t ≤ j * M + a) := fun j a hj ha => by
    by_cases hp : j * M + a < t
    · exact .inl ⟨by rw [h3 j a hj ha hp]; omega, hp⟩
    · exact .inr ⟨by rw [hz j a hj ha (by omega)]; omega, by omega⟩
  refine ⟨fun j a => x j a - v j a, ⟨fun j a hj ha => ?_, fun j a hj ha hp => ?_, fun j hj => ?_, fun a ha => ?_⟩, ?_⟩
  · have := h1.nn j a hj ha
    rcases hy j a hj ha with h | h <;> omega
  · rcases hy j a hj ha with h | h
    · omega
    · unfold mayT
      rw [h1.may j a hj ha (by omega), decide_eq_true h.2]; rfl
  · have := h1.row j hj
    have e : rowS M (fun j a => x j a - v j a) j = rowS M x j - rowS M v j := sumTo_sub _ _ _
    rw [e]; omega
  · have := h1.col a ha
    have e : colT J (fun j a => x j a - v j a) a = colT J x a - colT J v a := sumTo_sub _ _ _
    rw [e]; omega
  · rw [← cost_add, ← h2]
    exact (cost_congr (fun j a hj ha => by show _ = v j a + (x j a - v j a); omega)).symm
theorem ext_up (hn : ∀ j a, 0 ≤ v j a) (hm : ∀ j a, j < J → a < M → 0 < v j a → may j a = true) (hz : ∀ j a, j < J → a < M → t ≤ j * M + a → v j a = 0) {y : Nat → Nat → Int} (hy : Haul J M (mayT M may t) (fun j => nd j - rowS M v j) (fun a => rm a - colT J v a) y) :
    Haul J M may nd rm (fun j a => v j a + y j a) ∧ costT J M d (fun j a => v j a + y j a) = costT J M d v + costT J M d y ∧ ∀ j a, j < J → a < M → j * M + a < t → v j a + y j a = v j a := by
  refine ⟨⟨fun j a hj ha => by have := hn j a; have := hy.nn j a hj ha; omega, fun j a hj ha hp => ?_, fun j hj => ?_, fun a ha => ?_⟩, cost_add _ _ _ _ _, fun j a hj ha hp => ?_⟩
  · by_cases h : 0 < v j a
    · exact hm j a hj ha h
    · have := hy.may j a hj ha (by have := hn j a; omega)
      unfold mayT at this
      rw [Bool.and_eq_true] at this
      exact this.1
  · rw [row_add, hy.row j hj]; omega
  · rw [col_add]; have := hy.col a ha; omega
  · have h0 := hy.nn j a hj ha
    have : ¬ 0 < y j a := fun h => by
      have := hy.may j a hj ha h
      unfold mayT at this
      rw [Bool.and_eq_true, decide_eq_true_eq] at this
      omega
    omega
/-- The test that both texts make. -/
theorem ext_test (hl : IsLst J M d may nd rm c) (hn : ∀ j a, 0 ≤ v j a) (hm : ∀ j a, j < J → a < M → 0 < v j a → may j a = true) (hz : ∀ j a, j < J → a < M → t ≤ j * M + a → v j a = 0) {m : Int}
    (hy : IsLst J M d (mayT M may t) (fun j => nd j - rowS M v j) (fun a => rm a - colT J v a) m) : costT J M d v + m = c ↔ ExtG J M d may nd rm c t v := by
  obtain ⟨y, h1, h2⟩ := hy.some_
  obtain ⟨g1, g2, g3⟩ := ext_up (d := d) hn hm hz h1
  constructor
  · intro e
    exact ⟨_, g1, by rw [g2, h2]; exact e, g3⟩
  · intro he
    obtain ⟨y', h3, h4⟩ := ext_down he hz
    have h5 := hy.all_ y' h3
    have h6 := hl.all_ _ g1
    rw [g2, h2] at h6
    omega
theorem ext_no (hz : ∀ j a, j < J → a < M → t ≤ j * M + a → v j a = 0) (hy : ∀ y, ¬ Haul J M (mayT M may t) (fun j => nd j - rowS M v j) (fun a => rm a - colT J v a) y) : ¬ ExtG J M d may nd rm c t v := fun h => by
  obtain ⟨y, h1, _⟩ := ext_down h hz
  exact hy y h1
/-- Where a place may have no numbers, the first number fits. -/
theorem ext_closed {j a : Nat} (h : ExtG J M d may nd rm c (j * M + a) v) (hj : j < J) (ha : a < M) (hc : may j a = false) : ExtG J M d may nd rm c (j * M + a + 1) (upd2 v j a 0) := by
  obtain ⟨x, h1, h2, h3⟩ := h
  refine ⟨x, h1, h2, fun i b hi hb hp => ?_⟩
  rw [upd2_same]
  by_cases e : i = j ∧ b = a
  · obtain ⟨rfl, rfl⟩ := e
    rw [if_pos ⟨rfl, rfl⟩]
    have := h1.nn i b hj ha
    have : ¬ 0 < x i b := fun hpos => by rw [h1.may i b hj ha hpos] at hc; cases hc
    omega
  · rw [if_neg e]
    exact h3 i b hi hb (by
      rcases Nat.lt_or_ge (i * M + b) (j * M + a) with h1 | h1
      · exact h1
      · exact absurd (pos_eq hb ha (show i * M + b = j * M + a by omega)) e)
/-- The numbers stay where they may be. -/
theorem FirstG.mayG (h : FirstG J M d may nd rm c t v) : ∀ j a, j < J → a < M → 0 < v j a → may j a = true := fun j a hj ha hp => by
  obtain ⟨x, h1, _, h3⟩ := h.ext
  by_cases hpt : j * M + a < t
  · exact h1.may j a hj ha (by rw [h3 j a hj ha hpt]; exact hp)
  · rw [h.zero j a hj ha (by omega)] at hp; omega
/-- What is left is never less than nothing. -/
theorem FirstG.rest (h : FirstG J M d may nd rm c t v) : (∀ j, j < J → 0 ≤ nd j - rowS M v j) ∧ (∀ a, a < M → 0 ≤ rm a - colT J v a) := by
  obtain ⟨y, h1, _⟩ := ext_down h.ext h.zero
  refine ⟨fun j hj => ?_, fun a ha => ?_⟩
  · rw [← h1.row j hj]; exact sumTo_nn (fun a ha => h1.nn j a hj ha)
  · have := h1.col a ha
    have h2 : 0 ≤ colT J y a := sumTo_nn (fun j hj => h1.nn j a hj ha)
    omega
end
open Classical in
/-- The first haul of least cost. -/
noncomputable def fstG (J M : Nat) (d : Nat → Nat → Int) (may : Nat → Nat → Bool) (nd rm : Nat → Int) (j a : Nat) : Int := if h : ∃ v, FirstG J M d may nd rm (lstC J M d may nd rm) (J * M) v then Classical.choose h j a else 0
theorem fst_eq {J M : Nat} {d : Nat → Nat → Int} {may : Nat → Nat → Bool} {nd rm : Nat → Int} {c : Int} (hl : IsLst J M d may nd rm c) {v : Nat → Nat → Int} (h : FirstG J M d may nd rm c (J * M) v) {j a : Nat} (hj : j < J) (ha : a < M) : v j a = fstG J M d may nd rm j a := by
  have hc := lst_eq hl
  rw [← hc] at h
  have hex : ∃ v, FirstG J M d may nd rm (lstC J M d may nd rm) (J * M) v := ⟨v, h⟩
  unfold fstG
  rw [dif_pos hex]
  have hlt : j * M + a < J * M := by
    have := (pos_lt (M := M) (i := j) (a := a) (j := J) (b := 0) ha (by omega)).2 (.inl hj)
    omega
  exact FirstG.uniq h (Classical.choose_spec hex) _ j a hj ha rfl hlt
end Go.Proofs.Ytibbjgbbclmfnaa

namespace Go.Proofs.Ytibbjgbbclmfnaa
open Go.RowKit Go.Sort

def upd2b (f : Nat → Nat → Bool) (j a : Nat) (x : Bool) (i b : Nat) : Bool := if i = j ∧ b = a then x else f i b
theorem boolRow_set {M : Nat} {p : Nat → Bool} {a : Nat} {x : Bool} : (boolRow M p).set a (.bool x) = boolRow M (fun b => if b = a then x else p b) := by
  apply List.ext_getElem
  · simp [boolRow]
  · intro i h1 h2
    simp only [boolRow, List.getElem_set, List.getElem_map, List.getElem_range]
    by_cases e : a = i
    · subst e; simp
    · rw [if_neg e, if_neg (Ne.symm e)]
theorem NetS.setMay {w : World} {base : Nat} {L : NetL} {J M : Nat} {nl lf : Nat → Int} {fl : Nat → Nat → Int} {may : Nat → Nat → Bool} (h : NetS w base L J M nl lf fl may) (hA : ∀ i j, i < J → j < J → i ≠ j → L.Bm i ≠ L.Bm j) {j a : Nat} (hj : j < J) (ha : a < M) :
    w.cell? ⟨L.gm, j, none⟩ = some (.slice (some ⟨L.Bm j, 0, none⟩) M (L.Cm j)) ∧ w.cell? ⟨L.Bm j, a, none⟩ = some (.bool (may j a)) ∧ w.frozen? ⟨L.Bm j, a, none⟩ = false ∧ base ≤ L.Bm j ∧
    ∀ z : Bool, NetS (w.setCell ⟨L.Bm j, a, none⟩ (.bool z)) base L J M nl lf fl (upd2b may j a z) ∧ Turn (fun i => i = L.Bm j) w (w.setCell ⟨L.Bm j, a, none⟩ (.bool z)) := by
  have hJ : 0 < J := by omega
  have ho := h.mr j hj
  obtain ⟨c0, c1⟩ := h.hcell hj
  have hlt := World.ownsRow.lt ho (L.Bm j) rfl
  have hfz : w.frozen? ⟨L.Bm j, a, none⟩ = false := by
    rcases ho.2 with ⟨e, _⟩ | ⟨g, cap, cur, e, _, hg, _⟩
    · cases e
    · cases e
      simp [World.frozen?, hg]
  have hne : ∀ {e : TypeId} {v : Value} {n : Nat} {hs : List Value} {b : Nat}, w.ownsRow base e 1 v n hs → 4 ≠ e → v.ownBlock = some b → b ≠ L.Bm j := fun h2 h3 h4 e => own_blocks_ne ho h2 h3 (g := L.Bm j) rfl (by rw [h4, e])
  refine ⟨c0, c1 a ha, hfz, hlt.1, fun z => ?_⟩
  have t1 : Turn (fun i => i = L.Bm j) w (w.setCell ⟨L.Bm j, a, none⟩ (.bool z)) := turn_cell w ⟨L.Bm j, a, none⟩ (.bool z)
  have o1 := (World.ownsRow.stored ho a (.bool z)).1
  rw [boolRow_set] at o1
  refine ⟨⟨fun _ => (h.nd hJ).turn t1 (fun b hb => hne (h.nd hJ) (by decide) hb), h.na, h.rm.turn t1 (fun b hb => hne h.rm (by decide) hb), h.fa, fun _ => (h.fl hJ).turn t1 (hne (h.fl hJ).hd (by decide) rfl) (fun i hi => hne ((h.fl hJ).row i hi) (by decide) rfl), h.ma,
    fun _ => own_turn (h.mh hJ) t1 (fun b hb => hne (h.mh hJ) (by decide) hb), fun i hi => ?_, h.a1, h.a2⟩, t1⟩
  by_cases e : i = j
  · subst e
    have e2 : boolRow M (upd2b may i a z i) = boolRow M (fun b => if b = a then z else may i b) := by
      unfold boolRow
      exact List.map_congr_left (fun b _ => by unfold upd2b; simp)
    rw [e2]; exact o1
  · have e2 : boolRow M (upd2b may j a z i) = boolRow M (may i) := by
      unfold boolRow
      exact List.map_congr_left (fun b _ => by unfold upd2b; rw [if_neg (fun h => e h.1)])
    rw [e2]
    exact own_turn (h.mr i hi) t1 (fun b hb e3 => hA i j hi hj e (by have : L.Bm i = b := (by simpa [Value.ownBlock] using hb); omega))
end Go.Proofs.Ytibbjgbbclmfnaa

namespace Go.Proofs.Ytibbjgbbclmfnaa
open Go.RowKit Go.Sort

/-- Where a set's sites alone are open for all, there is a haul if there is room enough. -/
theorem haul_ex {J M : Nat} {sA : Nat → Bool} {rm : Nat → Int} (hr : ∀ a, a < M → 0 ≤ rm a) : ∀ (n : Nat) (nd : Nat → Int), (∀ j, j < J → 0 ≤ nd j) → sumTo nd J = n → sumTo nd J ≤ sumTo (fun a => if sA a = true then rm a else 0) M → ∃ x, Haul J M (fun _ a => sA a) nd rm x
  | 0, nd, h0, hn, _ => by
    have hz : ∀ j, j < J → nd j = 0 := fun j hj => by have := h0 j hj; have h1 : nd j ≤ sumTo nd J := sumTo_ge h0 hj; omega
    exact ⟨fun _ _ => 0, ⟨fun _ _ _ _ => Int.le_refl _, fun _ _ _ _ h => by omega, fun j hj => by rw [hz j hj]; exact sumTo_c0 _, fun a ha => by
      have : colT J (fun _ _ => (0 : Int)) a = 0 := sumTo_c0 _
      rw [this]; exact hr a ha⟩⟩
  | n + 1, nd, h0, hn, hs => by
    obtain ⟨j0, hj0, hp⟩ := sumTo_pos' h0 (by omega)
    have h1 : sumTo (upd nd j0 (nd j0 - 1)) J = n := by rw [sumTo_upd, if_pos hj0]; omega
    obtain ⟨x, hx⟩ := haul_ex (sA := sA) hr n (upd nd j0 (nd j0 - 1)) (fun j hj => by
      by_cases e : j = j0
      · subst e; rw [upd_at]; omega
      · rw [upd_ne e]; exact h0 j hj) h1 (by omega)
    have ht : sumTo (colT J x) M = n := by rw [tot, sumTo_congr hx.row, h1]
    have hA : ∃ a, a < M ∧ sA a = true ∧ colT J x a < rm a := Classical.byContradiction (fun hno => by
      have hle : sumTo (fun a => if sA a = true then rm a else 0) M ≤ sumTo (colT J x) M := sumTo_mono' (fun a ha => by
        by_cases hs : sA a = true
        · rw [if_pos hs]; exact Int.not_lt.1 (fun hlt => hno ⟨a, ha, hs, hlt⟩)
        · rw [if_neg hs]; exact sumTo_nn (fun j hj => hx.nn j a hj ha))
      omega)
    obtain ⟨a, ha, hsa, hlt⟩ := hA
    refine ⟨upd2 x j0 a (x j0 a + 1), ⟨fun j b hj hb => ?_, fun j b hj hb hpos => ?_, fun j hj => ?_, fun b hb => ?_⟩⟩
    · by_cases e : j = j0 ∧ b = a
      · obtain ⟨rfl, rfl⟩ := e; rw [upd2_at]; have := hx.nn j b hj hb; omega
      · rw [upd2_ne (by omega)]; exact hx.nn j b hj hb
    · by_cases e : j = j0 ∧ b = a
      · obtain ⟨rfl, rfl⟩ := e; exact hsa
      · rw [upd2_ne (by omega)] at hpos; exact hx.may j b hj hb hpos
    · rw [row_upd2 _ _ ha, hx.row j hj]
      by_cases e : j = j0
      · subst e; rw [if_pos rfl, upd_at]; omega
      · rw [if_neg e, upd_ne e]; omega
    · rw [col_upd2 _ _ hj0]
      have := hx.col b hb
      by_cases e : b = a
      · subst e; rw [if_pos rfl]; omega
      · rw [if_neg e]; omega
theorem startM_open {F : Fld} {S : List Int} (hg : goodF F = true) (j a : Nat) : startM F S 99 j a = openM S j a := by
  unfold startM openM
  have := (dF_bd hg j a).2
  rw [decide_eq_true this, Bool.and_true]
theorem startR_or (F : Fld) (S rooms : List Int) (r : Int) (J a : Nat) : (∀ j, j < J → startM F S r j a = false) ∨ startR S rooms a = lget rooms a := by
  cases h : flHas S a
  · exact .inl fun j _ => by unfold startM; rw [h]; rfl
  · exact .inr (by unfold startR; rw [if_pos h])
theorem startR_nn {rooms : List Int} (S : List Int) (h : ∀ x, 0 ≤ lget rooms x ∧ lget rooms x ≤ 20) (a : Nat) : 0 ≤ startR S rooms a := by unfold startR; have := h a; split <;> omega
/-- The reference's rooms and the given ones make no difference. -/
theorem start_lst {F : Fld} {rooms needs S : List Int} (hP : HaulP F rooms needs S) {c : Int} (h : IsLst F.di.length F.op.length (dF F) (startM F S 99) (lget needs) (startR S rooms) c) : IsLst F.di.length F.op.length (dF F) (openM S) (lget needs) (lget rooms) c :=
  lst_congr (fun _ _ _ _ => rfl) (fun j a _ _ => startM_open hP.good j a) (fun _ _ => rfl) (fun a _ => startR_or F S rooms 99 F.di.length a) (fun a _ => startR_nn S hP.rb a) (fun a _ => (hP.rb a).1) h
theorem start_haul {F : Fld} {rooms needs S : List Int} (hP : HaulP F rooms needs S) {r : Int} {x : Nat → Nat → Int} (h : Haul F.di.length F.op.length (startM F S r) (lget needs) (lget rooms) x) : Haul F.di.length F.op.length (startM F S r) (lget needs) (startR S rooms) x :=
  haul_congr (fun _ _ _ _ => rfl) (fun _ _ => rfl) (fun a _ => (startR_or F S rooms r F.di.length a).imp id Eq.symm) (fun a _ => startR_nn S hP.rb a) h
theorem start_haul' {F : Fld} {rooms needs S : List Int} (hP : HaulP F rooms needs S) {r : Int} {x : Nat → Nat → Int} (h : Haul F.di.length F.op.length (startM F S r) (lget needs) (startR S rooms) x) : Haul F.di.length F.op.length (startM F S r) (lget needs) (lget rooms) x :=
  haul_congr (fun _ _ _ _ => rfl) (fun _ _ => rfl) (fun a _ => startR_or F S rooms r F.di.length a) (fun a _ => (hP.rb a).1) h
/-- With room enough the reference's net is full. -/
theorem any_full {F : Fld} {rooms needs S : List Int} (hP : HaulP F rooms needs S) (hs : needs.sum ≤ roomS rooms S) : CanH F.di.length F.op.length (startM F S 99) (lget needs) (startR S rooms) := by
  obtain ⟨x, hx⟩ := haul_ex (J := F.di.length) (M := F.op.length) (sA := fun a => flHas S a) (rm := lget rooms) (fun a _ => (hP.rb a).1) (sumTo (lget needs) F.di.length).toNat (lget needs) (fun j _ => (hP.nb j).1) (by have : 0 ≤ sumTo (lget needs) F.di.length := sumTo_nn (fun j _ => (hP.nb j).1); omega) (by rw [hP.ns, hP.rs]; exact hs)
  exact ⟨x, start_haul hP (haul_congr (fun j a _ _ => by rw [startM_open hP.good]; rfl) (fun _ _ => rfl) (fun _ _ => .inr rfl) (fun a _ => (hP.rb a).1) hx)⟩
theorem net_grid {w : World} {base : Nat} {L : NetL} {J M : Nat} {nl lf : Nat → Int} {fl : Nat → Nat → Int} {may : Nat → Nat → Bool} (h : NetS w base L J M nl lf fl may) (hJ : J ≤ 1000) (hM : M ≤ 1000) : GridAt w L.fA (matL J M fl) := by
  by_cases h0 : 0 < J
  · rw [h.fa h0]; exact (h.fl h0).grid (by omega) (by omega)
  · obtain rfl : J = 0 := by omega
    exact ⟨by simp [matL], fun k hk => by simp [matL] at hk⟩
def csOk (F : Fld) (rooms needs S : List Int) (r : Int) : Bool := haulB F rooms needs S && decide (0 ≤ r)
noncomputable def csV (F : Fld) (rooms needs S : List Int) (r : Int) : Bool := csOk F rooms needs S r && csB F rooms needs S r
end Go.Proofs.Ytibbjgbbclmfnaa

namespace Go.Proofs.Ytibbjgbbclmfnaa
open Go.RowKit Go.Sort

theorem clone_none (c : Nat) (w : World) :
    Calls Try.prog 26 #[.slice none 0 c] w fun e w' => ∃ v, e = .returned v ∧ Own w' w.heap.size v [] ∧ Kp w w' := by
  have hq := fun (w : World) (a : Option Addr) (n c : Nat) => Lib.run_eql_slice_nil (P := Try.prog) w 22 3 a n c 0 0 Try.underlying22
  go_enter Try.func26, Try.ntmps26
  go_wp2_with fail
  go_ret
  exact ⟨_, rfl, Own.nil _ _, Kp.refl _⟩
theorem clone_all (A : Option Addr) (xs : List Int) (n c : Nat) (w : World) (hx : IntsAt w A xs) (hn : xs.length = n) (hb : n ≤ 1048576) :
    Calls Try.prog 26 #[.slice A n c] w fun e w' => ∃ v, e = .returned v ∧ Own w' w.heap.size v xs ∧ Kp w w' := by
  cases A with
  | some ad => exact clone_some ad xs n c w hx hn hb
  | none =>
    have h0 : xs.length = 0 := by
      rcases Nat.eq_zero_or_pos xs.length with h | h
      · exact h
      · obtain ⟨ad, e, _⟩ := hx.at_ (k := 0) h
        cases e
    obtain rfl : xs = [] := List.eq_nil_of_length_eq_zero h0
    obtain rfl : n = 0 := by rw [← hn]; rfl
    exact clone_none c w
theorem mayT_no {M t j a : Nat} {may : Nat → Nat → Bool} (h : may j a = false) : mayT M may t j a = false := by unfold mayT; rw [h]; rfl
theorem mayT_yes {M t j a : Nat} {may : Nat → Nat → Bool} (h : may j a = true) : mayT M may t j a = decide (t ≤ j * M + a) := by unfold mayT; rw [h]; rfl
set_option maxHeartbeats 400000 in
theorem lsfClo_any (FN : FuncId) (caps : Array Value) (J M : Nat) (may : Nat → Nat → Bool) (p q t : Nat) (w : World) (hcan : Can FN caps J M may w) (i0 a0 : Nat) (ha0 : a0 < M) (x0 : w.cell? ⟨p, 0, none⟩ = some (.func (.func FN) #[] caps)) (x1 : w.cell? ⟨q, 0, none⟩ = some (.int .i64 (i0 : Int))) (x2 : w.cell? ⟨t, 0, none⟩ = some (.int .i64 (a0 : Int))) (j b : Nat) (hj : j < J) (hb : b < M) :
    Calls Try.prog 31 #[.int .i64 (j : Int), .int .i64 (b : Int), .pointer (some ⟨p, 0, none⟩), .pointer (some ⟨q, 0, none⟩), .pointer (some ⟨t, 0, none⟩)] w fun e w' => e = .returned (.bool (mayT M may (i0 * M + a0 + 1) j b)) ∧ Dr w w' := by
  have hrun := hcan.run
  have CC := Lib.hid (fun (w' : World) (hk : Kp w w') => hcan.at_ j b w' hk hj hb)
  have Hp := Lib.hid (pos_lt (M := M) (i := i0) (j := j) ha0 hb)
  have hk0 := Kp.refl w
  clear hcan
  cases hm : may j b
  · have Hv := Lib.hid (mayT_no (M := M) (t := i0 * M + a0 + 1) hm)
    rw [hm] at CC
    go_enter Try.func31, Try.ntmps31
    go_wp2_with fail
    with_reducible refine Calls.mono (CC.out _ hk0) ?_
    rintro e w' ⟨rfl, hd⟩
    go_wp2_with fail
    go_ret
    exact ⟨ret_bool Hv.out.symm, hd⟩
  · have Hv : Hid (mayT M may (i0 * M + a0 + 1) j b = decide (i0 < j ∨ (i0 = j ∧ a0 < b))) := by
      show _ = _
      rw [mayT_yes hm]
      exact decide_eq_decide.2 Hp.out
    rw [hm] at CC
    by_cases h1 : i0 < j
    · have g1 : (i0 : Int) < (j : Int) := by omega
      have Hv2 : Hid (mayT M may (i0 * M + a0 + 1) j b = true) := by show _ = _; rw [Hv.out]; exact decide_eq_true (.inl h1)
      clear Hv Hp
      go_enter Try.func31, Try.ntmps31
      go_wp2_with fail
      with_reducible refine Calls.mono (CC.out _ hk0) ?_
      rintro e w' ⟨rfl, hd⟩
      have y1 := hd.kp.get x1; have y2 := hd.kp.get x2
      go_wp2_with fail
      go_ret
      exact ⟨ret_bool Hv2.out.symm, hd⟩
    · have g1 : ¬ (i0 : Int) < (j : Int) := by omega
      by_cases h2 : i0 = j
      · have g2 : ((j : Int) == (i0 : Int)) = true := by rw [beq_iff_eq]; omega
        have Hv2 : Hid (mayT M may (i0 * M + a0 + 1) j b = decide (a0 < b)) := by show _ = _; rw [Hv.out]; exact decide_eq_decide.2 (by omega)
        clear Hv Hp h1
        go_enter Try.func31, Try.ntmps31
        go_wp2_with fail
        with_reducible refine Calls.mono (CC.out _ hk0) ?_
        rintro e w' ⟨rfl, hd⟩
        have y1 := hd.kp.get x1; have y2 := hd.kp.get x2
        go_wp2_with fail
        go_ret
        exact ⟨ret_bool Hv2.out.symm, hd⟩
      · have g2 : ((j : Int) == (i0 : Int)) = false := by rw [beq_eq_false_iff_ne]; omega
        have Hv2 : Hid (mayT M may (i0 * M + a0 + 1) j b = false) := by show _ = _; rw [Hv.out]; exact decide_eq_false (by omega)
        clear Hv Hp
        go_enter Try.func31, Try.ntmps31
        go_wp2_with fail
        with_reducible refine Calls.mono (CC.out _ hk0) ?_
        rintro e w' ⟨rfl, hd⟩
        have y1 := hd.kp.get x1; have y2 := hd.kp.get x2
        go_wp2_with fail
        go_ret
        exact ⟨ret_bool Hv2.out.symm, hd⟩
end Go.Proofs.Ytibbjgbbclmfnaa

namespace Go.Proofs.Ytibbjgbbclmfnaa
open Go.RowKit Go.Sort

theorem Mat.addR {w w' : World} {base g cap k M g' c' gw cw : Nat} {Bk Ck : Nat → Nat} {V V' : Nat → Nat → Int} (h : Mat w base g cap k M Bk Ck V)
    (hr : Own w base (.slice (some ⟨gw, 0, none⟩) M cw) (mapTo (V' k) M)) (he : ∀ j, j < k → V' j = V j) (h1 : gw ≠ g) (h2 : ∀ j, j < k → Bk j ≠ gw)
    (ho : w'.ownsRow base 22 1 (.slice (some ⟨g', 0, none⟩) (k + 1) c') (k + 1) (((List.range k).map fun j => Value.slice (some ⟨Bk j, 0, none⟩) M (Ck j)) ++ [Value.slice (some ⟨gw, 0, none⟩) M cw]))
    (ht : Turn (fun i => (Value.slice (some ⟨g, 0, none⟩) k cap).ownBlock = some i) w w') :
    Mat w' base g' c' (k + 1) M (upd Bk k gw) (upd Ck k cw) V' := by
  have hs : ∀ (b : Nat) (k2 : Nat) (n c : Nat), (Value.slice (some ⟨b, 0, none⟩) n c).ownBlock = some k2 → b = k2 := fun b k2 n c hh => by simpa [Value.ownBlock] using hh
  refine ⟨?_, fun j hj => ?_, fun i j hi hj hne => ?_⟩
  · have e : ((List.range k).map fun j => Value.slice (some ⟨Bk j, 0, none⟩) M (Ck j)) ++ [Value.slice (some ⟨gw, 0, none⟩) M cw] = (List.range (k + 1)).map fun j => Value.slice (some ⟨upd Bk k gw j, 0, none⟩) M (upd Ck k cw j) := by
      rw [List.range_succ, List.map_append]
      congr 1
      · apply List.map_congr_left
        intro j hj
        have : j < k := List.mem_range.1 hj
        rw [upd_ne (by omega), upd_ne (by omega)]
      · simp [upd_at]
    rw [← e]; exact ho
  · by_cases e : j = k
    · subst e
      rw [upd_at, upd_at]
      exact hr.turn ht (fun k2 e1 e2 => by have := hs _ _ _ _ e1; have := hs _ _ _ _ e2; omega)
    · rw [upd_ne e, upd_ne e, he j (by omega)]
      have hb := h.gne (j := j) (by omega)
      exact (h.row j (by omega)).turn ht (fun k2 e1 e2 => by have := hs _ _ _ _ e1; have := hs _ _ _ _ e2; omega)
  · by_cases e1 : i = k
    · have e2 : j ≠ k := fun e => hne (e1.trans e.symm)
      rw [e1, upd_at, upd_ne e2]; exact fun e => h2 j (by omega) e.symm
    · rw [upd_ne e1]
      by_cases e2 : j = k
      · rw [e2, upd_at]; exact h2 i (by omega)
      · rw [upd_ne e2]; exact h.apart i j (by omega) (by omega) hne
/-- Between two rows. -/
structure LsO (w0 wr : World) (base2 gl cl gr cr J M i g cap : Nat) (Bk Ck : Nat → Nat) (L E : Nat → Int) (V : Nat → Nat → Int) (bs : List (Nat × Value)) : Prop where
  kp : Kp w0 wr
  ol : Own wr w0.heap.size (.slice (some ⟨gl, 0, none⟩) M cl) (mapTo L M)
  oe : Own wr w0.heap.size (.slice (some ⟨gr, 0, none⟩) J cr) (mapTo E J)
  mt : Mat wr base2 g cap i M Bk Ck V
  ne : gl ≠ gr
  lt : gl < base2 ∧ gr < base2 ∧ w0.heap.size ≤ base2
  bx : ∀ p ∈ bs, wr.cell? ⟨p.1, 0, none⟩ = some p.2 ∧ p.1 ≠ gl ∧ p.1 ≠ gr
/-- And a row under way. -/
structure LsS (w0 wr : World) (base2 gl cl gr cr gw cw J M i g cap : Nat) (Bk Ck : Nat → Nat) (L E : Nat → Int) (V : Nat → Nat → Int) (R : Nat → Int) (bs : List (Nat × Value)) : Prop where
  o : LsO w0 wr base2 gl cl gr cr J M i g cap Bk Ck L E V bs
  rw_ : Own wr base2 (.slice (some ⟨gw, 0, none⟩) M cw) (mapTo R M)
  n1 : gw ≠ g
  n2 : ∀ j, j < i → Bk j ≠ gw
  n3 : ∀ p ∈ bs, p.1 ≠ gw
section
variable {w0 wr wr' : World} {base2 gl cl gr cr gw cw J M i g cap : Nat} {Bk Ck : Nat → Nat} {L E : Nat → Int} {V : Nat → Nat → Int} {R : Nat → Int} {bs : List (Nat × Value)}
theorem LsO.go (h : LsO w0 wr base2 gl cl gr cr J M i g cap Bk Ck L E V bs) (hk : Kp wr wr') : LsO w0 wr' base2 gl cl gr cr J M i g cap Bk Ck L E V bs := ⟨h.kp.trans hk, h.ol.kp hk, h.oe.kp hk, h.mt.kp hk, h.ne, h.lt, fun p hp => ⟨hk.get (h.bx p hp).1, (h.bx p hp).2⟩⟩
theorem LsS.go (h : LsS w0 wr base2 gl cl gr cr gw cw J M i g cap Bk Ck L E V R bs) (hk : Kp wr wr') : LsS w0 wr' base2 gl cl gr cr gw cw J M i g cap Bk Ck L E V R bs := ⟨h.o.go hk, h.rw_.kp hk, h.n1, h.n2, h.n3⟩
theorem LsS.setL (h : LsS w0 wr base2 gl cl gr cr gw cw J M i g cap Bk Ck L E V R bs) {a : Nat} (ha : a < M) (z : Int) : LsS w0 (wr.setCell ⟨gl, a, none⟩ (.int .i64 z)) base2 gl cl gr cr gw cw J M i g cap Bk Ck (upd L a z) E V R bs := by
  have ht := turn_cell wr ⟨gl, a, none⟩ (.int .i64 z)
  have e := ((h.o.ol.slotL (mapTo_len _ _) ha).2.2 z).1
  rw [mapTo_set] at e
  have hl := h.o.lt
  have hgl := (h.o.ol.lt gl rfl).1
  refine ⟨⟨h.o.kp.turn ht (fun k e => by have : k = gl := e; omega), e, h.o.oe.turn ht (fun k hk e => by have h1 : gr = k := (by simpa [Value.ownBlock] using hk); have h2 : k = gl := e; have := h.o.ne; omega), h.o.mt.turn ht (fun e => by have h2 : g = gl := e; have := h.o.mt.glt; omega) (fun j hj e => by have h2 : Bk j = gl := e; have := h.o.mt.lt hj; omega), h.o.ne, h.o.lt, fun p hp => ⟨ht.get (h.o.bx p hp).1 (fun e => (h.o.bx p hp).2.1 e), (h.o.bx p hp).2⟩⟩, h.rw_.turn ht (fun k hk e => by have h1 : gw = k := (by simpa [Value.ownBlock] using hk); have h2 : k = gl := e; have := (h.rw_.lt gw rfl).1; omega), h.n1, h.n2, h.n3⟩
theorem LsS.setE (h : LsS w0 wr base2 gl cl gr cr gw cw J M i g cap Bk Ck L E V R bs) {a : Nat} (ha : a < J) (z : Int) : LsS w0 (wr.setCell ⟨gr, a, none⟩ (.int .i64 z)) base2 gl cl gr cr gw cw J M i g cap Bk Ck L (upd E a z) V R bs := by
  have ht := turn_cell wr ⟨gr, a, none⟩ (.int .i64 z)
  have e := ((h.o.oe.slotL (mapTo_len _ _) ha).2.2 z).1
  rw [mapTo_set] at e
  have hl := h.o.lt
  have hgl := (h.o.oe.lt gr rfl).1
  refine ⟨⟨h.o.kp.turn ht (fun k e => by have : k = gr := e; omega), h.o.ol.turn ht (fun k hk e => by have h1 : gl = k := (by simpa [Value.ownBlock] using hk); have h2 : k = gr := e; have := h.o.ne; omega), e, h.o.mt.turn ht (fun e => by have h2 : g = gr := e; have := h.o.mt.glt; omega) (fun j hj e => by have h2 : Bk j = gr := e; have := h.o.mt.lt hj; omega), h.o.ne, h.o.lt, fun p hp => ⟨ht.get (h.o.bx p hp).1 (fun e => (h.o.bx p hp).2.2 e), (h.o.bx p hp).2⟩⟩, h.rw_.turn ht (fun k hk e => by have h1 : gw = k := (by simpa [Value.ownBlock] using hk); have h2 : k = gr := e; have := (h.rw_.lt gw rfl).1; omega), h.n1, h.n2, h.n3⟩
theorem LsS.setR (h : LsS w0 wr base2 gl cl gr cr gw cw J M i g cap Bk Ck L E V R bs) {a : Nat} (ha : a < M) (z : Int) : LsS w0 (wr.setCell ⟨gw, a, none⟩ (.int .i64 z)) base2 gl cl gr cr gw cw J M i g cap Bk Ck L E V (upd R a z) bs := by
  have ht := turn_cell wr ⟨gw, a, none⟩ (.int .i64 z)
  have e := ((h.rw_.slotL (mapTo_len _ _) ha).2.2 z).1
  rw [mapTo_set] at e
  have hl := h.o.lt
  have hgl := (h.rw_.lt gw rfl).1
  refine ⟨⟨h.o.kp.turn ht (fun k e => by have : k = gw := e; omega), h.o.ol.turn ht (fun k hk e => by have h1 : gl = k := (by simpa [Value.ownBlock] using hk); have h2 : k = gw := e; omega), h.o.oe.turn ht (fun k hk e => by have h1 : gr = k := (by simpa [Value.ownBlock] using hk); have h2 : k = gw := e; omega), h.o.mt.turn ht (fun e => h.n1 e.symm) (fun j hj e => h.n2 j hj e), h.o.ne, h.o.lt, fun p hp => ⟨ht.get (h.o.bx p hp).1 (fun e => h.n3 p hp e), (h.o.bx p hp).2⟩⟩, e, h.n1, h.n2, h.n3⟩
/-- What the functions say in between does not matter. -/
theorem LsS.congr (h : LsS w0 wr base2 gl cl gr cr gw cw J M i g cap Bk Ck L E V R bs) {L' E' R' : Nat → Int} (hl : ∀ a, a < M → L' a = L a) (he : ∀ a, a < J → E' a = E a) (hr : ∀ a, a < M → R' a = R a) : LsS w0 wr base2 gl cl gr cr gw cw J M i g cap Bk Ck L' E' V R' bs := by
  have c : ∀ {f f' : Nat → Int} {n : Nat}, (∀ a, a < n → f' a = f a) → mapTo f' n = mapTo f n := fun hh => by
    unfold mapTo
    exact List.map_congr_left (fun x hx => hh x (List.mem_range.1 hx))
  exact ⟨⟨h.o.kp, by rw [c hl]; exact h.o.ol, by rw [c he]; exact h.o.oe, h.o.mt, h.o.ne, h.o.lt, h.o.bx⟩, by rw [c hr]; exact h.rw_, h.n1, h.n2, h.n3⟩
end
/-- What is left, as lists. -/
theorem haulB_rest {F : Fld} {rooms needs S : List Int} (hb : haulB F rooms needs S = true) {L E : Nat → Int} (hL : ∀ a, a < F.op.length → 0 ≤ L a ∧ L a ≤ 20) (hE : ∀ j, j < F.di.length → 0 ≤ E j ∧ E j ≤ 5) : haulB F (mapTo L F.op.length) (mapTo E F.di.length) S = true := by
  rw [haulB_iff] at hb ⊢
  refine ⟨hb.1, ⟨fun x hx => ?_, mapTo_len _ _⟩, ⟨fun x hx => ?_, mapTo_len _ _⟩⟩
  · unfold mapTo at hx
    obtain ⟨k, hk, rfl⟩ := List.mem_map.1 hx
    exact hL k (List.mem_range.1 hk)
  · unfold mapTo at hx
    obtain ⟨k, hk, rfl⟩ := List.mem_map.1 hx
    exact hE k (List.mem_range.1 hk)
end Go.Proofs.Ytibbjgbbclmfnaa

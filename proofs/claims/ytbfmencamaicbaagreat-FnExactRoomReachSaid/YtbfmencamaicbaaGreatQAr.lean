/- The reference's flows: LeastFlowCost, CanServe; LeastFlowCost and CanServe: the reference's, and CanServe: the program's; CanServe: the program's and the reference's; l1Put: a number put into a rising list; Marginal gains and greedy choices: plain words; What compact leaves of a list that never falls; All sets of some sites in their order: plain words; RoomReach: the lengths, each once, in ascending order; both ways of making the list. No condition. -/
import Derived.Test.YtbfmencamaicbaaGreatQAq
import Derived.Test.YtbfmencamaicbaaGreatQAg
import Derived.Test.YtbfmencamaicbaaGreatQAp
import Derived.Test.YtbfmencamaicbaaGreatQAi
import Derived.Test.YtbfmencamaicbaaGreatQAf
import Derived.Test.YtbfmencamaicbaaGreatQAb
import Derived.Test.YtbfmencamaicbaaGreatQAa
import Derived.Lib.SlicesCompact
namespace Go.Proofs.YtbfmencamaicbaaGreat
open Go.RowKit Go.Sort

theorem small_sum : ∀ (L : List Int), (∀ x ∈ L, 0 ≤ x ∧ x ≤ 1000) → 0 ≤ L.sum ∧ L.sum ≤ 1000 * (L.length : Int)
  | [], _ => by simp
  | x :: L, h => by
    have h1 := h x (by simp)
    have h2 := small_sum L (fun y hy => h y (by simp [hy]))
    simp only [List.sum_cons, List.length_cons]
    omega
theorem small_take {L : List Int} (h : ∀ x ∈ L, 0 ≤ x ∧ x ≤ 1000) (hl : L.length ≤ 1000) (k : Nat) (_ : k ≤ L.length) : -1000000000 ≤ (L.take k).sum ∧ (L.take k).sum ≤ 1000000000 := by
  have h1 := small_sum (L.take k) (fun x hx => h x (List.mem_of_mem_take hx))
  have h2 : (L.take k).length ≤ 1000 := by rw [List.length_take]; omega
  omega
def AnyPost (w : World) (J M : Nat) (d : Nat → Nat → Int) (may : Nat → Nat → Bool) (nd rm : Nat → Int) (e : Ending) (w' : World) : Prop :=
  ∃ (L : NetL) (nl lf : Nat → Int) (fl : Nat → Nat → Int), e = .returned (.slice L.fA J L.cf) ∧ NetS w' w.heap.size L J M nl lf fl may ∧ NetN J M d may rm nd nl lf fl ∧ ((∀ j, j < J → nl j = 0) ∨ ((∃ j, j < J ∧ nl j ≠ 0) ∧ ∀ x, ¬ Haul J M may nd rm x)) ∧ Kp w w'
theorem NetN.zero {F : Fld} {rooms needs S : List Int} {may : Nat → Nat → Bool} (hP : HaulP F rooms needs S) : NetN F.di.length F.op.length (dF F) may (startR S rooms) (lget needs) (lget needs) (startR S rooms) (fun _ _ => 0) := by
  have hz : ∀ i, rowS F.op.length (fun _ _ => (0 : Int)) i = 0 := fun i => sumTo_c0 _
  refine ⟨Net.zero (fun j a => (dF_bd hP.good j a).1) (fun x _ => ?_), fun j _ => by rw [hz]; omega, fun j => by have := hP.nb j; omega⟩
  unfold startR; have := hP.rb x; split <;> omega
def csR (F : Fld) (rooms needs S : List Int) (r : Int) : Prop := CanH F.di.length F.op.length (startM F S r) (lget needs) (startR S rooms)
open Classical in
noncomputable def csB (F : Fld) (rooms needs S : List Int) (r : Int) : Bool := decide (csR F rooms needs S r)
theorem net_can {J M : Nat} {d : Nat → Nat → Int} {may : Nat → Nat → Bool} {rm nd nl lf : Nat → Int} {fl : Nat → Nat → Int} (hn : NetN J M d may rm nd nl lf fl) (hz : ∀ j, j < J → nl j = 0) : Haul J M may nd rm fl ∧ ∀ x, Haul J M may nd rm x → costT J M d fl ≤ costT J M d x :=
  hn.net.least (fun j hj => by have := hn.row j hj; have := hz j hj; omega)
theorem sum_left {J M : Nat} {d : Nat → Nat → Int} {may : Nat → Nat → Bool} {rm nd nl lf : Nat → Int} {fl : Nat → Nat → Int} (hn : NetN J M d may rm nd nl lf fl) (hor : (∀ j, j < J → nl j = 0) ∨ ((∃ j, j < J ∧ nl j ≠ 0) ∧ ∀ x, ¬ Haul J M may nd rm x)) : (sumTo nl J = 0 ∧ CanH J M may nd rm) ∨ (0 < sumTo nl J ∧ ¬ CanH J M may nd rm) := by
  rcases hor with h | ⟨⟨j, hj, hz⟩, h⟩
  · left
    refine ⟨?_, fl, (net_can hn h).1⟩
    rw [sumTo_congr h, sumTo_c0]
  · right
    refine ⟨?_, fun ⟨x, hx⟩ => h x hx⟩
    have h1 : nl j ≤ sumTo nl J := sumTo_ge (fun i _ => (hn.nb i).1) hj
    have := (hn.nb j).1
    omega
theorem sumTo_mapTo (g : Nat → Int) (n : Nat) : (mapTo g n).sum = sumTo g n := rfl
set_option maxRecDepth 100000 in
set_option maxHeartbeats 1000000 in
theorem l7Serves_any (f : Value) (F : Fld) (A1 : Option Addr) (rooms : List Int) (n1 c1 : Nat) (A2 : Option Addr) (needs : List Int) (n2 c2 : Nat) (A3 : Option Addr) (S : List Int) (n3 c3 : Nat) (r : Int) (w : World) (hf : FldAt w f F) (h1 : IntsAt w A1 rooms) (hn1 : rooms.length = n1) (h2 : IntsAt w A2 needs) (hn2 : needs.length = n2) (h3 : IntsAt w A3 S) (hn3 : S.length = n3) (hP : HaulP F rooms needs S) :
    Calls Tryz.prog 18 #[f, .slice A1 n1 c1, .slice A2 n2 c2, .slice A3 n3 c3, .int .i64 r] w (fun e w' => e = .returned (.bool (csB F rooms needs S r)) ∧ Kp w w') := by
  obtain ⟨A, c, B, d, rfl, hA, hB⟩ := hf
  have hk0 : Kp w (w.alloc (.cells #[.slice A F.op.length c, .slice B F.di.length d] 29)) := (Kp.refl w).alloc _
  obtain ⟨d0, d1⟩ := box2 w (.slice A F.op.length c) (.slice B F.di.length d) 29
  have hFA := FldAt.kp (show FldAt w (.agg #[.slice A F.op.length c, .slice B F.di.length d]) F from ⟨A, c, B, d, rfl, hA, hB⟩) hk0
  have h8 := (goodF_iff.1 hP.good).2.2.1
  have h7 := (goodF_iff.1 hP.good).1
  have HP := Lib.hid hP
  have C0 := Lib.hid (fun (wx : World) (hx : Kp (w.alloc (.cells #[.slice A F.op.length c, .slice B F.di.length d] 29)) wx) => l7Start_any _ F A1 rooms n1 c1 A2 needs n2 c2 A3 S n3 c3 r wx (hFA.kp hx) hP.good (h1.kp (hk0.trans hx)) hn1 (h2.kp (hk0.trans hx)) hn2 (h3.kp (hk0.trans hx)) hn3 (by rw [← hn1]; exact hP.rl) (by rw [← hn2]; exact hP.nl) (fun x hx => by have := set_mem hP.set_ x hx; omega))
  have C1 := Lib.hid (fun (wx wy : World) (L : NetL) (h0 : Kp (w.alloc (.cells #[.slice A F.op.length c, .slice B F.di.length d] 29)) wx) (hxy : Kp wx wy) (hn : NetS wy wx.heap.size L F.di.length F.op.length (lget needs) (startR S rooms) (fun _ _ => 0) (startM F S r)) =>
    (l7Fill_any _ F L (lget needs) (startR S rooms) (startR S rooms) (lget needs) (fun _ _ => 0) (startM F S r) wx.heap.size wx wy (hFA.kp h0) hxy (Nat.le_refl _) hxy.le hP.good hn (NetN.zero hP) (fun x _ => by unfold startR; have := hP.rb x; split <;> omega)).mono (fun e w' hp => by
      obtain ⟨nl, lf, fl, he, hN2, hNn, hor, ht⟩ := hp
      exact (⟨nl, lf, fl, he, hN2.mono (by have := hk0.le; have := h0.le; omega), hNn, hor, hxy.turn ht (fun i hi => hi.1)⟩ : ∃ (nl lf : Nat → Int) (fl : Nat → Nat → Int), e = .returned (.agg #[.slice L.nA F.di.length L.cn, .slice (some ⟨L.gr, 0, none⟩) F.op.length L.cr, .slice L.fA F.di.length L.cf, .slice L.mA F.di.length L.cm]) ∧ NetS w' w.heap.size L F.di.length F.op.length nl lf fl (startM F S r) ∧ NetN F.di.length F.op.length (dF F) (startM F S r) (startR S rooms) (lget needs) nl lf fl ∧ ((∀ j, j < F.di.length → nl j = 0) ∨ ((∃ j, j < F.di.length ∧ nl j ≠ 0) ∧ ∀ x, ¬ Haul F.di.length F.op.length (startM F S r) (lget needs) (startR S rooms) x)) ∧ Kp wx w')))
  have hfd : ∀ (w : World) (a b c d : Option Addr) (p q u v x y s t : Nat), Sem.run Tryz.prog (Instr.field 56 (.agg #[.slice a p q, .slice b u v, .slice c x y, .slice d s t]) 0) w = .ok (.slice a p q) w := fun _ _ _ _ _ _ _ _ _ _ _ _ _ => by kernel_rfl
  have C2 := Lib.hid (fun (wx : World) (base : Nat) (L : NetL) (nl lf : Nat → Int) (fl : Nat → Nat → Int) (hn : NetS wx base L F.di.length F.op.length nl lf fl (startM F S r)) (hnn : NetN F.di.length F.op.length (dF F) (startM F S r) (startR S rooms) (lget needs) nl lf fl) =>
    (show Calls Tryz.prog 33 #[.slice L.nA F.di.length L.cn] wx (fun e w' => e = .returned (.int .i64 (sumTo nl F.di.length)) ∧ wx = w') from
      l3Sum_any L.nA (mapTo nl F.di.length) F.di.length L.cn wx (by
        by_cases hj : 0 < F.di.length
        · obtain ⟨A', c', e, hi⟩ := (hn.nd hj).ints (by rw [mapTo_len]; omega)
          simp only [Value.slice.injEq] at e
          rw [hn.na hj, e.1]; exact hi
        · rw [show F.di.length = 0 by omega]; exact IntsAt.nil _ _) (mapTo_len _ _)
        (fun k hk => small_take (fun x hx => by
          simp only [mapTo, List.mem_map] at hx
          obtain ⟨i, _, rfl⟩ := hx
          exact hnn.nb i) (by rw [mapTo_len]; omega) k (by rw [mapTo_len]; exact hk))
        (fun x hx => by
          simp only [mapTo, List.mem_map] at hx
          obtain ⟨i, _, rfl⟩ := hx
          have := hnn.nb i; omega)))
  clear hA hB hn1 hn2 hn3 h1 h2 h3 hP
  go_enter Tryz.func18, Tryz.ntmps18
  go_wp2_with fail
  have hsz : Hid ((w.alloc (.cells #[.slice A F.op.length c, .slice B F.di.length d] 29)).heap.size = w.heap.size + 1) := by show _ = _; simp
  generalize w.alloc (.cells #[.slice A F.op.length c, .slice B F.di.length d] 29) = wb at *
  have hkb : Kp wb wb := Kp.refl _
  have hkw := hk0
  have q_d0 := hkb.get d0
  have q_d1 := hkb.get d1
  have tok1 : True := trivial
  go_wp2_with fail
  go_region_held3 (fun w' => w'.cell? ⟨w.heap.size, 0, none⟩ = some (.slice A F.op.length c) ∧ w'.cell? ⟨w.heap.size, 1, none⟩ = some (.slice B F.di.length d) ∧ Kp wb w')
    (first | (refine keepc2 d0 d1 ?_; exact (by repeat (first | with_reducible assumption | with_reducible exact Kp.refl _ | with_reducible refine Kp.drew ?_ | with_reducible refine Kp.alloc ?_ _ | with_reducible refine Kp.drewN ?_ _ | refine Kp.setCell ?_ (by dsimp only; omega) _))) | fail)
    (first
      | (have _t := tok1; go_at_call 35; with_reducible refine Calls.mono (C0.out _ (by repeat (first | with_reducible assumption | with_reducible exact Kp.refl _ | with_reducible refine Kp.drew ?_ | with_reducible refine Kp.alloc ?_ _ | with_reducible refine Kp.drewN ?_ _ | refine Kp.setCell ?_ (by dsimp only; omega) _))) ?_; rintro e wr1 ⟨L, rfl, hn, hka⟩; have hr1 : Kp wb wr1 := Kp.trans (by repeat (first | with_reducible assumption | with_reducible exact Kp.refl _ | with_reducible refine Kp.drew ?_ | with_reducible refine Kp.alloc ?_ _ | with_reducible refine Kp.drewN ?_ _ | refine Kp.setCell ?_ (by dsimp only; omega) _)) hka; have tok2 : True := trivial; clear tok1 _t)
      | (have _t := tok2; go_at_call 34; with_reducible refine Calls.mono (C1.out _ _ _ (by repeat (first | with_reducible assumption | with_reducible exact Kp.refl _ | with_reducible refine Kp.drew ?_ | with_reducible refine Kp.alloc ?_ _ | with_reducible refine Kp.drewN ?_ _ | refine Kp.setCell ?_ (by dsimp only; omega) _)) (Kp.trans hka (by repeat (first | with_reducible assumption | with_reducible exact Kp.refl _ | with_reducible refine Kp.drew ?_ | with_reducible refine Kp.alloc ?_ _ | with_reducible refine Kp.drewN ?_ _ | refine Kp.setCell ?_ (by dsimp only; omega) _))) (hn.kp (by repeat (first | with_reducible assumption | with_reducible exact Kp.refl _ | with_reducible refine Kp.drew ?_ | with_reducible refine Kp.alloc ?_ _ | with_reducible refine Kp.drewN ?_ _ | refine Kp.setCell ?_ (by dsimp only; omega) _)))) ?_; rintro e wr2 ⟨nl, lf, fl, rfl, hn2, hnn, hor, hka⟩; have hr2 : Kp wb wr2 := Kp.trans (by repeat (first | with_reducible assumption | with_reducible exact Kp.refl _ | with_reducible refine Kp.drew ?_ | with_reducible refine Kp.alloc ?_ _ | with_reducible refine Kp.drewN ?_ _ | refine Kp.setCell ?_ (by dsimp only; omega) _)) hka; have tok3 : True := trivial; clear tok2 _t)
      | (have _t := tok3; go_at_call 33; with_reducible refine Calls.mono (C2.out _ _ _ _ _ _ hn2 hnn) ?_; rintro e wr3 ⟨rfl, hw⟩; obtain rfl := hw; have tok4 : True := trivial; clear tok3 _t)
      | fail)
  all_goals
    go_wp2_with fail
    go_ret
    refine ⟨ret_bool ?_, hkw.trans hr2⟩
    rcases sum_left hnn hor with ⟨h1, h2⟩ | ⟨h1, h2⟩
    · rw [h1]; unfold csB csR; simp [h2]
    · unfold csB csR; simp [h2]; omega
end Go.Proofs.YtbfmencamaicbaaGreat

namespace Go.Proofs.YtbfmencamaicbaaGreat
open Go.RowKit Go.Sort

/-- Where a set's sites alone are open for all, there is a haul if there is room enough. -/
theorem haul_ex {J M : Nat} {sA : Nat → Bool} {rm : Nat → Int} (hr : ∀ a, a < M → 0 ≤ rm a) : ∀ (n : Nat) (nd : Nat → Int), (∀ j, j < J → 0 ≤ nd j) → sumTo nd J = n → sumTo nd J ≤ sumTo (fun a => if sA a = true then rm a else 0) M → ∃ x, Haul J M (fun _ a => sA a) nd rm x
  | 0, nd, h0, hn, _ => by
    have hz : ∀ j, j < J → nd j = 0 := fun j hj => by have := h0 j hj; have h1 : nd j ≤ sumTo nd J := sumTo_ge h0 hj; omega
    exact ⟨fun _ _ => 0, ⟨fun _ _ _ _ => Int.le_refl _, fun _ _ _ _ h => by omega, fun j hj => by rw [hz j hj]; exact sumTo_c0 _, fun a ha => by
      have : colT J (fun _ _ => (0 : Int)) a = 0 := sumTo_c0 _
      rw [this]; exact hr a ha⟩⟩
  | n + 1, nd, h0, hn, hs => by
    obtain ⟨j0, hj0, hp⟩ := sumTo_pos' h0 (by omega)
    have h1 : sumTo (upd nd j0 (nd j0 - 1)) J = n := by rw [sumTo_upd, if_pos hj0]; omega
    obtain ⟨x, hx⟩ := haul_ex (sA := sA) hr n (upd nd j0 (nd j0 - 1)) (fun j hj => by
      by_cases e : j = j0
      · subst e; rw [upd_at]; omega
      · rw [upd_ne e]; exact h0 j hj) h1 (by omega)
    have ht : sumTo (colT J x) M = n := by rw [tot, sumTo_congr hx.row, h1]
    have hA : ∃ a, a < M ∧ sA a = true ∧ colT J x a < rm a := Classical.byContradiction (fun hno => by
      have hle : sumTo (fun a => if sA a = true then rm a else 0) M ≤ sumTo (colT J x) M := sumTo_mono' (fun a ha => by
        by_cases hs : sA a = true
        · rw [if_pos hs]; exact Int.not_lt.1 (fun hlt => hno ⟨a, ha, hs, hlt⟩)
        · rw [if_neg hs]; exact sumTo_nn (fun j hj => hx.nn j a hj ha))
      omega)
    obtain ⟨a, ha, hsa, hlt⟩ := hA
    refine ⟨upd2 x j0 a (x j0 a + 1), ⟨fun j b hj hb => ?_, fun j b hj hb hpos => ?_, fun j hj => ?_, fun b hb => ?_⟩⟩
    · by_cases e : j = j0 ∧ b = a
      · obtain ⟨rfl, rfl⟩ := e; rw [upd2_at]; have := hx.nn j b hj hb; omega
      · rw [upd2_ne (by omega)]; exact hx.nn j b hj hb
    · by_cases e : j = j0 ∧ b = a
      · obtain ⟨rfl, rfl⟩ := e; exact hsa
      · rw [upd2_ne (by omega)] at hpos; exact hx.may j b hj hb hpos
    · rw [row_upd2 _ _ ha, hx.row j hj]
      by_cases e : j = j0
      · subst e; rw [if_pos rfl, upd_at]; omega
      · rw [if_neg e, upd_ne e]; omega
    · rw [col_upd2 _ _ hj0]
      have := hx.col b hb
      by_cases e : b = a
      · subst e; rw [if_pos rfl]; omega
      · rw [if_neg e]; omega
theorem startM_open {F : Fld} {S : List Int} (hg : goodF F = true) (j a : Nat) : startM F S 99 j a = openM S j a := by
  unfold startM openM
  have := (dF_bd hg j a).2
  rw [decide_eq_true this, Bool.and_true]
theorem startR_or (F : Fld) (S rooms : List Int) (r : Int) (J a : Nat) : (∀ j, j < J → startM F S r j a = false) ∨ startR S rooms a = lget rooms a := by
  cases h : flHas S a
  · exact .inl fun j _ => by unfold startM; rw [h]; rfl
  · exact .inr (by unfold startR; rw [if_pos h])
theorem startR_nn {rooms : List Int} (S : List Int) (h : ∀ x, 0 ≤ lget rooms x ∧ lget rooms x ≤ 20) (a : Nat) : 0 ≤ startR S rooms a := by unfold startR; have := h a; split <;> omega
/-- The reference's rooms and the given ones make no difference. -/
theorem start_lst {F : Fld} {rooms needs S : List Int} (hP : HaulP F rooms needs S) {c : Int} (h : IsLst F.di.length F.op.length (dF F) (startM F S 99) (lget needs) (startR S rooms) c) : IsLst F.di.length F.op.length (dF F) (openM S) (lget needs) (lget rooms) c :=
  lst_congr (fun _ _ _ _ => rfl) (fun j a _ _ => startM_open hP.good j a) (fun _ _ => rfl) (fun a _ => startR_or F S rooms 99 F.di.length a) (fun a _ => startR_nn S hP.rb a) (fun a _ => (hP.rb a).1) h
theorem start_haul {F : Fld} {rooms needs S : List Int} (hP : HaulP F rooms needs S) {r : Int} {x : Nat → Nat → Int} (h : Haul F.di.length F.op.length (startM F S r) (lget needs) (lget rooms) x) : Haul F.di.length F.op.length (startM F S r) (lget needs) (startR S rooms) x :=
  haul_congr (fun _ _ _ _ => rfl) (fun _ _ => rfl) (fun a _ => (startR_or F S rooms r F.di.length a).imp id Eq.symm) (fun a _ => startR_nn S hP.rb a) h
theorem start_haul' {F : Fld} {rooms needs S : List Int} (hP : HaulP F rooms needs S) {r : Int} {x : Nat → Nat → Int} (h : Haul F.di.length F.op.length (startM F S r) (lget needs) (startR S rooms) x) : Haul F.di.length F.op.length (startM F S r) (lget needs) (lget rooms) x :=
  haul_congr (fun _ _ _ _ => rfl) (fun _ _ => rfl) (fun a _ => startR_or F S rooms r F.di.length a) (fun a _ => (hP.rb a).1) h
/-- With room enough the reference's net is full. -/
theorem any_full {F : Fld} {rooms needs S : List Int} (hP : HaulP F rooms needs S) (hs : needs.sum ≤ roomS rooms S) : CanH F.di.length F.op.length (startM F S 99) (lget needs) (startR S rooms) := by
  obtain ⟨x, hx⟩ := haul_ex (J := F.di.length) (M := F.op.length) (sA := fun a => flHas S a) (rm := lget rooms) (fun a _ => (hP.rb a).1) (sumTo (lget needs) F.di.length).toNat (lget needs) (fun j _ => (hP.nb j).1) (by have : 0 ≤ sumTo (lget needs) F.di.length := sumTo_nn (fun j _ => (hP.nb j).1); omega) (by rw [hP.ns, hP.rs]; exact hs)
  exact ⟨x, start_haul hP (haul_congr (fun j a _ _ => by rw [startM_open hP.good]; rfl) (fun _ _ => rfl) (fun _ _ => .inr rfl) (fun a _ => (hP.rb a).1) hx)⟩
theorem net_grid {w : World} {base : Nat} {L : NetL} {J M : Nat} {nl lf : Nat → Int} {fl : Nat → Nat → Int} {may : Nat → Nat → Bool} (h : NetS w base L J M nl lf fl may) (hJ : J ≤ 1000) (hM : M ≤ 1000) : GridAt w L.fA (matL J M fl) := by
  by_cases h0 : 0 < J
  · rw [h.fa h0]; exact (h.fl h0).grid (by omega) (by omega)
  · obtain rfl : J = 0 := by omega
    exact ⟨by simp [matL], fun k hk => by simp [matL] at hk⟩
def csOk (F : Fld) (rooms needs S : List Int) (r : Int) : Bool := haulB F rooms needs S && decide (0 ≤ r)
noncomputable def csV (F : Fld) (rooms needs S : List Int) (r : Int) : Bool := csOk F rooms needs S r && csB F rooms needs S r
set_option maxHeartbeats 400000 in
theorem canServeClo_any (F : Fld) (S : List Int) (r : Int) (p q t : Nat) (A : Option Addr) (c : Nat) (B : Option Addr) (d : Nat) (w : World) (hg : goodF F = true) (hS : ∀ x ∈ S, 0 ≤ x ∧ x < 7) (x0 : w.cell? ⟨p, 0, none⟩ = some (.int .u64 (bagN S))) (x1 : w.cell? ⟨q, 1, none⟩ = some (.slice B F.di.length d)) (x2 : w.cell? ⟨t, 0, none⟩ = some (.int .i64 r)) (hB : GridAt w B F.di) (i a : Nat) (hi : i < F.di.length) (ha : a < F.op.length) :
    Calls Tryz.prog 47 #[.int .i64 (i : Int), .int .i64 (a : Int), .pointer (some ⟨p, 0, none⟩), .pointer (some ⟨q, 0, none⟩), .pointer (some ⟨t, 0, none⟩)] w fun e w' => e = .returned (.bool (startM F S r i a)) ∧ Dr w w' := by
  have hb := bagN_lt (n := 7) hS
  have h7 := (goodF_iff.1 hg).1
  have HB := Lib.hid (bag_has (fun y hy => (hS y hy).1) a)
  obtain ⟨bd, ar, cr, rfl, hd1, hd2⟩ := dist_row hg hB hi
  have hd3 := hd2 a ha
  have hiI : (i : Int) < (F.di.length : Int) := by omega
  have haI : (a : Int) < (F.op.length : Int) := by omega
  obtain ⟨dd, Hdd⟩ : ∃ z, Hid (dF F i a = z) := ⟨_, rfl⟩
  rw [Hdd.out] at hd3
  have C1 := Lib.hid (fun (n : Nat) => Calls.same_quiet (has_any (bagN S) a (w.drewN n) (by omega) (by omega)))
  cases hh : flHas S a
  · rw [HB.out, hh] at C1
    have Hst : Hid (startM F S r i a = false) := by show _ = _; unfold startM; rw [hh]; rfl
    clear hd2 hB hh HB hS
    go_enter Tryz.func47, Tryz.ntmps47
    go_wp2_with fail
    go_quiet (exact C1.out _)
    go_wp2_with fail
    go_ret
    exact ⟨ret_bool Hst.out.symm, (Dr.refl w).drewN _⟩
  · rw [HB.out, hh] at C1
    have Hst : Hid (startM F S r i a = decide (dd ≤ r)) := by show _ = _; unfold startM; rw [hh, Hdd.out]; rfl
    clear hd2 hB hh HB hS
    go_enter Tryz.func47, Tryz.ntmps47
    go_wp2_with fail
    go_quiet (exact C1.out _)
    go_wp2_with fail
    go_ret
    exact ⟨ret_bool Hst.out.symm, (Dr.refl w).drewN _⟩
end Go.Proofs.YtbfmencamaicbaaGreat

namespace Go.Proofs.YtbfmencamaicbaaGreat
open Go.RowKit Go.Sort

open Classical in
theorem cs_yes {F : Fld} {rooms needs S : List Int} {r : Int} (hP : HaulP F rooms needs S) {x : Nat → Nat → Int} (h : Haul F.di.length F.op.length (startM F S r) (lget needs) (lget rooms) x) : csB F rooms needs S r = true := by
  unfold csB; exact @decide_eq_true _ _ (show csR F rooms needs S r from ⟨x, start_haul hP h⟩)
open Classical in
theorem cs_no {F : Fld} {rooms needs S : List Int} {r : Int} (hP : HaulP F rooms needs S) (h : ∀ x, ¬ Haul F.di.length F.op.length (startM F S r) (lget needs) (lget rooms) x) : csB F rooms needs S r = false := by
  unfold csB; exact @decide_eq_false _ _ (show ¬ csR F rooms needs S r from fun ⟨x, hx⟩ => h x (start_haul' hP hx))
set_option maxRecDepth 100000 in
set_option maxHeartbeats 1000000 in
theorem canServe_any (f : Value) (F : Fld) (A1 : Option Addr) (rooms : List Int) (n1 c1 : Nat) (A2 : Option Addr) (needs : List Int) (n2 c2 : Nat) (A3 : Option Addr) (S : List Int) (n3 c3 : Nat) (r : Int) (w : World) (hf : FldAt w f F) (h1 : IntsAt w A1 rooms) (hn1 : rooms.length = n1) (h2 : IntsAt w A2 needs) (hn2 : needs.length = n2) (h3 : IntsAt w A3 S) (hn3 : S.length = n3) (hP : HaulP F rooms needs S) :
    Calls Tryz.prog 27 #[f, .slice A1 n1 c1, .slice A2 n2 c2, .slice A3 n3 c3, .int .i64 r] w fun e w' => e = .returned (.bool (csB F rooms needs S r)) ∧ Kp w w' := by
  obtain ⟨A, c, B, d, rfl, hA, hB⟩ := id hf
  have HP := Lib.hid hP
  have h7 := (goodF_iff.1 hP.good).1.2
  have hk2 : Kp w ((w.alloc (.cells #[.slice A F.op.length c, .slice B F.di.length d] 29)).alloc (.cells #[.int .i64 r] 3)) := ((Kp.refl w).alloc _).alloc _
  have hk3 : Kp w (((w.alloc (.cells #[.slice A F.op.length c, .slice B F.di.length d] 29)).alloc (.cells #[.int .i64 r] 3)).alloc (.cells #[.int .u64 (bagN S)] 64)) := hk2.alloc _
  have CC := Lib.hid (bagOf_any A3 S n3 c3 _ (h3.kp hk2) hn3 (fun x hx => by have := hP.mem x hx; omega))
  have d0 : (((w.alloc (.cells #[.slice A F.op.length c, .slice B F.di.length d] 29)).alloc (.cells #[.int .i64 r] 3)).alloc (.cells #[.int .u64 (bagN S)] 64)).cell? ⟨w.heap.size, 0, none⟩ = some (.slice A F.op.length c) := by
    rw [World.cell?_alloc_past _ _ _ (by simp only [World.size_alloc]; omega), World.cell?_alloc_past _ _ _ (by simp only [World.size_alloc]; omega), World.cell?_alloc_at _ _ _ _ rfl]; rfl
  have d1 : (((w.alloc (.cells #[.slice A F.op.length c, .slice B F.di.length d] 29)).alloc (.cells #[.int .i64 r] 3)).alloc (.cells #[.int .u64 (bagN S)] 64)).cell? ⟨w.heap.size, 1, none⟩ = some (.slice B F.di.length d) := by
    rw [World.cell?_alloc_past _ _ _ (by simp only [World.size_alloc]; omega), World.cell?_alloc_past _ _ _ (by simp only [World.size_alloc]; omega), World.cell?_alloc_at _ _ _ _ rfl]; rfl
  have d2 : (((w.alloc (.cells #[.slice A F.op.length c, .slice B F.di.length d] 29)).alloc (.cells #[.int .i64 r] 3)).alloc (.cells #[.int .u64 (bagN S)] 64)).cell? ⟨w.heap.size + 1, 0, none⟩ = some (.int .i64 r) := by
    rw [World.cell?_alloc_past _ _ _ (by simp only [World.size_alloc]; omega), World.cell?_alloc_at _ _ _ _ (by simp only [World.size_alloc])]; rfl
  have d3 : (((w.alloc (.cells #[.slice A F.op.length c, .slice B F.di.length d] 29)).alloc (.cells #[.int .i64 r] 3)).alloc (.cells #[.int .u64 (bagN S)] 64)).cell? ⟨w.heap.size + 1 + 1, 0, none⟩ = some (.int .u64 (bagN S)) := by
    rw [World.cell?_alloc_at _ _ _ _ (by simp only [World.size_alloc])]; rfl
  have hcan : Can 47 #[.pointer (some ⟨w.heap.size + 1 + 1, 0, none⟩), .pointer (some ⟨w.heap.size, 0, none⟩), .pointer (some ⟨w.heap.size + 1, 0, none⟩)] F.di.length F.op.length (startM F S r) (((w.alloc (.cells #[.slice A F.op.length c, .slice B F.di.length d] 29)).alloc (.cells #[.int .i64 r] 3)).alloc (.cells #[.int .u64 (bagN S)] 64)) :=
    ⟨callFunc_of Tryz.func47 (by kernel_rfl) (by kernel_rfl), fun i a w' hk hi ha => canServeClo_any F S r (w.heap.size + 1 + 1) w.heap.size (w.heap.size + 1) A c B d w' hP.good hP.mem (hk.get d3) (hk.get d1) (hk.get d2) (hB.kp (hk3.trans hk)) i a hi ha⟩
  have CF := Lib.hid (flow_any _ F A1 rooms n1 c1 A2 needs n2 c2 _ _ (startM F S r) _ (hf.kp hk3) hP.good (h1.kp hk3) hn1 (h2.kp hk3) hn2 (by rw [← hn1]; exact hP.rl) (by rw [← hn2]; exact hP.nl) hcan (fun x => by have := hP.rb x; omega) (fun x => by have := hP.nb x; omega))
  have HK := Lib.hid hk3
  clear hcan hf hA hB hk2 hk3 h1 h2 h3 hn1 hn2 hn3 hP
  go_enter Tryz.func27, Tryz.ntmps27
  go_wp2_with fail
  with_reducible refine Calls.mono CC.out ?_
  rintro e w' ⟨rfl, hw⟩
  obtain rfl := hw
  clear CC
  go_wp2_with fail
  with_reducible refine Calls.mono CF.out ?_
  clear CF
  rintro e w' (⟨g, cap, Bk, Ck, fl, lf, rfl, hm, hN, hR, hk⟩ | ⟨rfl, hk, hno, _⟩)
  · have Hv := Lib.hid (cs_yes HP.out (hN.least hR).1)
    clear hm hN hR d0 d1 d2 d3
    go_wp2_with fail
    go_ret
    exact ⟨ret_bool Hv.out.symm, HK.out.trans hk⟩
  · have Hv := Lib.hid (cs_no HP.out hno)
    clear hno d0 d1 d2 d3
    go_wp2_with fail
    go_ret
    exact ⟨ret_bool Hv.out.symm, HK.out.trans hk⟩
end Go.Proofs.YtbfmencamaicbaaGreat

namespace Go.Proofs.YtbfmencamaicbaaGreat
open Go.RowKit Go.Sort

theorem put_has {S : List Int} {a : Int} {k : Nat} (hk : k < S.length) (h : S[k] = a) : putL S a = S := if_pos (h ▸ List.getElem_mem hk)
theorem put_at {S : List Int} {a : Int} {k : Nat} (hs : S.Pairwise (· < ·)) (h1 : ∀ x ∈ S.take k, x < a) (h2 : ∀ h : k < S.length, a < S[k]) : putL S a = S.take k ++ a :: S.drop k := by
  have hd : ∀ x ∈ S.drop k, a < x := by
    intro x hx
    obtain ⟨i, hi, rfl⟩ := List.getElem_of_mem hx
    have hi' : k + i < S.length := by simp at hi; omega
    have hk : k < S.length := by omega
    rw [List.getElem_drop]
    rcases Nat.eq_zero_or_pos i with rfl | hp
    · exact h2 hk
    · exact Int.lt_trans (h2 hk) (List.pairwise_iff_getElem.1 hs k (k + i) hk hi' (by omega))
  have hn : a ∉ S := by
    intro h
    rw [← List.take_append_drop k S, List.mem_append] at h
    rcases h with h | h
    · exact absurd (h1 a h) (by omega)
    · exact absurd (hd a h) (by omega)
  unfold putL
  rw [if_neg hn]
  have hw : S.takeWhile (· < a) = S.take k ∧ S.dropWhile (· < a) = S.drop k := by
    have e : S = S.take k ++ S.drop k := (List.take_append_drop k S).symm
    constructor
    · conv => lhs; rw [e]
      rw [List.takeWhile_append_of_pos (by intro x hx; simpa using h1 x hx)]
      cases hc : S.drop k with
      | nil => simp
      | cons y t => have := hd y (by rw [hc]; simp); rw [List.takeWhile_cons, if_neg (by simp; omega), List.append_nil]
    · conv => lhs; rw [e]
      rw [List.dropWhile_append_of_pos (by intro x hx; simpa using h1 x hx)]
      cases hc : S.drop k with
      | nil => simp
      | cons y t => have := hd y (by rw [hc]; simp); rw [List.dropWhile_cons, if_neg (by simp; omega)]
  rw [hw.1, hw.2]
end Go.Proofs.YtbfmencamaicbaaGreat

namespace Go.Proofs.YtbfmencamaicbaaGreat
open Go.RowKit Go.Sort

theorem mem_putL {S : List Int} {a x : Int} : x ∈ putL S a ↔ x ∈ S ∨ x = a := by
  unfold putL
  by_cases h : a ∈ S
  · rw [if_pos h]
    constructor
    · exact .inl
    · rintro (h' | rfl)
      · exact h'
      · exact h
  · rw [if_neg h]
    have e : x ∈ S ↔ x ∈ S.takeWhile (· < a) ∨ x ∈ S.dropWhile (· < a) := by
      conv => lhs; rw [← List.takeWhile_append_dropWhile (p := fun y => decide (y < a)) (l := S)]
      rw [List.mem_append]
    rw [List.mem_append, List.mem_cons, e]
    constructor
    · rintro (h | h | h)
      · exact .inl (.inl h)
      · exact .inr h
      · exact .inl (.inr h)
    · rintro ((h | h) | h)
      · exact .inl h
      · exact .inr (.inr h)
      · exact .inr (.inl h)
theorem drop_gt : ∀ {S : List Int} {a : Int}, S.Pairwise (· < ·) → a ∉ S → ∀ x ∈ S.dropWhile (· < a), a < x
  | [], _, _, _, x, hx => by simp at hx
  | y :: t, a, hs, hn, x, hx => by
    rw [List.pairwise_cons] at hs
    simp only [List.mem_cons, not_or] at hn
    rw [List.dropWhile_cons] at hx
    by_cases h : y < a
    · rw [if_pos (by simpa using h)] at hx
      exact drop_gt hs.2 hn.2 x hx
    · rw [if_neg (by simpa using h)] at hx
      rcases List.mem_cons.1 hx with rfl | hx
      · omega
      · have := hs.1 x hx; omega
theorem take_lt {S : List Int} {a : Int} : ∀ x ∈ S.takeWhile (· < a), x < a := by
  induction S with
  | nil => intro x hx; simp at hx
  | cons y t ih =>
    intro x hx
    rw [List.takeWhile_cons] at hx
    by_cases h : y < a
    · rw [if_pos (by simpa using h)] at hx
      rcases List.mem_cons.1 hx with rfl | hx
      · exact h
      · exact ih x hx
    · rw [if_neg (by simpa using h)] at hx
      simp at hx
theorem putL_sorted {S : List Int} (hs : S.Pairwise (· < ·)) (a : Int) : (putL S a).Pairwise (· < ·) := by
  unfold putL
  by_cases h : a ∈ S
  · rw [if_pos h]; exact hs
  · rw [if_neg h, List.pairwise_append, List.pairwise_cons]
    have hd := drop_gt hs h
    refine ⟨hs.sublist (List.takeWhile_sublist _), ⟨hd, hs.sublist (List.dropWhile_sublist _)⟩, fun x hx y hy => ?_⟩
    have h1 := take_lt x hx
    rcases List.mem_cons.1 hy with rfl | hy
    · exact h1
    · have := hd y hy; omega
theorem putL_len (S : List Int) (a : Int) : (putL S a).length ≤ S.length + 1 := by
  unfold putL
  by_cases h : a ∈ S
  · rw [if_pos h]; omega
  · rw [if_neg h, List.length_append, List.length_cons]
    have : S.length = (S.takeWhile (· < a)).length + (S.dropWhile (· < a)).length := by
      conv => lhs; rw [← List.takeWhile_append_dropWhile (p := fun y => decide (y < a)) (l := S), List.length_append]
    omega
theorem putL_new {S : List Int} {a : Int} (h : a ∉ S) : (putL S a).length = S.length + 1 := by
  unfold putL
  rw [if_neg h, List.length_append, List.length_cons]
  have : S.length = (S.takeWhile (· < a)).length + (S.dropWhile (· < a)).length := by
    conv => lhs; rw [← List.takeWhile_append_dropWhile (p := fun y => decide (y < a)) (l := S), List.length_append]
  omega
theorem setB_nil (F : Fld) : setB F [] = true := rfl
theorem setB_put {F : Fld} {S : List Int} {a : Int} (h : setB F S = true) (h0 : 0 ≤ a) (h1 : a < F.op.length) : setB F (putL S a) = true := by
  have hr := ris_iff.1 h
  refine ris_iff.2 ⟨putL_sorted hr.1 a, fun x hx => ?_⟩
  rcases mem_putL.1 hx with hx | rfl
  · exact hr.2 x hx
  · omega
theorem setB_len {F : Fld} {S : List Int} (h : setB F S = true) : S.length ≤ F.op.length := by
  rw [← set_bits h]; exact bitsL_len _ _
theorem bits_any {n b a : Nat} (ha : a < n) : (bitsL n b).any (fun x => x == (a : Int)) = b.testBit a := by
  rw [Bool.eq_iff_iff, List.any_eq_true]
  constructor
  · rintro ⟨x, hx, e⟩
    obtain ⟨h0, h1, h2⟩ := mem_bitsL.1 hx
    have e' : x = a := by simpa using e
    subst e'
    simpa using h2
  · intro h
    exact ⟨a, mem_bitsL.2 ⟨by omega, by omega, by simpa using h⟩, by simp⟩
theorem bits_put {n b a : Nat} (ha : a < n) : bitsL n (b ||| 2 ^ a) = putL (bitsL n b) a := by
  refine rising_ext (bitsL_sorted _ _) (putL_sorted (bitsL_sorted _ _) _) (fun x => ?_)
  rw [mem_putL, mem_bitsL, mem_bitsL, Nat.testBit_or, Nat.testBit_two_pow, Bool.or_eq_true, decide_eq_true_eq]
  constructor
  · rintro ⟨h0, h1, h2 | h2⟩
    · exact .inl ⟨h0, h1, h2⟩
    · exact .inr (by omega)
  · rintro (⟨h0, h1, h2⟩ | rfl)
    · exact ⟨h0, h1, .inl h2⟩
    · exact ⟨by omega, by omega, .inr (by omega)⟩
theorem bits_zero (n : Nat) : bitsL n 0 = [] := by
  have : ∀ x, x ∉ bitsL n 0 := fun x hx => by have := (mem_bitsL.1 hx).2.2; simp at this
  exact List.eq_nil_iff_forall_not_mem.2 this

/-- What a site adds to the gain of a set. -/
def moreF (F : Fld) (worth : Int) (S : List Int) (a : Int) : Int := gainF F worth (putL S a) - gainF F worth S
theorem gainF_bd {F : Fld} (hg : goodF F = true) {worth : Int} (h0 : 0 ≤ worth) (h1 : worth ≤ 999) (S : List Int) : 0 ≤ gainF F worth S ∧ gainF F worth S ≤ 6993 := by
  by_cases h : S = []
  · subst h; rw [gainF_nil]; omega
  · rw [gainF_cons h]
    have := sumTo_bd (gainAt_bd (F := F) (S := S) h0 h1 (fun i => (nearF_bd hg S i).1)) F.di.length
    have h7 := (goodF_iff.1 hg).2.2.1
    omega
theorem moreF_bd {F : Fld} (hg : goodF F = true) {worth : Int} (h0 : 0 ≤ worth) (h1 : worth ≤ 999) (S : List Int) (a : Int) : -6993 ≤ moreF F worth S a ∧ moreF F worth S a ≤ 6993 := by
  have := gainF_bd hg h0 h1 S
  have := gainF_bd hg h0 h1 (putL S a)
  unfold moreF; omega

/-- The first one of the numbers below k that may be taken with the greatest value of more than 0, and this value. -/
def pickTo (ok : Nat → Bool) (val : Nat → Int) : Nat → Int × Int
  | 0 => (-1, 0)
  | k + 1 => if ok k && decide ((pickTo ok val k).2 < val k) then ((k : Int), val k) else pickTo ok val k
theorem pick_yes {ok : Nat → Bool} {val : Nat → Int} {k : Nat} (h1 : ok k = true) (h2 : (pickTo ok val k).2 < val k) : pickTo ok val (k + 1) = ((k : Int), val k) := by
  show (if _ then _ else _) = _
  rw [if_pos (by simp [h1, h2])]
theorem pick_no {ok : Nat → Bool} {val : Nat → Int} {k : Nat} (h : ok k = false) : pickTo ok val (k + 1) = pickTo ok val k := by
  show (if _ then _ else _) = _
  rw [if_neg (by simp [h])]
theorem pick_less {ok : Nat → Bool} {val : Nat → Int} {k : Nat} (h2 : ¬ (pickTo ok val k).2 < val k) : pickTo ok val (k + 1) = pickTo ok val k := by
  show (if _ then _ else _) = _
  rw [if_neg (by simp [h2])]
theorem pick_inv (ok : Nat → Bool) (val : Nat → Int) : ∀ k, pickTo ok val k = (-1, 0) ∨ ∃ a, a < k ∧ ok a = true ∧ 0 < val a ∧ pickTo ok val k = ((a : Int), val a)
  | 0 => .inl rfl
  | k + 1 => by
    have ih := pick_inv ok val k
    by_cases h : ok k = true
    · by_cases h2 : (pickTo ok val k).2 < val k
      · refine .inr ⟨k, by omega, h, ?_, pick_yes h h2⟩
        rcases ih with e | ⟨a, _, _, h3, e⟩ <;> rw [e] at h2 <;> simp at h2 <;> omega
      · rw [pick_less h2]
        rcases ih with e | ⟨a, h1, h3⟩
        · exact .inl e
        · exact .inr ⟨a, by omega, h3⟩
    · rw [pick_no (by simpa using h)]
      rcases ih with e | ⟨a, h1, h3⟩
      · exact .inl e
      · exact .inr ⟨a, by omega, h3⟩
theorem pick_bd (ok : Nat → Bool) (val : Nat → Int) (k : Nat) : -1 ≤ (pickTo ok val k).1 ∧ (pickTo ok val k).1 < k ∧ 0 ≤ (pickTo ok val k).2 := by
  rcases pick_inv ok val k with e | ⟨a, h1, _, h3, e⟩ <;> rw [e] <;> simp <;> omega
theorem pick_neg (ok : Nat → Bool) (val : Nat → Int) (k : Nat) : (pickTo ok val k).1 < 0 ↔ (pickTo ok val k).2 = 0 := by
  rcases pick_inv ok val k with e | ⟨a, h1, _, h3, e⟩ <;> rw [e] <;> simp <;> omega
theorem pick_congr {ok ok' : Nat → Bool} {val val' : Nat → Int} : ∀ k, (∀ a, a < k → ok a = ok' a) → (∀ a, a < k → ok a = true → val a = val' a) → pickTo ok val k = pickTo ok' val' k
  | 0, _, _ => rfl
  | k + 1, h1, h2 => by
    have ih := pick_congr k (fun a ha => h1 a (by omega)) (fun a ha => h2 a (by omega))
    show (if _ then _ else _) = (if _ then _ else _)
    rw [ih, ← h1 k (by omega)]
    by_cases h : ok k = true
    · rw [h2 k (by omega) h]
    · have : ok k = false := by simpa using h
      simp [this]

/-- Which sites may be put into a set. -/
def okF (may : List Int → Bool) (S : List Int) (a : Nat) : Bool := !(S.any fun x => x == (a : Int)) && may (putL S a)
/-- The site that is taken next, and what it adds. -/
def nextTo (F : Fld) (worth : Int) (may : List Int → Bool) (S : List Int) (k : Nat) : Int × Int := pickTo (okF may S) (fun a => moreF F worth S a) k
def nextF (F : Fld) (worth : Int) (may : List Int → Bool) (S : List Int) : Int × Int := nextTo F worth may S F.op.length
/-- At most j more sites, each one with the greatest marginal gain. -/
def grd (F : Fld) (worth : Int) (may : List Int → Bool) : Nat → List Int → List Int → List Int
  | 0, out, _ => out
  | j + 1, out, S => if (nextF F worth may S).1 < 0 then out else grd F worth may j (out ++ [(nextF F worth may S).1]) (putL S (nextF F worth may S).1)
theorem grd_zero {F : Fld} {worth : Int} {may : List Int → Bool} {out S : List Int} : grd F worth may 0 out S = out := rfl
theorem grd_stop {F : Fld} {worth : Int} {may : List Int → Bool} {j : Nat} {out S : List Int} (h : (nextF F worth may S).1 < 0) : grd F worth may j out S = out := by
  cases j with
  | zero => rfl
  | succ j => exact if_pos h
theorem grd_go {F : Fld} {worth : Int} {may : List Int → Bool} {j : Nat} {out S : List Int} (h : ¬ (nextF F worth may S).1 < 0) : grd F worth may (j + 1) out S = grd F worth may j (out ++ [(nextF F worth may S).1]) (putL S (nextF F worth may S).1) := if_neg h
theorem okF_out {may : List Int → Bool} {S : List Int} {a : Nat} (h : okF may S a = true) : (a : Int) ∉ S := by
  simp only [okF, Bool.and_eq_true] at h
  intro hm
  have h1 := h.1
  rw [List.any_eq_true.2 ⟨_, hm, by simp⟩] at h1
  simp at h1
theorem next_new {F : Fld} {worth : Int} {may : List Int → Bool} {S : List Int} (h : ¬ (nextF F worth may S).1 < 0) : (nextF F worth may S).1 ∉ S ∧ (nextF F worth may S).1 < F.op.length := by
  rcases pick_inv (okF may S) (fun a => moreF F worth S a) F.op.length with e | ⟨a, h1, h2, _, e⟩
  · refine absurd ?_ h
    show (pickTo _ _ _).1 < 0
    rw [e]; simp
  · show (pickTo _ _ _).1 ∉ S ∧ (pickTo _ _ _).1 < _
    rw [e]
    exact ⟨okF_out h2, by simpa using h1⟩
theorem grd_len {F : Fld} {worth : Int} {may : List Int → Bool} : ∀ (j : Nat) (out S : List Int), (grd F worth may j out S).length ≤ out.length + j
  | 0, out, S => Nat.le_refl _
  | j + 1, out, S => by
    by_cases h : (nextF F worth may S).1 < 0
    · rw [grd_stop h]; omega
    · rw [grd_go h]
      have := grd_len (F := F) (worth := worth) (may := may) j (out ++ [(nextF F worth may S).1]) (putL S (nextF F worth may S).1)
      simp at this; omega
/-- A set of all sites has no next one. -/
theorem next_full {F : Fld} {worth : Int} {may : List Int → Bool} {S : List Int} (hs : setB F S = true) (hl : S.length = F.op.length) : (nextF F worth may S).1 < 0 := by
  by_cases h : (nextF F worth may S).1 < 0
  · exact h
  · obtain ⟨h1, h2⟩ := next_new h
    have h3 := setB_len (setB_put hs (by omega) h2)
    rw [putL_new h1] at h3
    omega
end Go.Proofs.YtbfmencamaicbaaGreat

namespace Go.Proofs.YtbfmencamaicbaaGreat

/-- compact of a list that never falls. -/
theorem compactTo_spec (d : Array Int) (hs : ∀ i j, i < j → j < d.size → d[i]! ≤ d[j]!) : ∀ m, m ≤ d.size → (Lib.compactUpTo d m).Pairwise (· < ·) ∧ (∀ x, x ∈ Lib.compactUpTo d m ↔ ∃ i, i < m ∧ d[i]! = x)
  | 0, _ => by constructor <;> simp [Lib.compactUpTo]
  | m + 1, hm => by
    obtain ⟨h1, h2⟩ := compactTo_spec d hs m (by omega)
    rw [Lib.compactUpTo_succ]
    by_cases hk : Lib.keeps d m = true
    · rw [if_pos hk]
      constructor
      · rw [List.pairwise_append]
        refine ⟨h1, by simp, fun a ha b hb => ?_⟩
        obtain ⟨i, hi, rfl⟩ := (h2 a).1 ha
        obtain rfl : b = d[m]! := by simpa using hb
        by_cases e : m = 0
        · omega
        · have hle : d[i]! ≤ d[m - 1]! := by
            by_cases e2 : i = m - 1
            · rw [e2]; exact Int.le_refl _
            · exact hs i (m - 1) (by omega) (by omega)
          have h3 := hs (m - 1) m (by omega) (by omega)
          have h4 : d[m]! ≠ d[m - 1]! := fun h => by rw [Lib.keeps_neg (by omega) h] at hk; cases hk
          omega
      · intro x
        rw [List.mem_append, h2]
        constructor
        · rintro (⟨i, hi, e⟩ | h)
          · exact ⟨i, by omega, e⟩
          · rw [List.mem_singleton] at h; exact ⟨m, by omega, h.symm⟩
        · rintro ⟨i, hi, e⟩
          by_cases e2 : i = m
          · subst e2; exact .inr (List.mem_singleton.2 e.symm)
          · exact .inl ⟨i, by omega, e⟩
    · rw [if_neg hk, List.append_nil]
      refine ⟨h1, fun x => ?_⟩
      rw [h2]
      constructor
      · rintro ⟨i, hi, e⟩; exact ⟨i, by omega, e⟩
      · rintro ⟨i, hi, e⟩
        by_cases e2 : i = m
        · subst e2
          have h0 : 0 < i := by
            rcases Nat.eq_zero_or_pos i with h | h
            · subst h; exact absurd (Lib.keeps_lt_one d 0 (by omega)) hk
            · exact h
          by_cases e3 : d[i]! = d[i - 1]!
          · exact ⟨i - 1, by omega, by rw [← e3]; exact e⟩
          · exact absurd (Lib.keeps_pos e3) hk
        · exact ⟨i, by omega, e⟩
theorem compact_spec {xs : List Int} (hs : xs.Pairwise (· ≤ ·)) : (Lib.compact xs).Pairwise (· < ·) ∧ ∀ x, x ∈ Lib.compact xs ↔ x ∈ xs := by
  have hg : ∀ i, i < xs.length → xs.toArray[i]! = xs[i]! := fun i hi => by simp
  obtain ⟨h1, h2⟩ := compactTo_spec xs.toArray (fun i j hij hj => by
    have hj' : j < xs.length := by simpa using hj
    rw [hg i (by omega), hg j hj']
    rw [getElem!_pos xs i (by omega), getElem!_pos xs j hj']
    exact List.pairwise_iff_getElem.1 hs i j (by omega) hj' hij) xs.toArray.size (Nat.le_refl _)
  have e0 : Lib.compact xs = Lib.compactUpTo xs.toArray xs.toArray.size := by unfold Lib.compact; simp
  refine ⟨by rw [e0]; exact h1, fun x => ?_⟩
  rw [e0, h2]
  constructor
  · rintro ⟨i, hi, rfl⟩
    have hi' : i < xs.length := by simpa using hi
    rw [hg i hi', getElem!_pos xs i hi']
    exact List.getElem_mem _
  · intro h
    obtain ⟨i, hi, rfl⟩ := List.getElem_of_mem h
    exact ⟨i, by simpa using hi, by rw [hg i hi, getElem!_pos xs i hi]⟩
theorem compact_len (xs : List Int) : (Lib.compact xs).length ≤ xs.length := by
  have : ∀ m, (Lib.compactUpTo xs.toArray m).length ≤ m := fun m => by
    induction m with
    | zero => simp [Lib.compactUpTo]
    | succ m ih =>
      rw [Lib.compactUpTo_succ, List.length_append]
      have : (if Lib.keeps xs.toArray m then [xs.toArray[m]!] else []).length ≤ 1 := by split <;> simp
      omega
  have h := this xs.toArray.size
  unfold Lib.compact
  simpa using h
end Go.Proofs.YtbfmencamaicbaaGreat

namespace Go.Proofs.YtbfmencamaicbaaGreat
open Go.RowKit Go.Sort

/-- Which of two lists comes first, number by number. -/
def lexC : List Int → List Int → Int
  | [], [] => 0
  | [], _ :: _ => -1
  | _ :: _, [] => 1
  | x :: xs, y :: ys => if x < y then -1 else if y < x then 1 else lexC xs ys
theorem lexC_anti : ∀ a b : List Int, lexC b a = - lexC a b
  | [], [] => rfl
  | [], _ :: _ => rfl
  | _ :: _, [] => rfl
  | x :: xs, y :: ys => by
    unfold lexC
    have ih := lexC_anti xs ys
    by_cases h1 : x < y
    · simp [h1, show ¬ y < x by omega]
    · by_cases h2 : y < x
      · simp [h1, h2]
      · simp [h1, h2]; exact ih
theorem lexC_zero : ∀ a b : List Int, lexC a b = 0 → a = b
  | [], [], _ => rfl
  | [], _ :: _, h => by simp [lexC] at h
  | _ :: _, [], h => by simp [lexC] at h
  | x :: xs, y :: ys, h => by
    unfold lexC at h
    by_cases h1 : x < y
    · rw [if_pos h1] at h; omega
    · by_cases h2 : y < x
      · rw [if_neg h1, if_pos h2] at h; omega
      · rw [if_neg h1, if_neg h2] at h
        rw [lexC_zero xs ys h, show x = y by omega]
theorem lexC_trans : ∀ a b c : List Int, lexC a b < 0 → lexC b c < 0 → lexC a c < 0
  | [], [], _, h, _ => by simp [lexC] at h
  | [], _ :: _, [], _, h => by simp [lexC] at h
  | [], _ :: _, _ :: _, _, _ => by simp [lexC]
  | _ :: _, [], _, h, _ => by simp [lexC] at h
  | _ :: _, _ :: _, [], _, h => by simp [lexC] at h
  | x :: xs, y :: ys, z :: zs, h, h' => by
    unfold lexC at h h' ⊢
    have ih := lexC_trans xs ys zs
    by_cases h1 : x < y
    · by_cases h2 : z < y
      · rw [if_neg (by omega), if_pos h2] at h'; omega
      · rw [if_pos (by omega)]; omega
    · by_cases h2 : y < x
      · rw [if_neg h1, if_pos h2] at h; omega
      · rw [if_neg h1, if_neg h2] at h
        have e : x = y := by omega
        subst e
        by_cases h3 : x < z
        · rw [if_pos h3]; omega
        · by_cases h4 : z < x
          · rw [if_neg h3, if_pos h4] at h'; omega
          · rw [if_neg h3, if_neg h4] at h' ⊢
            exact ih h h'
/-- First by how many there are, then number by number. -/
def cmpS (a b : List Int) : Int := if a.length < b.length then -1 else if b.length < a.length then 1 else lexC a b
def befB (a b : List Int) : Bool := decide (cmpS a b < 0)
theorem cmpS_anti (a b : List Int) : cmpS b a = - cmpS a b := by
  unfold cmpS
  by_cases h1 : a.length < b.length
  · simp [h1, show ¬ b.length < a.length by omega]
  · by_cases h2 : b.length < a.length
    · simp [h1, h2]
    · simp [h1, h2]; exact lexC_anti a b
theorem cmpS_zero {a b : List Int} (h : cmpS a b = 0) : a = b := by
  unfold cmpS at h
  by_cases h1 : a.length < b.length
  · rw [if_pos h1] at h; omega
  · by_cases h2 : b.length < a.length
    · rw [if_neg h1, if_pos h2] at h; omega
    · rw [if_neg h1, if_neg h2] at h; exact lexC_zero a b h
theorem cmpS_trans {a b c : List Int} (h : cmpS a b < 0) (h' : cmpS b c < 0) : cmpS a c < 0 := by
  unfold cmpS at *
  by_cases h1 : a.length < c.length
  · rw [if_pos h1]; omega
  · have hb : ¬ b.length < a.length := fun hh => by rw [if_neg (by omega), if_pos hh] at h; omega
    have hc : ¬ c.length < b.length := fun hh => by rw [if_neg (by omega), if_pos hh] at h'; omega
    rw [if_neg (by omega), if_neg hb] at h
    rw [if_neg (by omega), if_neg hc] at h'
    rw [if_neg h1, if_neg (by omega)]
    exact lexC_trans a b c h h'
theorem befB_irrefl (a : List Int) : befB a a = false := by
  have := cmpS_anti a a
  simp [befB]; omega
theorem befB_trans {a b c : List Int} (h : befB a b = true) (h' : befB b c = true) : befB a c = true := by
  simp only [befB, decide_eq_true_eq] at *; exact cmpS_trans h h'
theorem befB_total {a b : List Int} (h : befB a b = false) (h' : befB b a = false) : a = b := by
  simp only [befB, decide_eq_false_iff_not] at *
  have := cmpS_anti a b
  exact cmpS_zero (by omega)
theorem befB_asymm {a b : List Int} (h : befB a b = true) : befB b a = false := by
  cases h' : befB b a with
  | false => rfl
  | true => have := befB_trans h h'; rw [befB_irrefl] at this; cases this
/-- What is not behind. -/
def notB (a b : List Int) : Bool := !befB b a
theorem notB_trans (a b c : List Int) (h : notB a b = true) (h' : notB b c = true) : notB a c = true := by
  simp only [notB, Bool.not_eq_true'] at *
  by_cases e1 : a = b
  · subst e1; exact h'
  by_cases e2 : b = c
  · subst e2; exact h
  have g1 : befB a b = true := by
    cases hh : befB a b with
    | true => rfl
    | false => exact absurd (befB_total hh h) e1
  have g2 : befB b c = true := by
    cases hh : befB b c with
    | true => rfl
    | false => exact absurd (befB_total hh h') e2
  exact befB_asymm (befB_trans g1 g2)
theorem notB_total (a b : List Int) : (notB a b || notB b a) = true := by
  cases h : befB b a with
  | false => simp [notB, h]
  | true => simp [notB, befB_asymm h]
/-- The codes of the sets with at least one member, in the order of codes. -/
def codesL (n : Nat) : List (List Int) := (List.range (2 ^ n - 1)).map fun c => bitsL n (c + 1)
def setsL (n : Nat) : List (List Int) := (codesL n).mergeSort notB
theorem setsL_perm (n : Nat) : (setsL n).Perm (codesL n) := List.mergeSort_perm _ _
theorem setsL_len (n : Nat) : (setsL n).length = 2 ^ n - 1 := by rw [(setsL_perm n).length_eq]; simp [codesL]
theorem bitsL_inj {n a b : Nat} (ha : a < 2 ^ n) (hb : b < 2 ^ n) (h : bitsL n a = bitsL n b) : a = b := by
  apply Nat.eq_of_testBit_eq
  intro i
  by_cases hi : i < n
  · have h1 := mem_bitsL (n := n) (b := a) (x := (i : Int))
    have h2 := mem_bitsL (n := n) (b := b) (x := (i : Int))
    rw [h] at h1
    have h3 := h1.symm.trans h2
    rw [Bool.eq_iff_iff]
    simp only [Int.toNat_natCast] at h3
    constructor
    · intro hx; exact (h3.1 ⟨by omega, by omega, hx⟩).2.2
    · intro hx; exact (h3.2 ⟨by omega, by omega, hx⟩).2.2
  · rw [Nat.testBit_lt_two_pow (Nat.lt_of_lt_of_le ha (Nat.pow_le_pow_right (by omega) (by omega))), Nat.testBit_lt_two_pow (Nat.lt_of_lt_of_le hb (Nat.pow_le_pow_right (by omega) (by omega)))]
theorem codesL_nodup (n : Nat) : (codesL n).Nodup := by
  unfold codesL List.Nodup
  rw [List.pairwise_map]
  refine (List.pairwise_iff_getElem.2 ?_)
  intro i j hi hj hij e
  have hi' : i < 2 ^ n - 1 := by simpa using hi
  have hj' : j < 2 ^ n - 1 := by simpa using hj
  simp only [List.getElem_range] at e
  have := bitsL_inj (n := n) (by omega) (by omega) e
  omega
theorem setsL_nodup (n : Nat) : (setsL n).Nodup := (setsL_perm n).nodup_iff.2 (codesL_nodup n)
theorem setsL_sorted (n : Nat) : (setsL n).Pairwise (fun a b => befB a b = true) := by
  have h1 : (setsL n).Pairwise (fun a b => notB a b = true) := List.pairwise_mergeSort notB_trans notB_total _
  have h2 := setsL_nodup n
  rw [List.pairwise_iff_getElem] at h1 ⊢
  unfold List.Nodup at h2
  rw [List.pairwise_iff_getElem] at h2
  intro i j hi hj hij
  have h3 := h1 i j hi hj hij
  have h4 := h2 i j hi hj hij
  simp only [notB, Bool.not_eq_true'] at h3
  cases hh : befB (setsL n)[i] (setsL n)[j] with
  | true => rfl
  | false => exact absurd (befB_total hh h3) h4
/-- There is one list of all sets in order. -/
theorem setsL_uniq {n : Nat} {l : List (List Int)} (hp : l.Perm (codesL n)) (hs : l.Pairwise (fun a b => befB a b = true)) : l = setsL n :=
  List.Perm.eq_of_pairwise (le := fun a b => befB a b = true) (fun a b _ _ h h' => by have := befB_asymm h; rw [h'] at this; cases this) hs (setsL_sorted n) (hp.trans (setsL_perm n).symm)
theorem mem_codesL {n : Nat} {S : List Int} : S ∈ codesL n ↔ S ≠ [] ∧ risB S 0 ((n : Int) - 1) = true := by
  constructor
  · intro h
    simp only [codesL, List.mem_map, List.mem_range] at h
    obtain ⟨c, hc, rfl⟩ := h
    refine ⟨fun e => ?_, bitsL_ris _ _ _ (Int.le_refl _)⟩
    have h0 : bitsL n 0 = [] := by simp [bitsL, bitsN]
    have := bitsL_inj (n := n) (a := c + 1) (b := 0) (by omega) (Nat.two_pow_pos n) (e.trans h0.symm)
    omega
  · rintro ⟨hne, hr⟩
    have hr' := ris_iff.1 hr
    have hm : ∀ y ∈ S, 0 ≤ y ∧ y < n := fun y hy => by have := hr'.2 y hy; omega
    have hb := bits_bag hr'.1 hm
    have hlt := bagN_lt hm
    simp only [codesL, List.mem_map, List.mem_range]
    have hpos : 0 < bagN S := by
      rcases Nat.eq_zero_or_pos (bagN S) with h | h
      · rw [h] at hb; exact absurd (by rw [← hb]; simp [bitsL, bitsN]) hne
      · exact h
    exact ⟨bagN S - 1, by omega, by rw [Nat.sub_add_cancel hpos]; exact hb⟩
theorem mem_setsL {n : Nat} {S : List Int} : S ∈ setsL n ↔ S ≠ [] ∧ risB S 0 ((n : Int) - 1) = true := (setsL_perm n).mem_iff.trans mem_codesL
theorem risB_len {n : Nat} {S : List Int} (h : risB S 0 ((n : Int) - 1) = true) : S.length ≤ n := by
  have hr' := ris_iff.1 h
  have hm : ∀ y ∈ S, 0 ≤ y ∧ y < n := fun y hy => by have := hr'.2 y hy; omega
  have := bitsL_len n (bagN S)
  rwa [bits_bag hr'.1 hm] at this
/-- The first one with the least value. -/
def bestStep (v : List Int → Int) (b s : List Int) : List Int := if v s < v b then s else b
def bestL (v : List Int → Int) (l : List (List Int)) : List Int := l.foldl (bestStep v) (l.getD 0 [])
end Go.Proofs.YtbfmencamaicbaaGreat

namespace Go.Proofs.YtbfmencamaicbaaGreat
open Go.RowKit Go.Sort

/-- All numbers of a list, each once, as the reference puts them in. -/
def putAllL (xs : List Int) : List Int := xs.foldl putL []
theorem putFold_mem : ∀ (xs S : List Int) (x : Int), x ∈ xs.foldl putL S ↔ x ∈ S ∨ x ∈ xs
  | [], S, x => by simp
  | y :: t, S, x => by
    rw [List.foldl_cons, putFold_mem t, mem_putL]
    simp only [List.mem_cons]
    constructor
    · rintro ((h | h) | h)
      · exact .inl h
      · exact .inr (.inl h)
      · exact .inr (.inr h)
    · rintro (h | h | h)
      · exact .inl (.inl h)
      · exact .inl (.inr h)
      · exact .inr h
theorem putFold_sorted : ∀ (xs S : List Int), S.Pairwise (· < ·) → (xs.foldl putL S).Pairwise (· < ·)
  | [], S, h => h
  | y :: t, S, h => by rw [List.foldl_cons]; exact putFold_sorted t _ (putL_sorted h y)
theorem putFold_len : ∀ (xs S : List Int), (xs.foldl putL S).length ≤ S.length + xs.length
  | [], S => by simp
  | y :: t, S => by
    rw [List.foldl_cons]
    have := putFold_len t (putL S y)
    have := putL_len S y
    simp only [List.length_cons]
    omega
/-- All lengths, each once. -/
def lensF (F : Fld) : List Int := Lib.compact (F.di.flatten.mergeSort fun x y => decide (x ≤ y))
/-- With 0. -/
def reachL (F : Fld) : List Int := Lib.compact (0 :: lensF F)
theorem lensF_spec (F : Fld) : (lensF F).Pairwise (· < ·) ∧ ∀ x, x ∈ lensF F ↔ x ∈ F.di.flatten := by
  have hs : (F.di.flatten.mergeSort fun x y => decide (x ≤ y)).Pairwise (· ≤ ·) := by
    have h := List.pairwise_mergeSort (le := fun x y : Int => decide (x ≤ y)) (fun a b c h1 h2 => decide_eq_true (Int.le_trans (of_decide_eq_true h1) (of_decide_eq_true h2))) (fun a b => by rcases Int.le_total a b with h | h <;> simp [h]) F.di.flatten
    exact h.imp (fun h => of_decide_eq_true h)
  obtain ⟨h1, h2⟩ := compact_spec hs
  exact ⟨h1, fun x => by unfold lensF; rw [h2, List.mem_mergeSort]⟩
theorem lensF_len (F : Fld) : (lensF F).length ≤ F.di.flatten.length := by
  have := compact_len (F.di.flatten.mergeSort fun x y => decide (x ≤ y))
  unfold lensF
  simpa using this
theorem reachL_len (F : Fld) : (reachL F).length ≤ F.di.flatten.length + 1 := by
  have := compact_len (0 :: lensF F)
  have := lensF_len F
  unfold reachL
  simp only [List.length_cons] at *
  omega
theorem dist_pos {F : Fld} (hg : goodF F = true) : ∀ x ∈ F.di.flatten, 0 ≤ x ∧ x ≤ 99 := fun x hx => by
  obtain ⟨r, hr, hx2⟩ := List.mem_flatten.1 hx
  exact ((goodF_iff.1 hg).2.2.2 r hr).1 x hx2
theorem reachL_eq {F : Fld} (hg : goodF F = true) : reachL F = putL (putAllL F.di.flatten) 0 := by
  obtain ⟨h1, h2⟩ := lensF_spec F
  have hs : (0 :: lensF F).Pairwise (· ≤ ·) := by
    rw [List.pairwise_cons]
    refine ⟨fun x hx => (dist_pos hg x ((h2 x).1 hx)).1, h1.imp (fun h => Int.le_of_lt h)⟩
  obtain ⟨h3, h4⟩ := compact_spec hs
  refine rising_ext h3 (putL_sorted (putFold_sorted _ _ List.Pairwise.nil) 0) (fun x => ?_)
  unfold reachL putAllL
  rw [h4, mem_putL, putFold_mem, List.mem_cons, h2]
  simp only [List.not_mem_nil, false_or]
  exact Or.comm
theorem flat_len49 {F : Fld} (hg : goodF F = true) : F.di.flatten.length ≤ 49 := by
  obtain ⟨h1, _, h3, h4⟩ := goodF_iff.1 hg
  have : ∀ rows : List (List Int), (∀ r ∈ rows, r.length ≤ 7) → rows.flatten.length ≤ rows.length * 7 := by
    intro rows
    induction rows with
    | nil => simp
    | cons r t ih =>
      intro h
      have := ih (fun r hr => h r (List.mem_cons_of_mem _ hr))
      have := h r List.mem_cons_self
      simp only [List.flatten_cons, List.length_append, List.length_cons]
      omega
  have := this F.di (fun r hr => by have := (h4 r hr).2; omega)
  omega
/-- The first one of which something is so. -/
def firstR (p : Int → Bool) (xs : List Int) : Option Int := xs.find? p
/-- A set of at most k sites serves all needs within r. -/
noncomputable def someB (F : Fld) (rooms needs : List Int) (k : Int) (r : Int) : Bool := (setsL F.op.length).any fun S => decide ((S.length : Int) ≤ k) && csB F rooms needs S r
def rrOk (F : Fld) (rooms needs : List Int) (k : Int) : Bool := goodF F && inB k 1 F.op.length && needsB F rooms needs
noncomputable def rrO (F : Fld) (rooms needs : List Int) (k : Int) : Option Int := if rrOk F rooms needs k = true then (reachL F).find? (someB F rooms needs k) else none
noncomputable def rrV (F : Fld) (rooms needs : List Int) (k : Int) : Int := (rrO F rooms needs k).getD 0
noncomputable def rrB (F : Fld) (rooms needs : List Int) (k : Int) : Bool := (rrO F rooms needs k).isSome
theorem rr_no {F : Fld} {rooms needs : List Int} {k : Int} (h : rrOk F rooms needs k = false) : Ending.returned (.tuple #[.int .i64 0, .bool false]) = .returned (.tuple #[.int .i64 (rrV F rooms needs k), .bool (rrB F rooms needs k)]) := by
  unfold rrV rrB rrO; rw [h]; rfl
theorem find_at {p : Int → Bool} {xs : List Int} {i : Nat} (hi : i < xs.length) (hn : ∀ j, j < i → ∀ h : j < xs.length, p xs[j] = false) (hy : p xs[i] = true) : xs.find? p = some xs[i] := by
  rw [List.find?_eq_some_iff_getElem]
  exact ⟨hy, i, hi, rfl, fun j hj => by rw [hn j hj (by omega)]; rfl⟩
theorem find_none {p : Int → Bool} {xs : List Int} (hn : ∀ j, j < xs.length → ∀ h : j < xs.length, p xs[j] = false) : xs.find? p = none := by
  rw [List.find?_eq_none]
  intro x hx
  obtain ⟨i, hi, rfl⟩ := List.getElem_of_mem hx
  rw [hn i hi hi]; simp
theorem rr_at {F : Fld} {rooms needs : List Int} {k : Int} (h : rrOk F rooms needs k = true) {i : Nat} (hi : i < (reachL F).length) (hn : ∀ j, j < i → ∀ h : j < (reachL F).length, someB F rooms needs k (reachL F)[j] = false) (hy : someB F rooms needs k (reachL F)[i] = true) :
    Ending.returned (.tuple #[.int .i64 (reachL F)[i], .bool true]) = .returned (.tuple #[.int .i64 (rrV F rooms needs k), .bool (rrB F rooms needs k)]) := by
  unfold rrV rrB rrO; rw [h, if_pos rfl, find_at hi hn hy]; rfl
theorem rr_end {F : Fld} {rooms needs : List Int} {k : Int} (h : rrOk F rooms needs k = true) (hn : ∀ j, j < (reachL F).length → ∀ h : j < (reachL F).length, someB F rooms needs k (reachL F)[j] = false) :
    Ending.returned (.tuple #[.int .i64 0, .bool false]) = .returned (.tuple #[.int .i64 (rrV F rooms needs k), .bool (rrB F rooms needs k)]) := by
  unfold rrV rrB rrO; rw [h, if_pos rfl, find_none hn]; rfl
theorem someB_iff {F : Fld} {rooms needs : List Int} {k r : Int} : someB F rooms needs k r = ((setsL F.op.length).filter fun S => decide ((S.length : Int) ≤ k)).any fun S => csB F rooms needs S r := by
  unfold someB
  rw [List.any_filter]
end Go.Proofs.YtbfmencamaicbaaGreat

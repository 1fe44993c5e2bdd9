/- RoomReach: the program; The best one is no worse than any; FnRooms, plain: needs can be served within a radius exactly if no clients need more than they reach; the best rooms; the reach; PaymentOf: the program; FnRooms, plain: the best rooms against those of all sets; the parts of a number; The best set of a field and its total: reference and program. No condition. -/
import Derived.Test.YtpiijhfjliolfaaGreatQAx
import Derived.Test.YtpiijhfjliolfaaGreatQAh
import Derived.Test.YtpiijhfjliolfaaGreatQAf
import Derived.Test.YtpiijhfjliolfaaGreatQAw
import Derived.Test.YtpiijhfjliolfaaGreatQAv
import Derived.Test.YtpiijhfjliolfaaGreatQAc
namespace Go.Proofs.YtpiijhfjliolfaaGreat
open Go.RowKit Go.Sort

theorem rrOk_mc {F : Fld} {rooms needs : List Int} {k : Int} : rrOk F rooms needs k = (mcB F k && needsB F rooms needs) := rfl
theorem rr_haul {F : Fld} {rooms needs : List Int} (hg : goodF F = true) (hn : needsB F rooms needs = true) {S : List Int} (hs : S ∈ setsL F.op.length) : HaulP F rooms needs S := by
  obtain ⟨h1, h2⟩ := mem_setsL.1 hs
  refine haul_p ?_
  unfold haulB
  rw [hn, Bool.and_true]
  unfold openedB
  rw [hg, show setB F S = true from h2, decide_eq_true (List.length_pos_iff.2 h1)]; rfl
theorem own_oneR (w : World) (base : Nat) (a : Int) (hb : base ≤ w.heap.size) : Own (w.alloc (.cells #[.int .i64 a] 3)) base (.slice (some ⟨w.heap.size, 0, none⟩) 1 1) [a] :=
  World.ownsRow_lit w #[.int .i64 a] 1 hb (by unfold maxLen; omega) (by simp)
set_option maxRecDepth 100000 in
set_option maxHeartbeats 1000000 in
theorem rrClo_any (F : Fld) (rooms needs : List Int) (r : Int) (pf pr pn pq : Nat) (A B A1 A2 : Option Addr) (c d n1 c1 n2 c2 : Nat) (w : World) (hf : FldAt w (.agg #[.slice A F.op.length c, .slice B F.di.length d]) F) (x0 : w.cell? ⟨pf, 0, none⟩ = some (.slice A F.op.length c)) (x1 : w.cell? ⟨pf, 1, none⟩ = some (.slice B F.di.length d))
    (y1 : w.cell? ⟨pr, 0, none⟩ = some (.slice A1 n1 c1)) (y2 : w.cell? ⟨pn, 0, none⟩ = some (.slice A2 n2 c2)) (y3 : w.cell? ⟨pq, 0, none⟩ = some (.int .i64 r)) (h1 : IntsAt w A1 rooms) (hn1 : rooms.length = n1) (h2 : IntsAt w A2 needs) (hn2 : needs.length = n2)
    (Av : Option Addr) (S : List Int) (n cv : Nat) (hi : IntsAt w Av S) (hn : S.length = n) (hP : HaulP F rooms needs S) :
    Calls Tryz.prog 51 #[.slice Av n cv, .pointer (some ⟨pf, 0, none⟩), .pointer (some ⟨pr, 0, none⟩), .pointer (some ⟨pn, 0, none⟩), .pointer (some ⟨pq, 0, none⟩)] w fun e w' => e = .returned (.bool (csB F rooms needs S r)) ∧ Kp w w' := by
  have CC := Lib.hid (fun (wx : World) (hx : Kp w wx) => canServe_any _ F A1 rooms n1 c1 A2 needs n2 c2 Av S n cv r wx (hf.kp hx) (h1.kp hx) hn1 (h2.kp hx) hn2 (hi.kp hx) hn hP)
  clear hf h1 h2 hi hP hn1 hn2 hn
  go_enter Tryz.func51, Tryz.ntmps51
  go_wp2_with fail
  with_reducible refine Calls.mono (CC.out _ (by repeat (first | with_reducible assumption | with_reducible exact Kp.refl _ | with_reducible refine Kp.drew ?_ | with_reducible refine Kp.alloc ?_ _ | with_reducible refine Kp.drewN ?_ _ | refine Kp.setCell ?_ (by dsimp only; omega) _))) ?_
  rintro e w1 ⟨rfl, hk⟩
  clear CC
  go_wp2_with fail
  go_ret
  exact ⟨rfl, hk⟩
set_option maxRecDepth 100000 in
set_option maxHeartbeats 2000000 in
theorem implRr_any (f : Value) (F : Fld) (A1 : Option Addr) (rooms : List Int) (n1 c1 : Nat) (A2 : Option Addr) (needs : List Int) (n2 c2 : Nat) (k : Int) (w : World) (hf : FldAt w f F) (h1 : IntsAt w A1 rooms) (hn1 : rooms.length = n1) (h2 : IntsAt w A2 needs) (hn2 : needs.length = n2) :
    Calls Tryz.prog 15 #[f, .slice A1 n1 c1, .slice A2 n2 c2, .int .i64 k] w fun e w' => e = .returned (.tuple #[.int .i64 (rrV F rooms needs k), .bool (rrB F rooms needs k)]) ∧ Kp w w' := by
  obtain ⟨A, c, B, d, rfl, hA, hB⟩ := hf
  have hmf : ∀ (fn : Fn) (first cap : Array Value) (w : World), (Instr.makeFunc fn first cap).run Tryz.prog w = .ok (.func fn first cap) w := fun _ _ _ _ => rfl
  have hk1 : Kp w (w.alloc (.cells #[.slice A F.op.length c, .slice B F.di.length d] 27)) := (Kp.refl w).alloc _
  have hk2 := hk1.alloc (.cells #[.slice A1 n1 c1] 24)
  have hk0 := hk2.alloc (.cells #[.slice A2 n2 c2] 24)
  obtain ⟨d0, d1⟩ := box2 w (.slice A F.op.length c) (.slice B F.di.length d) 27
  have g0 := ((Kp.refl _).alloc (.cells #[.slice A2 n2 c2] 24)).get (((Kp.refl _).alloc (.cells #[.slice A1 n1 c1] 24)).get d0)
  have g1 := ((Kp.refl _).alloc (.cells #[.slice A2 n2 c2] 24)).get (((Kp.refl _).alloc (.cells #[.slice A1 n1 c1] 24)).get d1)
  have g2 : (((w.alloc (.cells #[.slice A F.op.length c, .slice B F.di.length d] 27)).alloc (.cells #[.slice A1 n1 c1] 24)).alloc (.cells #[.slice A2 n2 c2] 24)).cell? ⟨w.heap.size + 1, 0, none⟩ = some (.slice A1 n1 c1) := by
    rw [World.cell?_alloc_past _ _ _ (by simp only [World.size_alloc]; omega), World.cell?_alloc_at _ _ _ _ (by simp)]; rfl
  have g3 : (((w.alloc (.cells #[.slice A F.op.length c, .slice B F.di.length d] 27)).alloc (.cells #[.slice A1 n1 c1] 24)).alloc (.cells #[.slice A2 n2 c2] 24)).cell? ⟨w.heap.size + 1 + 1, 0, none⟩ = some (.slice A2 n2 c2) := by
    rw [World.cell?_alloc_at _ _ _ _ (by simp)]; rfl
  have hFA := FldAt.kp (show FldAt w (.agg #[.slice A F.op.length c, .slice B F.di.length d]) F from ⟨A, c, B, d, rfl, hA, hB⟩) hk0
  replace h1 := h1.kp hk0
  replace h2 := h2.kp hk0
  have Hn1 := Lib.hid hn1; have Hn2 := Lib.hid hn2
  have hsz : Hid ((((w.alloc (.cells #[.slice A F.op.length c, .slice B F.di.length d] 27)).alloc (.cells #[.slice A1 n1 c1] 24)).alloc (.cells #[.slice A2 n2 c2] 24)).heap.size = w.heap.size + 1 + 1 + 1) := by show _ = _; simp
  clear hA hB hn1 hn2 d0 d1 hk1 hk2
  go_enter Tryz.func15, Tryz.ntmps15
  go_wp2_with fail
  generalize ((w.alloc (.cells #[.slice A F.op.length c, .slice B F.di.length d] 27)).alloc (.cells #[.slice A1 n1 c1] 24)).alloc (.cells #[.slice A2 n2 c2] 24) = wb at *
  have hkb : Kp wb wb := Kp.refl _
  have hkw := hk0
  have CC := Lib.hid (isMedianCase_any _ F k _ (hFA.kp hkb))
  with_reducible refine Calls.mono CC.out ?_
  rintro e w1 ⟨rfl, hk1⟩
  clear CC
  replace hkb := hkb.trans hk1
  cases hm_ : mcB F k
  · have Hno : Hid (rrOk F rooms needs k = false) := by show _ = _; rw [rrOk_mc, hm_]; rfl
    clear hm_
    have q_g0 := hkb.get g0
    have q_g1 := hkb.get g1
    have q_g2 := hkb.get g2
    have q_g3 := hkb.get g3
    go_wp2_with fail
    go_ret2
    exact ⟨rr_no Hno.out, hkw.trans hkb⟩
  have HM := Lib.hid hm_; clear hm_
  have q_g0 := hkb.get g0
  have q_g1 := hkb.get g1
  have q_g2 := hkb.get g2
  have q_g3 := hkb.get g3
  go_wp2_with fail
  have CC := Lib.hid (areNeeds_any _ F A1 rooms n1 c1 A2 needs n2 c2 _ (hFA.kp hkb) (h1.kp hkb) Hn1.out (h2.kp hkb) Hn2.out)
  with_reducible refine Calls.mono CC.out ?_
  rintro e w2 ⟨rfl, hk2⟩
  clear CC q_g0 q_g1 q_g2 q_g3
  replace hkb := hkb.trans hk2
  cases hn_ : needsB F rooms needs
  · have Hno : Hid (rrOk F rooms needs k = false) := by show _ = _; rw [rrOk_mc, hn_, Bool.and_false]
    clear hn_
    have q_g0 := hkb.get g0
    have q_g1 := hkb.get g1
    have q_g2 := hkb.get g2
    have q_g3 := hkb.get g3
    go_wp2_with fail
    go_ret2
    exact ⟨rr_no Hno.out, hkw.trans hkb⟩
  have HN := Lib.hid hn_; clear hn_
  have HOk : Hid (rrOk F rooms needs k = true) := by show _ = _; rw [rrOk_mc, HM.out, HN.out]; rfl
  have HG : Hid (goodF F = true) := by
    show _ = _
    have := HM.out
    unfold mcB at this
    exact (Bool.and_eq_true _ _ ▸ this).1
  have HL := Lib.hid (flat_len49 HG.out)
  have HL2 := Lib.hid (lensF_len F)
  have HL3 := Lib.hid (reachL_len F)
  have ho0 := own_oneR w2 w2.heap.size 0 (Nat.le_refl _)
  have hsx : (w2.alloc (.cells #[.int .i64 0] 3)).heap.size = w2.heap.size + 1 := by simp
  have hkx : Kp w2 (w2.alloc (.cells #[.int .i64 0] 3)) := (Kp.refl w2).alloc _
  have v0 := hkx.get (hkb.get g0)
  have v1 := hkx.get (hkb.get g1)
  have CC := Lib.hid (allLengths_any _ F (w2.alloc (.cells #[.int .i64 0] 3)) (hFA.kp (hkb.trans hkx)) HG.out)
  have q_g0 := hkb.get g0
  have q_g1 := hkb.get g1
  have q_g2 := hkb.get g2
  have q_g3 := hkb.get g3
  go_wp2_with fail
  with_reducible refine Calls.mono CC.out ?_
  rintro e w3 ⟨Al, cl, rfl, hcl, hil, hk3⟩
  clear CC
  have ho3 := ho0.kp hk3
  have hk23 : Kp w2 w3 := hkx.trans hk3
  have hbase3 := hk23.le
  have hlen3 : ([0] : List Int).length + (lensF F).length ≤ 4194304 := by have := HL.out; have := HL2.out; simp; omega
  go_wp2_with (at_builtin; go_loud (refine wpl_app_all rfl (.tmp 23) (.tmp 25) rfl w2.heap.size _ [0] (lensF F) Al (lensF F).length cl rfl rfl ho3 hil rfl hbase3 hlen3 ?_); intro v4 w4 ho4 ht4 h44)
  have hk24 : Kp w2 w4 := hk23.turn ht4 (fun i hi => (ho3.lt i hi).1)
  have CC := Lib.hid (compactI_any _ v4 _ w4 ho4 (by have := HL.out; have := HL2.out; simp; omega))
  with_reducible refine Calls.mono CC.out ?_
  rintro e w5 ⟨A5, c5, rfl, hc5, hi5, ht5⟩
  clear CC
  have hk25 : Kp w2 w5 := hk24.turn ht5 (fun i hi => (ho4.lt i hi).1)
  change IntsAt w5 A5 (reachL F) at hi5
  change _ ≤ c5 at hc5
  have hkb5 := hkb.trans hk25
  clear v0 v1 ho0 hsx hkx hk3 ho3 hk23 hbase3 hlen3 hil ho4 ht4 h44 hk24 ht5 hk25
  obtain ⟨R, HR⟩ : ∃ R, Hid (R = (Lib.compact ([0] ++ lensF F)).length) := ⟨_, Lib.hid rfl⟩
  replace HR := Lib.hid (show R = (reachL F).length from HR.out)
  have hR : R ≤ 50 := by rw [HR.out]; have := HL3.out; have := HL.out; omega
  rw [show (Lib.compact ([0] ++ lensF F)).length = R from HR.out.symm]
  have z0 := hkb5.get g0
  have z1 := hkb5.get g1
  have z2 := hkb5.get g2
  have z3 := hkb5.get g3
  have hF5 := hFA.kp hkb5
  replace h1 := h1.kp hkb5
  replace h2 := h2.kp hkb5
  have hcf := callFunc_of Tryz.func51 (by kernel_rfl) (by kernel_rfl)
  go_wp2_with fail
  go_loopw [29] (fun iv wr => ∃ i : Nat, i ≤ R ∧ iv = .int .i64 i ∧ Hid (∀ j, j < i → ∀ h : j < (reachL F).length, someB F rooms needs k (reachL F)[j] = false) ∧ Kp w5 wr) (fun iv _ => R - (intOf iv).toNat)
  case atStart => exact ⟨0, by omega, rfl, (by show ∀ j, _ → _; intro j hj; omega), Kp.refl _⟩
  case round =>
    obtain ⟨i, hi, rfl, Hno, hkr⟩ := hrel
    by_cases hlt : i < R
    · have lx : i < (reachL F).length := by rw [← HR.out]; exact hlt
      obtain ⟨a5, rfl, hcr⟩ := (hi5.kp hkr).at_ lx
      obtain ⟨rv, Hrv⟩ : ∃ rv, Hid (rv = (reachL F)[i]) := ⟨_, Lib.hid rfl⟩
      rw [← Hrv.out] at hcr
      have hka : Kp wr (wr.alloc (.cells #[.int .i64 rv] 3)) := (Kp.refl wr).alloc _
      have y4 : (wr.alloc (.cells #[.int .i64 rv] 3)).cell? ⟨wr.heap.size, 0, none⟩ = some (.int .i64 rv) := by rw [World.cell?_alloc_at _ _ _ _ rfl]; rfl
      have hk5a := hkr.trans hka
      have y0 := hk5a.get z0
      have y1 := hk5a.get z1
      have y2 := hk5a.get z2
      have y3 := hk5a.get z3
      have CC := Lib.hid (upTo_any _ F k (wr.alloc (.cells #[.int .i64 rv] 3)) (hF5.kp hk5a) HG.out)
      obtain ⟨pq, Hpq⟩ : ∃ pq, Hid (pq = wr.heap.size) := ⟨_, Lib.hid rfl⟩
      rw [← Hpq.out] at y4
      go_wp2_with fail
      rw [← Hpq.out]
      generalize wr.alloc (.cells #[.int .i64 rv] 3) = wa at *
      with_reducible refine Calls.mono CC.out ?_
      rintro e w6 ⟨au, cu, rfl, hrows, hk6⟩
      clear CC
      have x0 := hk6.get y0
      have x1 := hk6.get y1
      have x2 := hk6.get y2
      have x3 := hk6.get y3
      have x4 := hk6.get y4
      have hk56 := hk5a.trans hk6
      have hF6 := hF5.kp hk56
      have r1 := h1.kp hk56
      have r2 := h2.kp hk56
      have CD := Lib.hid (containsFunc2_any 51 #[.pointer (some ⟨w.heap.size, 0, none⟩), .pointer (some ⟨w.heap.size + 1, 0, none⟩), .pointer (some ⟨w.heap.size + 1 + 1, 0, none⟩), .pointer (some ⟨pq, 0, none⟩)] (fun S => csB F rooms needs S rv) (some au) (atMost F k) _ cu w6 hrows.grid rfl hcf
        (fun j hj Av cv wx hx hiv => rrClo_any F rooms needs rv w.heap.size (w.heap.size + 1) (w.heap.size + 1 + 1) pq A B A1 A2 c d n1 c1 n2 c2 wx (hF6.kp hx) (hx.get x0) (hx.get x1) (hx.get x2) (hx.get x3) (hx.get x4) (r1.kp hx) Hn1.out (r2.kp hx) Hn2.out Av (atMost F k)[j] _ cv hiv rfl (rr_haul HG.out HN.out (List.mem_filter.1 (List.getElem_mem hj)).1)))
      go_wp2_with fail
      with_reducible refine Calls.mono CD.out ?_
      rintro e w7 ⟨rfl, hk7⟩
      clear CD
      cases hb_ : (atMost F k).any fun S => csB F rooms needs S rv
      · have Hno2 : Hid (∀ j, j < i + 1 → ∀ h : j < (reachL F).length, someB F rooms needs k (reachL F)[j] = false) := by
          show ∀ j, _ → _
          intro j hj h
          by_cases e : j = i
          · subst e
            rw [someB_iff, ← Hrv.out]; exact hb_
          · exact Hno.out j (by omega) h
        clear hb_
        go_wp2_with fail
        go_roundw
        case rel => exact ⟨i + 1, by omega, by go_num, Hno2, hk56.trans hk7⟩
        case measure => simp [intOf]; omega
      · have Hyes : Hid (someB F rooms needs k rv = true) := by show _ = _; rw [someB_iff]; exact hb_
        clear hb_
        have u4 := hk7.get x4
        go_wp2_with fail
        go_ret2
        refine ⟨?_, (hkw.trans hkb5).trans (hk56.trans hk7)⟩
        rw [Hrv.out] at Hyes ⊢
        exact rr_at HOk.out lx Hno.out Hyes.out
    · obtain rfl : i = R := by omega
      go_wp2_with fail
      go_ret2
      exact ⟨rr_end HOk.out (fun j hj h => Hno.out j (by rw [HR.out]; exact hj) h), (hkw.trans hkb5).trans hkr⟩
end Go.Proofs.YtpiijhfjliolfaaGreat

namespace Go.Proofs.YtpiijhfjliolfaaGreat
open Go.RowKit Go.Sort

theorem bestTo_le {v : List Int → Int} {rows : List (List Int)} : ∀ k, k ≤ rows.length → ∀ S ∈ rows.take k, v (bestTo v rows k) ≤ v S
  | 0, _, S, h => by simp at h
  | k + 1, hk, S, h => by
    have hk' : k < rows.length := by omega
    rw [bestTo_succ hk']
    have hstep : v (bestStep v (bestTo v rows k) rows[k]) ≤ v (bestTo v rows k) ∧ v (bestStep v (bestTo v rows k) rows[k]) ≤ v rows[k] := by
      unfold bestStep
      by_cases hlt : v rows[k] < v (bestTo v rows k)
      · rw [if_pos hlt]; omega
      · rw [if_neg hlt]; omega
    rw [List.take_succ_eq_append_getElem hk', List.mem_append] at h
    rcases h with h | h
    · have := bestTo_le (v := v) k (by omega) S h; omega
    · have e : S = rows[k] := by simpa using h
      rw [e]; exact hstep.2
theorem bestL_le {v : List Int → Int} {rows : List (List Int)} : ∀ S ∈ rows, v (bestL v rows) ≤ v S := fun S h => by
  rw [← bestTo_all]
  exact bestTo_le _ (Nat.le_refl _) S (by rw [List.take_length]; exact h)
end Go.Proofs.YtpiijhfjliolfaaGreat

namespace Go.Proofs.YtpiijhfjliolfaaGreat
open Go.RowKit Go.Sort

/-- The sites that some of the clients may be sent to. -/
def nbrC (J : Nat) (may : Nat → Nat → Bool) (C : Nat → Bool) (a : Nat) : Bool := (List.range J).any fun j => C j && may j a
def needC (J : Nat) (nd : Nat → Int) (C : Nat → Bool) : Int := sumTo (fun j => if C j = true then nd j else 0) J
def roomC (J M : Nat) (may : Nat → Nat → Bool) (rm : Nat → Int) (C : Nat → Bool) : Int := sumTo (fun a => if nbrC J may C a = true then rm a else 0) M
theorem nbr_iff {J : Nat} {may : Nat → Nat → Bool} {C : Nat → Bool} {a : Nat} : nbrC J may C a = true ↔ ∃ j, j < J ∧ C j = true ∧ may j a = true := by
  unfold nbrC
  rw [List.any_eq_true]
  constructor
  · rintro ⟨j, hj, h⟩
    rw [Bool.and_eq_true] at h
    exact ⟨j, List.mem_range.1 hj, h⟩
  · rintro ⟨j, hj, h⟩
    exact ⟨j, List.mem_range.2 hj, by rw [Bool.and_eq_true]; exact h⟩
theorem needC_upd {J : Nat} {nd : Nat → Int} {C : Nat → Bool} {j0 : Nat} (hj : j0 < J) (x : Int) : needC J (upd nd j0 x) C = needC J nd C + if C j0 = true then x - nd j0 else 0 := by
  unfold needC
  cases h : C j0
  · rw [if_neg (by simp)]
    have : sumTo (fun j => if C j = true then upd nd j0 x j else 0) J = sumTo (fun j => if C j = true then nd j else 0) J := sumTo_congr fun j _ => by
      by_cases e : j = j0
      · subst e; rw [h]; rfl
      · rw [upd_ne e]
    rw [this]; omega
  · rw [if_pos rfl]
    have : sumTo (fun j => if C j = true then upd nd j0 x j else 0) J = sumTo (upd (fun j => if C j = true then nd j else 0) j0 x) J := sumTo_congr fun j _ => by
      by_cases e : j = j0
      · subst e; rw [h, upd_at, upd_at, if_pos rfl]
      · rw [upd_ne e, upd_ne e]
    rw [this, sumTo_upd, if_pos hj, h, if_pos rfl]
theorem roomC_upd {J M : Nat} {may : Nat → Nat → Bool} {rm : Nat → Int} {C : Nat → Bool} {a0 : Nat} (ha : a0 < M) (x : Int) : roomC J M may (upd rm a0 x) C = roomC J M may rm C + if nbrC J may C a0 = true then x - rm a0 else 0 := needC_upd ha x
/-- No clients together need more than the rooms that they reach. -/
def HallC (J M : Nat) (may : Nat → Nat → Bool) (nd rm : Nat → Int) : Prop := ∀ C, needC J nd C ≤ roomC J M may rm C
theorem need_union {J : Nat} {nd : Nat → Int} {C D : Nat → Bool} : needC J nd (fun j => C j || D j) + needC J nd (fun j => C j && D j) = needC J nd C + needC J nd D := by
  unfold needC
  rw [← sumTo_addf, ← sumTo_addf]
  refine sumTo_congr fun j _ => ?_
  cases h1 : C j <;> cases h2 : D j <;> simp [h1, h2]
theorem room_union {J M : Nat} {may : Nat → Nat → Bool} {rm : Nat → Int} {C D : Nat → Bool} (hr : ∀ a, a < M → 0 ≤ rm a) : roomC J M may rm (fun j => C j || D j) + roomC J M may rm (fun j => C j && D j) ≤ roomC J M may rm C + roomC J M may rm D := by
  unfold roomC
  rw [← sumTo_addf, ← sumTo_addf]
  refine sumTo_mono' fun a ha => ?_
  have h0 := hr a ha
  have h1 : nbrC J may (fun j => C j || D j) a = (nbrC J may C a || nbrC J may D a) := by
    rw [Bool.eq_iff_iff, Bool.or_eq_true, nbr_iff, nbr_iff, nbr_iff]
    constructor
    · rintro ⟨j, hj, h, hm⟩
      rw [Bool.or_eq_true] at h
      rcases h with h | h
      · exact .inl ⟨j, hj, h, hm⟩
      · exact .inr ⟨j, hj, h, hm⟩
    · rintro (⟨j, hj, h, hm⟩ | ⟨j, hj, h, hm⟩)
      · exact ⟨j, hj, by rw [h]; rfl, hm⟩
      · exact ⟨j, hj, by rw [h]; simp, hm⟩
  have h2 : nbrC J may (fun j => C j && D j) a = true → nbrC J may C a = true ∧ nbrC J may D a = true := by
    rw [nbr_iff, nbr_iff, nbr_iff]
    rintro ⟨j, hj, h, hm⟩
    rw [Bool.and_eq_true] at h
    exact ⟨⟨j, hj, h.1, hm⟩, ⟨j, hj, h.2, hm⟩⟩
  rw [h1]
  cases e1 : nbrC J may C a <;> cases e2 : nbrC J may D a <;> cases e3 : nbrC J may (fun j => C j && D j) a <;> simp [e1, e2, e3] at h2 ⊢ <;> omega
/-- With sets that need just what they reach: all that a client reaches is reached by one of them. -/
theorem hall_tight {J M : Nat} {may : Nat → Nat → Bool} {nd rm : Nat → Int} {j0 : Nat} (hr : ∀ a, a < M → 0 ≤ rm a) (hh : HallC J M may nd rm)
    (ht : ∀ a, a < M → may j0 a = true → 0 < rm a → ∃ C : Nat → Bool, C j0 = false ∧ nbrC J may C a = true ∧ needC J nd C = roomC J M may rm C) :
    ∀ k, k ≤ M → ∃ T : Nat → Bool, T j0 = false ∧ needC J nd T = roomC J M may rm T ∧ ∀ a, a < k → may j0 a = true → 0 < rm a → nbrC J may T a = true
  | 0, _ => ⟨fun _ => false, rfl, by
      unfold needC roomC
      rw [sumTo_congr (g := fun j => if (fun _ : Nat => false) j = true then nd j else 0) (h := fun _ => 0) (fun j _ => rfl), sumTo_c0]
      rw [sumTo_congr (h := fun _ => 0) (fun a _ => by
        rw [if_neg]
        intro h
        obtain ⟨j, _, hf, _⟩ := nbr_iff.1 h
        cases hf), sumTo_c0], fun a ha => by omega⟩
  | k + 1, hk => by
    obtain ⟨T, h1, h2, h3⟩ := hall_tight hr hh ht k (by omega)
    by_cases h : may j0 k = true ∧ 0 < rm k
    · obtain ⟨C, c1, c2, c3⟩ := ht k (by omega) h.1 h.2
      have u1 := need_union (J := J) (nd := nd) (C := T) (D := C)
      have u2 := room_union (J := J) (M := M) (may := may) (rm := rm) (C := T) (D := C) hr
      have u3 := hh (fun j => T j || C j)
      have u4 := hh (fun j => T j && C j)
      refine ⟨fun j => T j || C j, by simp [h1, c1], by omega, fun a ha hm hp => ?_⟩
      rw [nbr_iff]
      by_cases e : a = k
      · subst e
        obtain ⟨j, hj, x1, x2⟩ := nbr_iff.1 c2
        exact ⟨j, hj, by simp [x1], x2⟩
      · obtain ⟨j, hj, x1, x2⟩ := nbr_iff.1 (h3 a (by omega) hm hp)
        exact ⟨j, hj, by simp [x1], x2⟩
    · refine ⟨T, h1, h2, fun a ha hm hp => ?_⟩
      by_cases e : a = k
      · subst e; exact absurd ⟨hm, hp⟩ h
      · exact h3 a (by omega) hm hp
/-- Then there is a haul. -/
theorem hall_ex {J M : Nat} {may : Nat → Nat → Bool} : ∀ (n : Nat) (nd rm : Nat → Int), (∀ j, j < J → 0 ≤ nd j) → (∀ a, a < M → 0 ≤ rm a) → sumTo nd J = n → HallC J M may nd rm → ∃ x, Haul J M may nd rm x
  | 0, nd, rm, h0, hr, hn, _ => by
    have hz : ∀ j, j < J → nd j = 0 := fun j hj => by have := h0 j hj; have h1 : nd j ≤ sumTo nd J := sumTo_ge h0 hj; omega
    exact ⟨fun _ _ => 0, ⟨fun _ _ _ _ => Int.le_refl _, fun _ _ _ _ h => by omega, fun j hj => by rw [hz j hj]; exact sumTo_c0 _, fun a ha => by
      have : colT J (fun _ _ => (0 : Int)) a = 0 := sumTo_c0 _
      rw [this]; exact hr a ha⟩⟩
  | n + 1, nd, rm, h0, hr, hn, hh => by
    obtain ⟨j0, hj0, hp⟩ := sumTo_pos' h0 (by omega)
    have hA : ∃ a, a < M ∧ may j0 a = true ∧ 0 < rm a ∧ HallC J M may (upd nd j0 (nd j0 - 1)) (upd rm a (rm a - 1)) := Classical.byContradiction fun hno => by
      obtain ⟨T, t1, t2, t3⟩ := hall_tight (j0 := j0) hr hh (fun a ha hm hp2 => Classical.byContradiction fun hc => hno ⟨a, ha, hm, hp2, fun C => by
        rw [needC_upd hj0, roomC_upd ha]
        have h1 := hh C
        by_cases c0 : C j0 = true
        · rw [if_pos c0, if_pos (nbr_iff.2 ⟨j0, hj0, c0, hm⟩)]; omega
        · rw [if_neg c0]
          by_cases c1 : nbrC J may C a = true
          · rw [if_pos c1]
            have : needC J nd C ≠ roomC J M may rm C := fun e => hc ⟨C, by simpa using c0, c1, e⟩
            omega
          · rw [if_neg c1]; omega⟩) M (Nat.le_refl _)
      have h1 := hh (upd T j0 true)
      have e1 : needC J nd (upd T j0 true) = needC J nd T + nd j0 := by
        unfold needC
        rw [show sumTo (fun j => if upd T j0 true j = true then nd j else 0) J = sumTo (upd (fun j => if T j = true then nd j else 0) j0 (nd j0)) J from sumTo_congr fun j _ => by
          by_cases e : j = j0
          · subst e; rw [upd_at, upd_at, if_pos rfl]
          · rw [upd_ne e, upd_ne e], sumTo_upd, if_pos hj0, t1]
        simp
      have e2 : roomC J M may rm (upd T j0 true) = roomC J M may rm T := by
        unfold roomC
        refine sumTo_congr fun a ha => ?_
        by_cases h : nbrC J may T a = true
        · rw [if_pos h, if_pos]
          obtain ⟨j, hj, x1, x2⟩ := nbr_iff.1 h
          refine nbr_iff.2 ⟨j, hj, ?_, x2⟩
          by_cases e : j = j0
          · subst e; rw [upd_at]
          · rw [upd_ne e]; exact x1
        · rw [if_neg h]
          by_cases h2 : nbrC J may (upd T j0 true) a = true
          · rw [if_pos h2]
            obtain ⟨j, hj, x1, x2⟩ := nbr_iff.1 h2
            by_cases e : j = j0
            · subst e
              have := hr a ha
              by_cases hz : 0 < rm a
              · exact absurd (t3 a ha x2 hz) h
              · omega
            · rw [upd_ne e] at x1
              exact absurd (nbr_iff.2 ⟨j, hj, x1, x2⟩) h
          · rw [if_neg h2]
      omega
    obtain ⟨a, ha, hm, hra, hh2⟩ := hA
    obtain ⟨x, hx⟩ := hall_ex n (upd nd j0 (nd j0 - 1)) (upd rm a (rm a - 1)) (fun j hj => by
      by_cases e : j = j0
      · subst e; rw [upd_at]; omega
      · rw [upd_ne e]; exact h0 j hj) (fun b hb => by
      by_cases e : b = a
      · subst e; rw [upd_at]; omega
      · rw [upd_ne e]; exact hr b hb) (by rw [sumTo_upd, if_pos hj0]; omega) hh2
    refine ⟨upd2 x j0 a (x j0 a + 1), ⟨fun j b hj hb => ?_, fun j b hj hb hpos => ?_, fun j hj => ?_, fun b hb => ?_⟩⟩
    · by_cases e : j = j0 ∧ b = a
      · obtain ⟨rfl, rfl⟩ := e; rw [upd2_at]; have := hx.nn j b hj hb; omega
      · rw [upd2_ne (by omega)]; exact hx.nn j b hj hb
    · by_cases e : j = j0 ∧ b = a
      · obtain ⟨rfl, rfl⟩ := e; exact hm
      · rw [upd2_ne (by omega)] at hpos; exact hx.may j b hj hb hpos
    · rw [row_upd2 _ _ ha, hx.row j hj]
      by_cases e : j = j0
      · subst e; rw [if_pos rfl, upd_at]; omega
      · rw [if_neg e, upd_ne e]; omega
    · rw [col_upd2 _ _ hj0]
      have := hx.col b hb
      by_cases e : b = a
      · subst e; rw [if_pos rfl]; rw [upd_at] at this; omega
      · rw [if_neg e]; rw [upd_ne e] at this; omega
/-- A haul leaves no clients that need more than they reach. -/
theorem hall_of {J M : Nat} {may : Nat → Nat → Bool} {nd rm : Nat → Int} {x : Nat → Nat → Int} (hx : Haul J M may nd rm x) (C : Nat → Bool) : needC J nd C ≤ roomC J M may rm C := by
  have h1 : needC J nd C = sumTo (fun j => sumTo (fun a => if C j = true then x j a else 0) M) J := sumTo_congr fun j hj => by
    by_cases h : C j = true
    · rw [if_pos h, ← hx.row j hj]; exact (sumTo_congr fun a _ => if_pos h).symm
    · rw [if_neg h, sumTo_congr (h := fun _ => 0) fun a _ => if_neg h, sumTo_c0]
  rw [h1, sumTo_swap]
  refine sumTo_mono' fun a ha => ?_
  by_cases h : nbrC J may C a = true
  · rw [if_pos h]
    refine Int.le_trans (sumTo_mono' fun j hj => ?_) (hx.col a ha)
    have := hx.nn j a hj ha
    by_cases hc : C j = true
    · rw [if_pos hc]; exact Int.le_refl _
    · rw [if_neg hc]; exact this
  · rw [if_neg h]
    rw [sumTo_congr (h := fun _ => 0) fun j hj => by
      by_cases hc : C j = true
      · rw [if_pos hc]
        have h0 := hx.nn j a hj ha
        by_cases hp : 0 < x j a
        · exact absurd (nbr_iff.2 ⟨j, hj, hc, hx.may j a hj ha hp⟩) h
        · omega
      · rw [if_neg hc]]
    rw [sumTo_c0]; exact Int.le_refl _
theorem room_list {n : Nat} {C : List Int} (h : risB C 0 ((n : Int) - 1) = true) (xs : List Int) : roomS xs C = sumTo (fun j => if flHas C j = true then lget xs j else 0) n := by
  have hr := ris_iff.1 h
  have hm : ∀ y ∈ C, 0 ≤ y ∧ y < n := fun y hy => by have := hr.2 y hy; omega
  have h1 := room_bits xs (bagN C) n
  rw [bits_bag hr.1 hm] at h1
  rw [h1]
  exact sumTo_congr fun a _ => by rw [bag_has (fun y hy => (hm y hy).1)]
theorem within_has {F : Fld} {C S : List Int} {r : Int} {J : Nat} (hC : risB C 0 ((J : Int) - 1) = true) (a : Nat) : flHas (withinL F C S r) a = nbrC J (startM F S r) (flHas C) a := by
  have hr := ris_iff.1 hC
  rw [Bool.eq_iff_iff, flHas_iff, nbr_iff]
  unfold withinL nearB
  rw [List.mem_filter, List.any_eq_true]
  constructor
  · rintro ⟨h1, c, hc, hd⟩
    have hb := hr.2 c hc
    rw [decide_eq_true_eq] at hd
    refine ⟨c.toNat, by omega, flHas_iff.2 (by rwa [show ((c.toNat : Nat) : Int) = c by omega]), ?_⟩
    unfold startM
    rw [flHas_iff.2 h1, Bool.true_and, decide_eq_true_eq]
    exact hd
  · rintro ⟨j, hj, h1, h2⟩
    unfold startM at h2
    rw [Bool.and_eq_true, decide_eq_true_eq] at h2
    exact ⟨flHas_iff.1 h2.1, (j : Int), flHas_iff.1 h1, by rw [decide_eq_true_eq]; exact h2.2⟩
theorem within_ris {F : Fld} {C S : List Int} {r : Int} {n : Nat} (h : risB S 0 ((n : Int) - 1) = true) : risB (withinL F C S r) 0 ((n : Int) - 1) = true := by
  have hr := ris_iff.1 h
  exact ris_iff.2 ⟨hr.1.sublist List.filter_sublist, fun x hx => hr.2 x (within_mem x hx)⟩
/-- What the reference searches for, in sums. -/
theorem hallB_sum {F : Fld} {rooms needs S C : List Int} {r : Int} (hs : setB F S = true) (hC : risB C 0 ((F.di.length : Int) - 1) = true) : hallB F rooms needs S r C = decide (roomC F.di.length F.op.length (startM F S r) (lget rooms) (flHas C) < needC F.di.length (lget needs) (flHas C)) := by
  unfold hallB roomC needC
  rw [room_list hC needs, room_list (within_ris hs) rooms]
  have e : sumTo (fun j => if flHas (withinL F C S r) j = true then lget rooms j else 0) F.op.length = sumTo (fun a => if nbrC F.di.length (startM F S r) (flHas C) a = true then lget rooms a else 0) F.op.length := sumTo_congr fun a _ => by rw [within_has hC]
  rw [e]
/-- The list of some of the first numbers. -/
def listOf (C : Nat → Bool) (n : Nat) : List Int := ((List.range n).filter C).map fun j : Nat => (j : Int)
theorem listOf_has {C : Nat → Bool} {n j : Nat} (hj : j < n) : flHas (listOf C n) j = C j := by
  rw [Bool.eq_iff_iff, flHas_iff]
  unfold listOf
  rw [List.mem_map]
  constructor
  · rintro ⟨i, hi, e⟩
    have := (List.mem_filter.1 hi).2
    rwa [show i = j by omega] at this
  · intro h
    exact ⟨j, List.mem_filter.2 ⟨List.mem_range.2 hj, h⟩, rfl⟩
theorem listOf_ris (C : Nat → Bool) (n : Nat) : risB (listOf C n) 0 ((n : Int) - 1) = true := by
  refine ris_iff.2 ⟨?_, fun x hx => ?_⟩
  · unfold listOf
    rw [List.pairwise_map]
    exact (List.pairwise_lt_range.sublist List.filter_sublist).imp fun h => by omega
  · unfold listOf at hx
    rw [List.mem_map] at hx
    obtain ⟨i, hi, e⟩ := hx
    have := List.mem_range.1 (List.mem_filter.1 hi).1
    omega
theorem need_congr {J : Nat} {nd : Nat → Int} {C D : Nat → Bool} (h : ∀ j, j < J → C j = D j) : needC J nd C = needC J nd D := sumTo_congr fun j hj => by rw [h j hj]
theorem nbr_congr {J : Nat} {may : Nat → Nat → Bool} {C D : Nat → Bool} (h : ∀ j, j < J → C j = D j) (a : Nat) : nbrC J may C a = nbrC J may D a := by
  rw [Bool.eq_iff_iff, nbr_iff, nbr_iff]
  constructor
  · rintro ⟨j, hj, x1, x2⟩; exact ⟨j, hj, by rw [← h j hj]; exact x1, x2⟩
  · rintro ⟨j, hj, x1, x2⟩; exact ⟨j, hj, by rw [h j hj]; exact x1, x2⟩
theorem room_congr {J M : Nat} {may : Nat → Nat → Bool} {rm : Nat → Int} {C D : Nat → Bool} (h : ∀ j, j < J → C j = D j) : roomC J M may rm C = roomC J M may rm D := sumTo_congr fun a _ => by rw [nbr_congr h]
/-- Exactly one of the two. -/
theorem hall_cs {F : Fld} {rooms needs S : List Int} {r : Int} (h : csOk F rooms needs S r = true) : hcOk F rooms needs S r = !csV F rooms needs S r := by
  have hin : hcIn F rooms needs S r = true := h
  have hP := haul_p (hcIn_parts hin).1
  have e1 : csV F rooms needs S r = csB F rooms needs S r := by unfold csV; rw [h, Bool.true_and]
  rw [e1]
  unfold hcOk
  rw [hin, Bool.true_and]
  cases hf : (setsL F.di.length).find? (hallB F rooms needs S r) with
  | some C =>
    have hm := mem_setsL.1 (List.mem_of_find?_eq_some hf)
    have hb := List.find?_some hf
    rw [hallB_sum hP.set_ hm.2, decide_eq_true_eq] at hb
    have hv : hcV F rooms needs S r = C := by unfold hcV; rw [hf]; rfl
    have hne : C.isEmpty = false := by simpa using hm.1
    rw [hv, hne, cs_no hP (fun x hx => by have := hall_of hx (flHas C); omega)]
  | none =>
    have hv : hcV F rooms needs S r = [] := by unfold hcV; rw [hf]; rfl
    rw [hv]
    obtain ⟨x, hx⟩ := hall_ex (J := F.di.length) (M := F.op.length) (may := startM F S r) (sumTo (lget needs) F.di.length).toNat (lget needs) (lget rooms) (fun j _ => (hP.nb j).1) (fun a _ => (hP.rb a).1) (by have := sumTo_nn (g := lget needs) (k := F.di.length) (fun j _ => (hP.nb j).1); omega) (fun D => by
      have hd : ∀ j, j < F.di.length → D j = flHas (listOf D F.di.length) j := fun j hj => (listOf_has hj).symm
      rw [need_congr hd, room_congr hd]
      by_cases hn : listOf D F.di.length = []
      · rw [hn]
        have e1 : needC F.di.length (lget needs) (flHas []) = 0 := by
          unfold needC
          exact (sumTo_congr (h := fun _ => 0) (fun j _ => rfl)).trans (sumTo_c0 _)
        rw [e1]
        refine sumTo_nn fun a _ => ?_
        have := (hP.rb a).1
        split <;> omega
      · have h1 := List.find?_eq_none.1 hf _ (mem_setsL.2 ⟨hn, listOf_ris D F.di.length⟩)
        rw [hallB_sum hP.set_ (listOf_ris D F.di.length), decide_eq_true_eq] at h1
        omega)
    rw [cs_yes hP hx]; rfl
/-- The best rooms. -/
theorem br_parts {F : Fld} {rooms needs : List Int} (h : brOk F rooms needs = true) : HaulP F rooms needs (brL F rooms needs) ∧ lfOk F rooms needs (brL F rooms needs) = true ∧ brVal F rooms needs = lfV F rooms needs (brL F rooms needs) + payF F (brL F rooms needs) ∧
    ∀ S, S ∈ setsL F.op.length → lfOk F rooms needs S = true → brVal F rooms needs ≤ lfV F rooms needs S + payF F S := by
  have hne : brL F rooms needs ≠ [] := by
    unfold brOk at h
    exact of_decide_eq_true h
  have hg : brG F rooms needs = true := by
    cases hh : brG F rooms needs
    · exact absurd (brL_no hh) hne
    · rfl
  have hG := brL_yes hg
  have hgf : goodF F = true := by
    unfold brG at hg
    rw [Bool.and_eq_true] at hg
    exact hg.1
  have hval : brVal F rooms needs = lfV F rooms needs (brL F rooms needs) + payF F (brL F rooms needs) := by
    unfold brVal
    rw [brT_not hne, brv_not hne]
  have hok : lfOk F rooms needs (brL F rooms needs) = true := by
    rw [hG]
    rw [hG] at hne
    unfold brF at hne ⊢
    by_cases h0 : 0 < ((setsL F.op.length).filter (lfOk F rooms needs)).length
    · exact (List.mem_filter.1 (bestL_mem (v := brv F rooms needs) h0)).2
    · have e : (setsL F.op.length).filter (lfOk F rooms needs) = [] := List.eq_nil_of_length_eq_zero (by omega)
      rw [e] at hne
      exact absurd rfl hne
  refine ⟨haul_p (lfOk_iff.1 hok).1, hok, hval, fun S hS hl => ?_⟩
  have h1 := bestL_le (v := brv F rooms needs) _ (List.mem_filter.2 ⟨hS, hl⟩)
  have hSn := (mem_setsL.1 hS).1
  rw [brv_not hSn] at h1
  rw [hval, ← brv_not hne, hG]
  exact h1
/-- The reach of a set. -/
def reachTo (F : Fld) (S : List Int) : Nat → Int
  | 0 => 0
  | k + 1 => max (reachTo F S k) (nearF F k S)
def reachF (F : Fld) (S : List Int) : Int := reachTo F S F.di.length
theorem reachTo_le {F : Fld} {S : List Int} {r : Int} (h0 : 0 ≤ r) : ∀ k, (∀ i, i < k → nearF F i S ≤ r) → reachTo F S k ≤ r
  | 0, _ => h0
  | k + 1, h => by
    have h1 := reachTo_le h0 k (fun i hi => h i (by omega))
    have h2 := h k (by omega)
    show max _ _ ≤ r
    omega
theorem reachTo_bd {F : Fld} (hg : goodF F = true) (S : List Int) : ∀ k, 0 ≤ reachTo F S k ∧ reachTo F S k ≤ 99
  | 0 => ⟨Int.le_refl _, by show (0 : Int) ≤ 99; omega⟩
  | k + 1 => by
    have h1 := reachTo_bd hg S k
    have h2 := nearF_bd hg S k
    show 0 ≤ max _ _ ∧ max _ _ ≤ 99
    omega
def cenL (F : Fld) (k : Int) : List Int := bestL (reachF F) ((setsL F.op.length).filter fun S => decide ((S.length : Int) ≤ k))
theorem rr_haulP {F : Fld} {rooms needs : List Int} (hg : goodF F = true) (hn : needsB F rooms needs = true) {S : List Int} (hs : S ∈ setsL F.op.length) : HaulP F rooms needs S := by
  obtain ⟨h1, h2⟩ := mem_setsL.1 hs
  refine haul_p ?_
  unfold haulB
  rw [hn, Bool.and_true]
  unfold openedB
  rw [hg, show setB F S = true from h2, decide_eq_true (List.length_pos_iff.2 h1)]; rfl
/-- With needs of all clients, the reach of rooms is no less than the reach without them. -/
theorem rr_reach {F : Fld} {rooms needs : List Int} {k : Int} (h : rrB F rooms needs k = true) (hn : ∀ j, j < needs.length → lget needs j ≠ 0) : rrOk F rooms needs k = true ∧ reachF F (cenL F k) ≤ rrV F rooms needs k := by
  have hok : rrOk F rooms needs k = true := by
    cases hh : rrOk F rooms needs k
    · unfold rrB rrO at h
      rw [hh] at h
      cases h
    · rfl
  have hg : goodF F = true := by
    unfold rrOk at hok
    rw [Bool.and_eq_true, Bool.and_eq_true] at hok
    exact hok.1.1
  refine ⟨hok, ?_⟩
  have hnb : needsB F rooms needs = true := by
    unfold rrOk at hok
    rw [Bool.and_eq_true] at hok
    exact hok.2
  have ho : rrO F rooms needs k = (reachL F).find? (someB F rooms needs k) := if_pos hok
  unfold rrB at h
  unfold rrV
  cases hf : rrO F rooms needs k with
  | none => rw [hf] at h; cases h
  | some r =>
    rw [ho] at hf
    have hr := List.find?_some hf
    have hm := List.mem_of_find?_eq_some hf
    have hr0 : 0 ≤ r := by
      rw [reachL_eq hg] at hm
      have : r = 0 ∨ r ∈ F.di.flatten := by
        rcases mem_putL.1 hm with h1 | h1
        · exact .inr (by
            unfold putAllL at h1
            rcases (putFold_mem _ _ _).1 h1 with h2 | h2
            · cases h2
            · exact h2)
        · exact .inl h1
      rcases this with h1 | h1
      · omega
      · exact (dist_pos hg r h1).1
    rw [someB_iff, List.any_eq_true] at hr
    obtain ⟨S, hS, hc⟩ := hr
    have hP := rr_haulP hg hnb (List.mem_filter.1 hS).1
    have hne : ∃ x, Haul F.di.length F.op.length (startM F S r) (lget needs) (lget rooms) x := Classical.byContradiction fun hno => by
      rw [cs_no hP (fun x hx => hno ⟨x, hx⟩)] at hc
      cases hc
    obtain ⟨x, hx⟩ := hne
    have h1 : reachF F S ≤ r := reachTo_le hr0 _ fun i hi => by
      have hnd : 0 < lget needs i := by
        have := (hP.nb i).1
        have := hn i (by rw [hP.nl]; exact hi)
        omega
      have hrow := hx.row i hi
      obtain ⟨a, ha, hp⟩ := sumTo_pos' (g := x i) (k := F.op.length) (fun a ha => hx.nn i a hi ha) (by
        have : rowS F.op.length x i = sumTo (x i) F.op.length := rfl
        omega)
      have hm := hx.may i a hi ha hp
      unfold startM at hm
      rw [Bool.and_eq_true, decide_eq_true_eq] at hm
      have := near_le (F := F) (i := i) (flHas_iff.1 hm.1)
      have e : dF F i a = dAt F i (a : Int) := rfl
      omega
    have h2 := bestL_le (v := reachF F) _ hS
    show reachF F (cenL F k) ≤ r
    unfold cenL
    omega
end Go.Proofs.YtpiijhfjliolfaaGreat

namespace Go.Proofs.YtpiijhfjliolfaaGreat
open Go.RowKit Go.Sort

def poOk (F : Fld) (S : List Int) : Bool := goodF F && setB F S
def poR (F : Fld) (S : List Int) : Int := if poOk F S = true then payF F S else 0
theorem po_no {F : Fld} {S : List Int} (h : poOk F S = false) : Ending.returned (.tuple #[.int .i64 0, .bool false]) = .returned (.tuple #[.int .i64 (poR F S), .bool (poOk F S)]) := by rw [poR, h]; rfl
theorem po_yes {F : Fld} {S : List Int} (h : poOk F S = true) : Ending.returned (.tuple #[.int .i64 (payF F S), .bool true]) = .returned (.tuple #[.int .i64 (poR F S), .bool (poOk F S)]) := by rw [poR, h, if_pos rfl]
set_option maxRecDepth 100000 in
set_option maxHeartbeats 400000 in
theorem implPo_any (f : Value) (F : Fld) (A0 : Option Addr) (S : List Int) (n c0 : Nat) (w : World) (hf : FldAt w f F) (hS : IntsAt w A0 S) (hn : S.length = n) :
    Calls Tryz.prog 19 #[f, .slice A0 n c0] w fun e w' => e = .returned (.tuple #[.int .i64 (poR F S), .bool (poOk F S)]) ∧ Kp w w' := by
  obtain ⟨A, c, B, d, rfl, hA, hB⟩ := hf
  have hk0 : Kp w (w.alloc (.cells #[.slice A F.op.length c, .slice B F.di.length d] 27)) := (Kp.refl w).alloc _
  obtain ⟨d0, d1⟩ := box2 w (.slice A F.op.length c) (.slice B F.di.length d) 27
  have hFA := FldAt.kp (show FldAt w (.agg #[.slice A F.op.length c, .slice B F.di.length d]) F from ⟨A, c, B, d, rfl, hA, hB⟩) hk0
  replace hS := hS.kp hk0
  have Hn := Lib.hid hn
  clear hA hB hn
  go_enter Tryz.func19, Tryz.ntmps19
  go_wp2_with fail
  have hsz : Hid ((w.alloc (.cells #[.slice A F.op.length c, .slice B F.di.length d] 27)).heap.size = w.heap.size + 1) := by show _ = _; simp
  generalize w.alloc (.cells #[.slice A F.op.length c, .slice B F.di.length d] 27) = wb at *
  have hkb : Kp wb wb := Kp.refl _
  have hkw := hk0
  have CC := Lib.hid (isField_any _ F _ (hFA.kp hkb))
  with_reducible refine Calls.mono CC.out ?_
  rintro e w1 ⟨rfl, hk1⟩
  clear CC
  replace hkb := hkb.trans hk1
  cases hg_ : goodF F
  · have Hg := Lib.hid (po_no (F := F) (S := S) (by simp [poOk, hg_]))
    clear hg_
    have q_d0 := hkb.get d0
    have q_d1 := hkb.get d1
    go_wp2_with fail
    go_ret2
    exact ⟨Hg.out, hkw.trans hkb⟩
  have Hg := Lib.hid hg_; clear hg_
  have h7 := (goodF_iff.1 Hg.out).1.2
  have q_d0 := hkb.get d0
  have q_d1 := hkb.get d1
  go_wp2_with fail
  have CC := Lib.hid (isRising_any A0 S n c0 (F.op.length : Int) _ (hS.kp hkb) Hn.out (by omega) (by omega))
  with_reducible refine Calls.mono CC.out ?_
  rintro e w2 ⟨rfl, hw⟩
  obtain rfl := hw
  clear CC q_d0 q_d1
  cases hs_ : setB F S
  · have Hs := Lib.hid (po_no (F := F) (S := S) (by simp [poOk, hs_]))
    have hs2 : risB S 0 ((F.op.length : Int) - 1) = false := hs_
    clear hs_
    rw [hs2]
    have q_d0 := hkb.get d0
    have q_d1 := hkb.get d1
    go_wp2_with fail
    go_ret2
    exact ⟨Hs.out, hkw.trans hkb⟩
  have Hs := Lib.hid hs_
  have hs2 : risB S 0 ((F.op.length : Int) - 1) = true := hs_
  clear hs_
  have Hy := Lib.hid (po_yes (F := F) (S := S) (by simp [poOk, Hg.out, Hs.out]))
  rw [hs2]
  have q_d0 := hkb.get d0
  have q_d1 := hkb.get d1
  go_wp2_with fail
  have CC := Lib.hid (payment_any _ F A0 S n c0 _ (hFA.kp hkb) (hS.kp hkb) Hn.out Hg.out Hs.out)
  with_reducible refine Calls.mono CC.out ?_
  rintro e w3 ⟨rfl, hk3⟩
  clear CC q_d0 q_d1
  replace hkb := hkb.trans hk3
  have q_d0 := hkb.get d0
  have q_d1 := hkb.get d1
  go_wp2_with fail
  go_ret2
  exact ⟨Hy.out, hkw.trans hkb⟩
end Go.Proofs.YtpiijhfjliolfaaGreat

namespace Go.Proofs.YtpiijhfjliolfaaGreat
open Go.RowKit Go.Sort

theorem bits_setR {n b : Nat} (h0 : 0 < b) (h : b < 2 ^ n) : bitsL n b ∈ setsL n := by
  refine (setsL_perm n).mem_iff.2 ?_
  unfold codesL
  rw [List.mem_map]
  exact ⟨b - 1, List.mem_range.2 (by omega), by rw [Nat.sub_add_cancel h0]⟩
theorem po_haul {F : Fld} {rooms needs S : List Int} (h : lfOk F rooms needs S = true) : poR F S = payF F S ∧ 0 ≤ payF F S ∧ payF F S ≤ 693 := by
  have hP := haul_p (lfOk_iff.1 h).1
  have hok : poOk F S = true := by unfold poOk; rw [hP.good, hP.set_]; rfl
  have := payF_bd hP.good hP.set_
  exact ⟨if_pos hok, this⟩
/-- What the law asks of the best rooms. -/
structure BrP (F : Fld) (rooms needs : List Int) (least pay best : Int) : Prop where
  sum : least + pay = best
  bd : -100000 ≤ least + pay ∧ least + pay ≤ 100000
  good : goodF F = true
  all : ∀ b, 0 < b → b < 2 ^ F.op.length → lfOk F rooms needs (bitsL F.op.length b) = true → best ≤ lfV F rooms needs (bitsL F.op.length b) + poR F (bitsL F.op.length b) ∧ lfV F rooms needs (bitsL F.op.length b) + poR F (bitsL F.op.length b) ≤ 100000
theorem br_law {F : Fld} {rooms needs : List Int} (h : brOk F rooms needs = true) : BrP F rooms needs (lfV F rooms needs (brL F rooms needs)) (poR F (brL F rooms needs)) (brVal F rooms needs) := by
  obtain ⟨hP, h1, h2, h3⟩ := br_parts h
  have hp := po_haul h1
  have hl := lf_bd h1
  refine ⟨by rw [h2, hp.1], by rw [hp.1]; omega, hP.good, fun b hb0 hb hok => ?_⟩
  have h4 := h3 _ (bits_setR hb0 hb) hok
  have hq := po_haul hok
  have hm := lf_bd hok
  rw [hq.1]
  omega
theorem rr_mc {F : Fld} {rooms needs : List Int} {k : Int} (h : rrOk F rooms needs k = true) : goodF F = true ∧ inB k 1 F.op.length = true := by
  unfold rrOk at h
  rw [Bool.and_eq_true, Bool.and_eq_true] at h
  exact h.1
set_option maxRecDepth 100000 in
set_option maxHeartbeats 1000000 in
theorem vBits_any (n b : Nat) (w : World) (hn : n ≤ 32) (hb : b < 4294967296) :
    Calls Tryz.prog 20 #[.int .i64 n, .int .i64 b] w fun e w' => ∃ v, e = .returned v ∧ Own w' w.heap.size v (bitsL n b) ∧ Kp w w' := by
  go_enter Tryz.func20, Tryz.ntmps20
  go_wp2_with fail
  go_loopw [5, 6] (fun ov iv wr => ∃ k : Nat, k ≤ n ∧ iv = .int .i64 k ∧ Own wr w.heap.size ov (bitsL k b) ∧ Kp w wr) (fun _ iv _ => n - (intOf iv).toNat)
  case atStart => exact ⟨0, by omega, rfl, own_new0 _ _ (Nat.le_refl _), (Kp.refl _).alloc _⟩
  case round =>
    obtain ⟨k, hk, rfl, ho, hkp⟩ := hrel
    by_cases hlt : k < n
    · have H := Lib.hid (i64_has b k (by omega))
      have hlen := bitsL_len k b
      have hlen2 : (bitsL k b).length < 1048576 := by omega
      cases ht : b.testBit k
      · have Ht := Lib.hid (H.out.trans ht)
        have Hno := Lib.hid (bitsL_no ht)
        have Hb2 := Ht.out
        clear ht H
        go_wp2_with fail
        go_roundw
        case rel => exact ⟨k + 1, by omega, by go_num, by rw [Hno.out]; exact ho, hkp⟩
        case measure => simp [intOf]; omega
      · have Ht := Lib.hid (H.out.trans ht)
        have Hyes := Lib.hid (bitsL_yes ht)
        have Hb2 := Ht.out
        clear ht H
        go_wp2_with (at_builtin; refine wpl_app rfl (.tmp 18) (.tmp 20) rfl w.heap.size _ (bitsL k b) k rfl rfl ho hkp.le hlen2 ?_; intro v' w' ho' ht' _; have hk4 := ho.kp_turn hkp (Nat.le_refl _) ht')
        go_roundw
        case rel => exact ⟨k + 1, by omega, by go_num, by rw [Hyes.out]; exact ho', hk4⟩
        case measure => simp [intOf]; omega
    · obtain rfl : k = n := by omega
      go_wp2_with fail
      go_ret
      exact ⟨_, rfl, ho, hkp⟩
end Go.Proofs.YtpiijhfjliolfaaGreat

namespace Go.Proofs.YtpiijhfjliolfaaGreat
open Go.RowKit Go.Sort

def bestF (F : Fld) : List Int := bestL (totF F) (setsL F.op.length)
theorem sets_pos {F : Fld} (h : goodF F = true) : 0 < (setsL F.op.length).length := by
  have h1 := (goodF_iff.1 h).1.1
  rw [setsL_len]
  have : 2 ^ 1 ≤ 2 ^ F.op.length := Nat.pow_le_pow_right (by omega) h1
  omega
theorem sets_most {F : Fld} (h : goodF F = true) : (setsL F.op.length).length ≤ 127 := by
  have h1 := (goodF_iff.1 h).1.2
  rw [setsL_len]
  have : 2 ^ F.op.length ≤ 2 ^ 7 := Nat.pow_le_pow_right (by omega) h1
  omega
/-- What every one of the sets is. -/
def isSet (F : Fld) (S : List Int) : Prop := setB F S = true ∧ S ≠ []
theorem sets_set {F : Fld} : ∀ S ∈ setsL F.op.length, isSet F S := fun S h => by
  have := mem_setsL.1 h
  exact ⟨this.2, this.1⟩
theorem best_set {F : Fld} (h : goodF F = true) : isSet F (bestF F) := sets_set _ (bestL_mem (sets_pos h))
end Go.Proofs.YtpiijhfjliolfaaGreat

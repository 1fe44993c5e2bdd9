/- AreFair: the program; AreFair: the checks of the program; l1Least; l1Put: a number put into a rising list; l1Put: the reference's walk; Marginal gains and greedy choices: plain words; l1Put of a nil list, and of any list; what a site adds, as the reference tells it; What a site adds, as the reference and the program tell it; GreedyGain: the choice of the next site, and the greedy loops of reference and program; GreedyGain: reference and program; Which sets are allowed: the program's answer and the reference's. No condition. -/
import Derived.Test.YtffpdebjjcbenaaGreatQAh
import Derived.StillTailTactics
import Derived.Test.YtffpdebjjcbenaaGreatQAa
import Derived.Test.YtffpdebjjcbenaaGreatQAb
import Derived.Test.YtffpdebjjcbenaaGreatQAd
import Derived.Deep.RegionHeld3
import Derived.Test.YtffpdebjjcbenaaGreatQAe
import Derived.WalkLawsBesides
import Derived.IntWalk
import Derived.Test.YtffpdebjjcbenaaGreatQAc
namespace Go.Proofs.YtffpdebjjcbenaaGreat
open Go.RowKit Go.Sort

theorem pricedB_iff {F : Fld} {xs : List Int} : pricedB F xs = true ↔ goodF F = true ∧ xs.length = F.di.length ∧ ∀ x ∈ xs, 0 ≤ x ∧ x ≤ 500 := by
  simp [pricedB, allB_iff, and_assoc]
/-- What client i leaves for site a. -/
def clv (F : Fld) (xs : List Int) (a i : Nat) : Int := max 0 (numAt xs (i : Int) - dAt F i (a : Int))
/-- The claims when row i has been gone through up to site a. -/
def clT (F : Fld) (xs : List Int) (i a : Nat) : List Int := mapTo (fun b => sumTo (clv F xs b) i + if b < a then clv F xs b i else 0) F.op.length
theorem clT_len (F : Fld) (xs : List Int) (i a : Nat) : (clT F xs i a).length = F.op.length := mapTo_len _ _
theorem mapTo_lgetC {g : Nat → Int} {k i : Nat} (h : i < k) : lget (mapTo g k) i = g i := by
  rw [lget_at (by rw [mapTo_len]; exact h), mapTo_get h]
theorem clT_get {F : Fld} {xs : List Int} {i a k : Nat} (h : k < (clT F xs i a).length) : (clT F xs i a)[k] = sumTo (clv F xs k) i + if k < a then clv F xs k i else 0 := by simp [clT, mapTo]
theorem clT_at {F : Fld} {xs : List Int} {i a : Nat} (ha : a < F.op.length) : lget (clT F xs i a) a = sumTo (clv F xs a) i := by
  unfold clT
  rw [mapTo_lgetC ha, if_neg (by omega)]; omega
theorem clT_set {F : Fld} {xs : List Int} {i a : Nat} : (clT F xs i a).set a (sumTo (clv F xs a) i + clv F xs a i) = clT F xs i (a + 1) := by
  apply List.ext_getElem
  · rw [List.length_set, clT_len, clT_len]
  · intro k h1 h2
    rw [List.length_set, clT_len] at h1
    rw [List.getElem_set, clT_get, clT_get]
    by_cases e : a = k
    · subst e; rw [if_pos rfl, if_pos (by omega)]
    · rw [if_neg e]
      by_cases hk : k < a
      · rw [if_pos hk, if_pos (by omega)]
      · rw [if_neg hk, if_neg (by omega)]
theorem clT_end (F : Fld) (xs : List Int) (i : Nat) : clT F xs i F.op.length = clT F xs (i + 1) 0 := by
  unfold clT mapTo
  refine List.map_congr_left (fun b hb => ?_)
  rw [List.mem_range] at hb
  rw [if_pos hb, if_neg (by omega), sumTo_succ]; omega
theorem clT_zero (F : Fld) (xs : List Int) : clT F xs 0 0 = List.replicate F.op.length 0 := by
  apply List.ext_getElem
  · rw [clT_len, List.length_replicate]
  · intro k h1 h2
    rw [clT_get, List.getElem_replicate, if_neg (by omega)]; rfl
def clL (F : Fld) (xs : List Int) : List Int := mapTo (fun a => bidF F xs (a : Int)) F.op.length
theorem clT_all (F : Fld) (xs : List Int) : clT F xs F.di.length 0 = clL F xs := by
  unfold clT clL mapTo
  refine List.map_congr_left (fun b hb => ?_)
  rw [if_neg (by omega), Int.add_zero]; rfl
theorem clv_bd {F : Fld} {xs : List Int} (h : pricedB F xs = true) {i : Nat} (hi : i < F.di.length) (a : Nat) : 0 ≤ clv F xs a i ∧ clv F xs a i ≤ 500 ∧ 0 ≤ numAt xs (i : Int) ∧ numAt xs (i : Int) ≤ 500 ∧ 0 ≤ dAt F i (a : Int) ∧ dAt F i (a : Int) ≤ 99 := by
  obtain ⟨hg, hl, hb⟩ := pricedB_iff.1 h
  have h1 := dAt_bd hg hi (a : Int)
  have hx : i < xs.length := by omega
  have e : numAt xs (i : Int) = xs[i] := by simp [numAt, List.getD, hx]
  have h2 := hb _ (List.getElem_mem hx)
  rw [← e] at h2
  unfold clv; omega
theorem sum_clv {F : Fld} {xs : List Int} (h : pricedB F xs = true) (a : Nat) : ∀ i, i ≤ F.di.length → 0 ≤ sumTo (clv F xs a) i ∧ sumTo (clv F xs a) i ≤ i * 500
  | 0, _ => by rw [sumTo_zero]; simp
  | i + 1, hi => by
    have ih := sum_clv h a i (by omega)
    have h1 := clv_bd h (show i < F.di.length by omega) a
    rw [sumTo_succ]; omega
theorem dAt_atC {F : Fld} {j a : Nat} (h : j < F.di.length) (ha : a < F.di[j].length) : F.di[j][a] = dAt F j (a : Int) := by
  simp [dAt, List.getD, h, ha]
set_option maxRecDepth 100000 in
set_option maxHeartbeats 2000000 in
theorem claims_any (f : Value) (F : Fld) (A1 : Option Addr) (xs : List Int) (n1 c1 : Nat) (w : World) (hf : FldAt w f F) (h1 : IntsAt w A1 xs) (hn1 : xs.length = n1) (hp : pricedB F xs = true) :
    Calls Tryz.prog 85 #[f, .slice A1 n1 c1, .int .i64 1] w fun e w' => ∃ v, e = .returned v ∧ Own w' w.heap.size v (clL F xs) ∧ Kp w w' := by
  obtain ⟨A, c, B, d, rfl, hA, hB⟩ := hf
  have hk0 : Kp w (w.alloc (.cells #[.slice A F.op.length c, .slice B F.di.length d] 27)) := (Kp.refl w).alloc _
  obtain ⟨d0, d1⟩ := box2 w (.slice A F.op.length c) (.slice B F.di.length d) 27
  have hFA := FldAt.kp (show FldAt w (.agg #[.slice A F.op.length c, .slice B F.di.length d]) F from ⟨A, c, B, d, rfl, hA, hB⟩) hk0
  replace h1 := h1.kp hk0
  replace hA := hA.kp hk0
  replace hB := hB.kp hk0
  have Hn1 := Lib.hid hn1
  have HP := Lib.hid hp
  have HQ := Lib.hid (pricedB_iff.1 hp)
  have HF := Lib.hid (goodF_iff.1 HQ.out.1)
  have h1n := HF.out.1.1
  have h7n := HF.out.1.2
  have h7d := HF.out.2.2.1
  have Hd1 : Hid (n1 = F.di.length) := by show _ = _; rw [← Hn1.out]; exact HQ.out.2.1
  clear hn1 hp
  have hmk := run_make_row' (P := Tryz.prog) 24 3 (.int .i64 0) 8 Tryz.underlying24 infoInt rfl .i64 .i64 F.op.length (by omega) (by omega)
  go_enter Tryz.func85, Tryz.ntmps85
  go_wp2_with fail
  have hsz : Hid ((w.alloc (.cells #[.slice A F.op.length c, .slice B F.di.length d] 27)).heap.size = w.heap.size + 1) := by show _ = _; simp
  generalize w.alloc (.cells #[.slice A F.op.length c, .slice B F.di.length d] 27) = wb at *
  have hkb : Kp wb wb := Kp.refl _
  have hkw := hk0
  have hs1 : w.heap.size + 1 ≤ wb.heap.size := by rw [hsz.out]; exact Nat.le_refl _
  have hs2 : wb.heap.size ≤ w.heap.size + 1 := by rw [hsz.out]; exact Nat.le_refl _
  have ho0 := own_made wb (w.heap.size + 1) F.op.length hs1 (by omega)
  have hkn := (Kp.refl wb).alloc (.cells (madeCells #[.int .i64 0] F.op.length) 3)
  rw [hsz.out, ← clT_zero F xs] at ho0
  clear hmk
  go_loopw [19] (fun iv wr => ∃ i : Nat, i ≤ F.di.length ∧ iv = .int .i64 i ∧ Own wr (w.heap.size + 1) (.slice (some ⟨w.heap.size + 1, 0, none⟩) F.op.length F.op.length) (clT F xs i 0) ∧ Kp wb wr) (fun iv _ => F.di.length - (intOf iv).toNat)
  case atStart => exact ⟨0, by omega, rfl, ho0, hkn⟩
  case round =>
    clear ho0 hkn
    obtain ⟨i, hi, rfl, hown, hkr⟩ := hrel
    obtain ⟨wo, rfl⟩ : ∃ wo : World, wo = wr := ⟨_, rfl⟩
    by_cases hlt : i < F.di.length
    · obtain ⟨pd, A4, ca, hPe, hcp, hrp⟩ := hB.at_ hlt
      subst hPe
      have Hrl := Lib.hid (HF.out.2.2.2 _ (List.getElem_mem hlt)).2
      have lx : i < xs.length := by rw [Hn1.out, Hd1.out]; exact hlt
      have hin : i < n1 := by rw [Hd1.out]; exact hlt
      obtain ⟨xd, rfl, hxc⟩ := h1.at_ lx
      have Hnum : Hid (xs[i] = numAt xs (i : Int)) := by show _ = _; simp [numAt, List.getD, lx]
      rw [Hnum.out] at hxc
      rw [Hrl.out] at hcp
      have q0 := hkr.get d0
      have q1 := hkr.get d1
      have q2 := hkr.get hcp
      go_wp2_with fail
      go_loopw [26] (fun iv wr => ∃ a : Nat, a ≤ F.op.length ∧ iv = .int .i64 a ∧ Own wr (w.heap.size + 1) (.slice (some ⟨w.heap.size + 1, 0, none⟩) F.op.length F.op.length) (clT F xs i a) ∧ Kp wb wr) (fun iv _ => F.op.length - (intOf iv).toNat)
      case atStart => exact ⟨0, by omega, rfl, hown, hkr⟩
      case round =>
        clear q0 q1 q2 hown hkr
        obtain ⟨a, ha, rfl, hown, hkr⟩ := hrel
        by_cases hla : a < F.op.length
        · obtain ⟨t1, t1f, t1p⟩ := hown.slotL (clT_len _ _ _ _) hla
          rw [clT_at hla] at t1
          have lr : a < F.di[i].length := by rw [Hrl.out]; exact hla
          obtain ⟨rd, rfl, hrc⟩ := hrp.at_ lr
          rw [dAt_atC hlt lr] at hrc
          obtain ⟨b1, b2, b3, b4, b5, b6⟩ := clv_bd HP.out hlt a
          obtain ⟨b7, b8⟩ := sum_clv HP.out a i (by omega)
          obtain ⟨s1, s2⟩ := t1p (sumTo (clv F xs a) i + clv F xs a i)
          rw [clT_set] at s1
          have Hcv : Hid (clv F xs a i = max 0 (numAt xs (i : Int) - dAt F i (a : Int))) := rfl
          have hk2 := hkr.setCell (p := ⟨w.heap.size + 1, a, none⟩) hs2 (.int .i64 (sumTo (clv F xs a) i + clv F xs a i))
          have q2 := hkr.get hxc
          have q3 := hkr.get hrc
          clear t1p s2
          generalize sumTo (clv F xs a) i = sm at *
          generalize clv F xs a i = cv at *
          generalize numAt xs (i : Int) = pv at *
          generalize dAt F i (a : Int) = dv at *
          have e0 : IntKind.i64.wrap (dv * 1) = dv := by rw [Int.mul_one]; exact IntWalk.i64_in _ (by omega)
          have e1 : IntKind.i64.wrap (pv - dv) = pv - dv := IntWalk.i64_in _ (by omega)
          have e2 : IntKind.i64.wrap (sm + cv) = sm + cv := IntWalk.i64_in _ (by omega)
          have e3 : max 0 (pv - dv) = cv := Hcv.out.symm
          go_wp2_with fail
          go_region
          all_goals
            go_wp2_with fail
            go_roundw
            case rel => exact ⟨a + 1, by omega, by go_num, s1.kp (Kp.refl _).drew, hk2.drew⟩
            case measure => simp [intOf]; omega
        · obtain rfl : a = F.op.length := by omega
          rw [clT_end] at hown
          go_wp2_with fail
          go_roundw
          case rel => exact ⟨i + 1, by omega, by go_num, hown, hkr⟩
          case measure => simp [intOf]; omega
    · obtain rfl : i = F.di.length := by omega
      rw [clT_all] at hown
      have hl : F.op.length = (clL F xs).length := (mapTo_len _ _).symm
      go_wp2_with fail
      go_ret
      exact ⟨_, rfl, hown.mono (Nat.le_succ _), hkw.trans hkr⟩
/-- What the opening costs leave, while the first k sites are done. -/
def rsT (F : Fld) (xs : List Int) (k : Nat) : List Int := mapTo (fun a => if a < k then opAt F (a : Int) - bidF F xs (a : Int) else bidF F xs (a : Int)) F.op.length
theorem rsT_len (F : Fld) (xs : List Int) (k : Nat) : (rsT F xs k).length = F.op.length := mapTo_len _ _
theorem rsT_get {F : Fld} {xs : List Int} {k a : Nat} (h : a < (rsT F xs k).length) : (rsT F xs k)[a] = if a < k then opAt F (a : Int) - bidF F xs (a : Int) else bidF F xs (a : Int) := by simp [rsT, mapTo]
theorem rsT_at {F : Fld} {xs : List Int} {k : Nat} (h : k < F.op.length) : lget (rsT F xs k) k = bidF F xs (k : Int) := by
  rw [lget_at (by rw [rsT_len]; exact h), rsT_get, if_neg (by omega)]
theorem rsT_set {F : Fld} {xs : List Int} {k : Nat} : (rsT F xs k).set k (opAt F (k : Int) - bidF F xs (k : Int)) = rsT F xs (k + 1) := by
  apply List.ext_getElem
  · rw [List.length_set, rsT_len, rsT_len]
  · intro j h1 h2
    rw [List.getElem_set, rsT_get, rsT_get]
    by_cases e : k = j
    · subst e; rw [if_pos rfl, if_pos (by omega)]
    · rw [if_neg e]
      by_cases hk : j < k
      · rw [if_pos hk, if_pos (by omega)]
      · rw [if_neg hk, if_neg (by omega)]
theorem rsT_zero (F : Fld) (xs : List Int) : rsT F xs 0 = clL F xs := by
  unfold rsT clL mapTo
  exact List.map_congr_left (fun b _ => if_neg (by omega))
theorem bid_bd {F : Fld} {xs : List Int} (h : pricedB F xs = true) (a : Nat) : 0 ≤ bidF F xs (a : Int) ∧ bidF F xs (a : Int) ≤ 3500 := by
  have h1 := sum_clv h a F.di.length (Nat.le_refl _)
  have h7 := (goodF_iff.1 (pricedB_iff.1 h).1).2.2.1
  show 0 ≤ sumTo (clv F xs a) F.di.length ∧ sumTo (clv F xs a) F.di.length ≤ 3500
  omega
theorem op_bdC {F : Fld} (hg : goodF F = true) {a : Nat} (ha : a < F.op.length) : F.op[a] = opAt F (a : Int) ∧ 0 ≤ opAt F (a : Int) ∧ opAt F (a : Int) ≤ 99 := by
  have e : F.op[a] = opAt F (a : Int) := by simp [opAt, List.getD, ha]
  have := (goodF_iff.1 hg).2.1 _ (List.getElem_mem ha)
  rw [e] at this
  exact ⟨e, this⟩
set_option maxRecDepth 100000 in
set_option maxHeartbeats 2000000 in
theorem rests_any (f : Value) (F : Fld) (A1 : Option Addr) (xs : List Int) (n1 c1 : Nat) (w : World) (hf : FldAt w f F) (h1 : IntsAt w A1 xs) (hn1 : xs.length = n1) (hp : pricedB F xs = true) :
    Calls Tryz.prog 61 #[f, .slice A1 n1 c1] w fun e w' => ∃ v, e = .returned v ∧ Own w' w.heap.size v (rsT F xs F.op.length) ∧ Kp w w' := by
  obtain ⟨A, c, B, d, rfl, hA, hB⟩ := hf
  have hk0 : Kp w (w.alloc (.cells #[.slice A F.op.length c, .slice B F.di.length d] 27)) := (Kp.refl w).alloc _
  obtain ⟨d0, d1⟩ := box2 w (.slice A F.op.length c) (.slice B F.di.length d) 27
  have hFA := FldAt.kp (show FldAt w (.agg #[.slice A F.op.length c, .slice B F.di.length d]) F from ⟨A, c, B, d, rfl, hA, hB⟩) hk0
  replace h1 := h1.kp hk0
  replace hA := hA.kp hk0
  have Hn1 := Lib.hid hn1
  have HP := Lib.hid hp
  have HG := Lib.hid (pricedB_iff.1 hp).1
  have HF := Lib.hid (goodF_iff.1 HG.out)
  have h1n := HF.out.1.1
  have h7n := HF.out.1.2
  clear hB hn1 hp
  go_enter Tryz.func61, Tryz.ntmps61
  go_wp2_with fail
  have hsz : Hid ((w.alloc (.cells #[.slice A F.op.length c, .slice B F.di.length d] 27)).heap.size = w.heap.size + 1) := by show _ = _; simp
  generalize w.alloc (.cells #[.slice A F.op.length c, .slice B F.di.length d] 27) = wb at *
  have hkb : Kp wb wb := Kp.refl _
  have hkw := hk0
  have hs1 : w.heap.size + 1 ≤ wb.heap.size := by rw [hsz.out]; exact Nat.le_refl _
  have CC := Lib.hid (claims_any _ F A1 xs n1 c1 _ (hFA.kp hkb) (h1.kp hkb) Hn1.out HP.out)
  with_reducible refine Calls.mono CC.out ?_
  rintro e w1 ⟨v, rfl, ho, hk1⟩
  clear CC
  replace hkb := hkb.trans hk1
  rw [← rsT_zero, hsz.out] at ho
  obtain ⟨g, cp, rfl⟩ := ho.at0 (rsT_len _ _ _) h1n
  have hgs := (ho.lt g rfl).1
  go_wp2_with fail
  obtain ⟨wk, hwk⟩ : ∃ q : World, q = w1 := ⟨_, rfl⟩
  go_loopw [13] (fun iv wr => ∃ k : Nat, k ≤ F.op.length ∧ iv = .int .i64 k ∧ Own wr (w.heap.size + 1) (.slice (some ⟨g, 0, none⟩) F.op.length cp) (rsT F xs k) ∧ Kp wb wr) (fun iv _ => F.op.length - (intOf iv).toNat)
  case atStart => exact ⟨0, by omega, rfl, ho, hkb⟩
  case round =>
    clear ho hwk wk
    obtain ⟨k, hk, rfl, hown, hkr⟩ := hrel
    by_cases hla : k < F.op.length
    · obtain ⟨t1, t1f, t1p⟩ := hown.slotL (rsT_len _ _ _) hla
      rw [rsT_at hla] at t1
      obtain ⟨e1, b1, b2⟩ := op_bdC HG.out hla
      obtain ⟨b3, b4⟩ := bid_bd HP.out k
      obtain ⟨ad, rfl, hoc⟩ := hA.at_ hla
      rw [e1] at hoc
      obtain ⟨s1, s2⟩ := t1p (opAt F (k : Int) - bidF F xs (k : Int))
      rw [rsT_set] at s1
      have hk2 := hkr.setCell (p := ⟨g, k, none⟩) (by rw [hsz.out] at hs1 ⊢; omega) (.int .i64 (opAt F (k : Int) - bidF F xs (k : Int)))
      have q0 := hkr.get d0
      have q1 := hkr.get d1
      have q2 := hkr.get hoc
      clear t1p s2
      generalize opAt F (k : Int) = ov at *
      generalize bidF F xs (k : Int) = bv at *
      have e2 : IntKind.i64.wrap (ov - bv) = ov - bv := IntWalk.i64_in _ (by omega)
      have e3 : wrap64 (ov - bv) = ov - bv := IntWalk.wrap64_in _ (by omega)
      go_wp2_with fail
      go_roundw
      case rel => exact ⟨k + 1, by omega, by go_num, s1, hk2⟩
      case measure => simp [intOf]; omega
    · obtain rfl : k = F.op.length := by omega
      go_wp2_with fail
      go_ret
      exact ⟨_, rfl, hown.mono (Nat.le_succ _), hkw.trans hkr⟩
theorem rs_all {F : Fld} {xs : List Int} {r : Int} (h1 : r ∈ rsT F xs F.op.length) (h2 : ∀ x ∈ rsT F xs F.op.length, r ≤ x) : decide (0 ≤ r) = fairB F xs := by
  rw [Bool.eq_iff_iff, decide_eq_true_eq, fairB_iff]
  constructor
  · intro h a ha
    have h3 := h2 _ (List.getElem_mem (show a < (rsT F xs F.op.length).length by rw [rsT_len]; exact ha))
    rw [rsT_get, if_pos ha] at h3
    omega
  · intro h
    obtain ⟨a, ha, rfl⟩ := List.getElem_of_mem h1
    rw [rsT_len] at ha
    rw [rsT_get, if_pos ha]
    have := h a ha
    omega
set_option maxRecDepth 100000 in
set_option maxHeartbeats 2000000 in
theorem areFair_any (f : Value) (F : Fld) (A1 : Option Addr) (xs : List Int) (n1 c1 : Nat) (w : World) (hf : FldAt w f F) (h1 : IntsAt w A1 xs) (hn1 : xs.length = n1) (hp : pricedB F xs = true) :
    Calls Tryz.prog 36 #[f, .slice A1 n1 c1] w fun e w' => e = .returned (.bool (fairB F xs)) ∧ Kp w w' := by
  obtain ⟨A, c, B, d, rfl, hA, hB⟩ := hf
  have hk0 : Kp w (w.alloc (.cells #[.slice A F.op.length c, .slice B F.di.length d] 27)) := (Kp.refl w).alloc _
  obtain ⟨d0, d1⟩ := box2 w (.slice A F.op.length c) (.slice B F.di.length d) 27
  have hFA := FldAt.kp (show FldAt w (.agg #[.slice A F.op.length c, .slice B F.di.length d]) F from ⟨A, c, B, d, rfl, hA, hB⟩) hk0
  replace h1 := h1.kp hk0
  have Hn1 := Lib.hid hn1
  have HP := Lib.hid hp
  have HF := Lib.hid (goodF_iff.1 (pricedB_iff.1 hp).1)
  have h1n := HF.out.1.1
  have h7n := HF.out.1.2
  clear hA hB hn1 hp
  go_enter Tryz.func36, Tryz.ntmps36
  go_wp2_with fail
  have hsz : Hid ((w.alloc (.cells #[.slice A F.op.length c, .slice B F.di.length d] 27)).heap.size = w.heap.size + 1) := by show _ = _; simp
  generalize w.alloc (.cells #[.slice A F.op.length c, .slice B F.di.length d] 27) = wb at *
  have hkb : Kp wb wb := Kp.refl _
  have hkw := hk0
  have CC := Lib.hid (rests_any _ F A1 xs n1 c1 _ (hFA.kp hkb) (h1.kp hkb) Hn1.out HP.out)
  with_reducible refine Calls.mono CC.out ?_
  rintro e w1 ⟨v, rfl, ho, hk1⟩
  clear CC
  replace hkb := hkb.trans hk1
  obtain ⟨A5, c5, rfl, i5⟩ := ho.ints (by rw [rsT_len]; omega)
  rw [rsT_len]
  clear ho
  have q_d0 := hkb.get d0
  have q_d1 := hkb.get d1
  go_wp2_with fail
  have CC := Lib.hid (min_any A5 (rsT F xs F.op.length) F.op.length c5 w1 i5 (rsT_len _ _ _) h1n)
  with_reducible refine Calls.mono CC.out ?_
  rintro e w2 ⟨r, rfl, hr1, hr2, hw⟩
  obtain rfl := hw
  clear CC q_d0 q_d1
  have Hf := Lib.hid (rs_all hr1 hr2)
  clear hr1 hr2 i5
  have q_d0 := hkb.get d0
  have q_d1 := hkb.get d1
  go_wp2_with fail
  go_ret
  exact ⟨ret_bool Hf.out, hkw.trans hkb⟩
end Go.Proofs.YtffpdebjjcbenaaGreat

namespace Go.Proofs.YtffpdebjjcbenaaGreat
open Go.RowKit Go.Sort

set_option maxRecDepth 100000 in
set_option maxHeartbeats 400000 in
theorem isPriced_any (f : Value) (F : Fld) (A1 : Option Addr) (xs : List Int) (n1 c1 : Nat) (w : World) (hf : FldAt w f F) (h1 : IntsAt w A1 xs) (hn1 : xs.length = n1) :
    Calls Tryz.prog 35 #[f, .slice A1 n1 c1] w fun e w' => e = .returned (.bool (pricedB F xs)) ∧ Kp w w' := by
  obtain ⟨A, c, B, d, rfl, hA, hB⟩ := hf
  have hk0 : Kp w (w.alloc (.cells #[.slice A F.op.length c, .slice B F.di.length d] 27)) := (Kp.refl w).alloc _
  obtain ⟨d0, d1⟩ := box2 w (.slice A F.op.length c) (.slice B F.di.length d) 27
  have hFA := FldAt.kp (show FldAt w (.agg #[.slice A F.op.length c, .slice B F.di.length d]) F from ⟨A, c, B, d, rfl, hA, hB⟩) hk0
  replace h1 := h1.kp hk0
  have Hn1 := Lib.hid hn1
  clear hA hB hn1
  go_enter Tryz.func35, Tryz.ntmps35
  go_wp2_with fail
  have hsz : Hid ((w.alloc (.cells #[.slice A F.op.length c, .slice B F.di.length d] 27)).heap.size = w.heap.size + 1) := by show _ = _; simp
  generalize w.alloc (.cells #[.slice A F.op.length c, .slice B F.di.length d] 27) = wb at *
  have hkb : Kp wb wb := Kp.refl _
  have hkw := hk0
  have CC := Lib.hid (isField_any _ F _ (hFA.kp hkb))
  with_reducible refine Calls.mono CC.out ?_
  rintro e w1 ⟨rfl, hk1⟩
  clear CC
  replace hkb := hkb.trans hk1
  cases hg_ : goodF F
  · have Hg : Hid (pricedB F xs = false) := by show _ = _; simp [pricedB, hg_]
    clear hg_
    have q_d0 := hkb.get d0
    have q_d1 := hkb.get d1
    go_wp2_with fail
    go_ret
    exact ⟨ret_bool Hg.out.symm, hkw.trans hkb⟩
  have Hg := Lib.hid hg_; clear hg_
  by_cases hl : n1 = F.di.length
  · have hl2 : ((n1 : Int) == (F.di.length : Int)) = true := by simp [hl]
    have Hl := Lib.hid (show pricedB F xs = allB xs 0 500 from by simp [pricedB, Hg.out, Hn1.out, hl])
    have q_d0 := hkb.get d0
    have q_d1 := hkb.get d1
    go_wp2_with fail
    have CC := Lib.hid (areBetween_any A1 xs F.di.length c1 0 500 _ (h1.kp hkb) (Hn1.out.trans hl))
    with_reducible refine Calls.mono CC.out ?_
    rintro e w2 ⟨rfl, hk2⟩
    clear CC q_d0 q_d1
    replace hkb := hkb.trans hk2
    have q_d0 := hkb.get d0
    have q_d1 := hkb.get d1
    go_wp2_with fail
    go_ret
    exact ⟨ret_bool Hl.out.symm, hkw.trans hkb⟩
  · have hl2 : ((n1 : Int) == (F.di.length : Int)) = false := by simp; omega
    have Hl := Lib.hid (show pricedB F xs = false from by simp [pricedB, Hg.out, Hn1.out, hl])
    have q_d0 := hkb.get d0
    have q_d1 := hkb.get d1
    go_wp2_with fail
    go_ret
    exact ⟨ret_bool Hl.out.symm, hkw.trans hkb⟩
def afR (F : Fld) (xs : List Int) : Bool := pricedB F xs && fairB F xs
theorem af_no {F : Fld} {xs : List Int} (h : pricedB F xs = false) : Ending.returned (.tuple #[.bool false, .bool false]) = .returned (.tuple #[.bool (afR F xs), .bool (pricedB F xs)]) := by rw [afR, h]; rfl
theorem af_yes {F : Fld} {xs : List Int} (h : pricedB F xs = true) : Ending.returned (.tuple #[.bool (fairB F xs), .bool true]) = .returned (.tuple #[.bool (afR F xs), .bool (pricedB F xs)]) := by rw [afR, h]; rfl
set_option maxRecDepth 100000 in
set_option maxHeartbeats 400000 in
theorem implAf_any (f : Value) (F : Fld) (A1 : Option Addr) (xs : List Int) (n1 c1 : Nat) (w : World) (hf : FldAt w f F) (h1 : IntsAt w A1 xs) (hn1 : xs.length = n1) :
    Calls Tryz.prog 15 #[f, .slice A1 n1 c1] w fun e w' => e = .returned (.tuple #[.bool (afR F xs), .bool (pricedB F xs)]) ∧ Kp w w' := by
  obtain ⟨A, c, B, d, rfl, hA, hB⟩ := hf
  have hk0 : Kp w (w.alloc (.cells #[.slice A F.op.length c, .slice B F.di.length d] 27)) := (Kp.refl w).alloc _
  obtain ⟨d0, d1⟩ := box2 w (.slice A F.op.length c) (.slice B F.di.length d) 27
  have hFA := FldAt.kp (show FldAt w (.agg #[.slice A F.op.length c, .slice B F.di.length d]) F from ⟨A, c, B, d, rfl, hA, hB⟩) hk0
  replace h1 := h1.kp hk0
  have Hn1 := Lib.hid hn1
  clear hA hB hn1
  go_enter Tryz.func15, Tryz.ntmps15
  go_wp2_with fail
  have hsz : Hid ((w.alloc (.cells #[.slice A F.op.length c, .slice B F.di.length d] 27)).heap.size = w.heap.size + 1) := by show _ = _; simp
  generalize w.alloc (.cells #[.slice A F.op.length c, .slice B F.di.length d] 27) = wb at *
  have hkb : Kp wb wb := Kp.refl _
  have hkw := hk0
  have CC := Lib.hid (isPriced_any _ F A1 xs n1 c1 _ (hFA.kp hkb) (h1.kp hkb) Hn1.out)
  with_reducible refine Calls.mono CC.out ?_
  rintro e w1 ⟨rfl, hk1⟩
  clear CC
  replace hkb := hkb.trans hk1
  cases hp : pricedB F xs
  · have Hno := Lib.hid (af_no hp)
    clear hp
    have q_d0 := hkb.get d0
    have q_d1 := hkb.get d1
    go_wp2_with fail
    go_ret2
    exact ⟨Hno.out, hkw.trans hkb⟩
  · have HP := Lib.hid hp
    have Hy := Lib.hid (af_yes hp)
    clear hp
    have q_d0 := hkb.get d0
    have q_d1 := hkb.get d1
    go_wp2_with fail
    have CC := Lib.hid (areFair_any _ F A1 xs n1 c1 _ (hFA.kp hkb) (h1.kp hkb) Hn1.out HP.out)
    with_reducible refine Calls.mono CC.out ?_
    rintro e w2 ⟨rfl, hk2⟩
    clear CC q_d0 q_d1
    replace hkb := hkb.trans hk2
    have q_d0 := hkb.get d0
    have q_d1 := hkb.get d1
    go_wp2_with fail
    go_ret2
    exact ⟨Hy.out, hkw.trans hkb⟩
end Go.Proofs.YtffpdebjjcbenaaGreat

namespace Go.Proofs.YtffpdebjjcbenaaGreat
open Go.RowKit Go.Sort

set_option maxHeartbeats 400000 in
theorem l1Least_any (a b : Int) (w : World) :
    Calls Tryz.prog 68 #[.int .i64 a, .int .i64 b] w fun e w' => e = .returned (.int .i64 (min a b)) ∧ w = w' := by
  go_enter Tryz.func68, Tryz.ntmps68
  go_wp2
  all_goals go_ret
  all_goals refine ⟨ret_int ?_, rfl⟩
  all_goals omega
end Go.Proofs.YtffpdebjjcbenaaGreat

namespace Go.Proofs.YtffpdebjjcbenaaGreat
open Go.RowKit Go.Sort

theorem put_has {S : List Int} {a : Int} {k : Nat} (hk : k < S.length) (h : S[k] = a) : putL S a = S := if_pos (h ▸ List.getElem_mem hk)
theorem put_at {S : List Int} {a : Int} {k : Nat} (hs : S.Pairwise (· < ·)) (h1 : ∀ x ∈ S.take k, x < a) (h2 : ∀ h : k < S.length, a < S[k]) : putL S a = S.take k ++ a :: S.drop k := by
  have hd : ∀ x ∈ S.drop k, a < x := by
    intro x hx
    obtain ⟨i, hi, rfl⟩ := List.getElem_of_mem hx
    have hi' : k + i < S.length := by simp at hi; omega
    have hk : k < S.length := by omega
    rw [List.getElem_drop]
    rcases Nat.eq_zero_or_pos i with rfl | hp
    · exact h2 hk
    · exact Int.lt_trans (h2 hk) (List.pairwise_iff_getElem.1 hs k (k + i) hk hi' (by omega))
  have hn : a ∉ S := by
    intro h
    rw [← List.take_append_drop k S, List.mem_append] at h
    rcases h with h | h
    · exact absurd (h1 a h) (by omega)
    · exact absurd (hd a h) (by omega)
  unfold putL
  rw [if_neg hn]
  have hw : S.takeWhile (· < a) = S.take k ∧ S.dropWhile (· < a) = S.drop k := by
    have e : S = S.take k ++ S.drop k := (List.take_append_drop k S).symm
    constructor
    · conv => lhs; rw [e]
      rw [List.takeWhile_append_of_pos (by intro x hx; simpa using h1 x hx)]
      cases hc : S.drop k with
      | nil => simp
      | cons y t => have := hd y (by rw [hc]; simp); rw [List.takeWhile_cons, if_neg (by simp; omega), List.append_nil]
    · conv => lhs; rw [e]
      rw [List.dropWhile_append_of_pos (by intro x hx; simpa using h1 x hx)]
      cases hc : S.drop k with
      | nil => simp
      | cons y t => have := hd y (by rw [hc]; simp); rw [List.dropWhile_cons, if_neg (by simp; omega)]
  rw [hw.1, hw.2]
end Go.Proofs.YtffpdebjjcbenaaGreat

namespace Go.Proofs.YtffpdebjjcbenaaGreat
open Go.RowKit Go.Sort

theorem IntsAt.take {w : World} {ad : Addr} {xs : List Int} (h : IntsAt w (some ad) xs) (k : Nat) : IntsAt w (some ad) (xs.take k) :=
  ⟨Nat.le_trans (by simp; omega) h.1, fun j hj => by
    have h1 : j < xs.length := by simp at hj; omega
    refine ⟨ad, rfl, ?_⟩
    rw [h.some_ h1]
    have h2 : j < k := by simp at hj; omega
    simp [List.getD, h1, h2, List.getElem?_take]⟩
theorem IntsAt.drop {w : World} {ad : Addr} {xs : List Int} (h : IntsAt w (some ad) xs) (k : Nat) : IntsAt w (some (ad.add k)) (xs.drop k) :=
  ⟨Nat.le_trans (by simp) h.1, fun j hj => by
    have h1 : k + j < xs.length := by simp at hj; omega
    refine ⟨ad.add k, rfl, ?_⟩
    have := h.some_ h1
    have e : (ad.add k).add j = ad.add (k + j) := by
      unfold Addr.add
      by_cases hk : k = 0 <;> by_cases hj0 : j = 0 <;> simp [hk, hj0, Nat.add_assoc]
    rw [e, this]
    simp [List.getD, h1]⟩
theorem Own.cap {w : World} {base n c : Nat} {v : Value} {A : Option Addr} {xs : List Int} (h : Own w base v xs) (e : v = .slice A n c) : xs.length ≤ c := by
  rcases h.2 with ⟨rfl, h0⟩ | ⟨g, cap, cur, rfl, _, _, h4, _⟩
  · omega
  · simp only [Value.slice.injEq] at e
    omega
theorem IntsAt.tail {w : World} {ad : Addr} {xs : List Int} {c : Nat} (h : IntsAt w (some ad) xs) (hc : xs.length ≤ c) (k : Nat) : IntsAt w (if c = k then some ad else some (ad.add k)) (xs.drop k) := by
  by_cases e : c = k
  · rw [if_pos e, List.drop_eq_nil_of_le (by omega)]; exact IntsAt.nil _ _
  · rw [if_neg e]; exact h.drop k
theorem own_ab (w : World) (a : Int) : Own ((w.alloc (.cells #[] 3)).alloc (.cells #[.int .i64 a] 3)) w.heap.size (.slice (some ⟨w.heap.size, 0, none⟩) 0 0) [] :=
  (own_new0 w _ (Nat.le_refl _)).kp ((Kp.refl _).alloc _)
theorem own_ba (w : World) (a : Int) : Own ((w.alloc (.cells #[.int .i64 a] 3)).alloc (.cells #[] 3)) w.heap.size (.slice (some ⟨w.heap.size + 1, 0, none⟩) 0 0) [] := by
  have := own_new0 (w.alloc (.cells #[.int .i64 a] 3)) w.heap.size (by simp)
  simpa using this
theorem Own.drew {w : World} {base : Nat} {v : Value} {xs : List Int} (h : Own w base v xs) : Own w.drew base v xs := h.kp (Kp.refl w).drew
theorem one_ab (w : World) (a : Int) : IntsAt ((w.alloc (.cells #[] 3)).alloc (.cells #[.int .i64 a] 3)) (some ⟨w.heap.size + 1, 0, none⟩) [a] := by
  have := one_new (w.alloc (.cells #[] 3)) a
  simpa using this
theorem one_ba (w : World) (a : Int) : IntsAt ((w.alloc (.cells #[.int .i64 a] 3)).alloc (.cells #[] 3)) (some ⟨w.heap.size, 0, none⟩) [a] :=
  (one_new w a).kp ((Kp.refl _).alloc _)
end Go.Proofs.YtffpdebjjcbenaaGreat

namespace Go.Proofs.YtffpdebjjcbenaaGreat
open Go.RowKit Go.Sort

theorem mem_putL {S : List Int} {a x : Int} : x ∈ putL S a ↔ x ∈ S ∨ x = a := by
  unfold putL
  by_cases h : a ∈ S
  · rw [if_pos h]
    constructor
    · exact .inl
    · rintro (h' | rfl)
      · exact h'
      · exact h
  · rw [if_neg h]
    have e : x ∈ S ↔ x ∈ S.takeWhile (· < a) ∨ x ∈ S.dropWhile (· < a) := by
      conv => lhs; rw [← List.takeWhile_append_dropWhile (p := fun y => decide (y < a)) (l := S)]
      rw [List.mem_append]
    rw [List.mem_append, List.mem_cons, e]
    constructor
    · rintro (h | h | h)
      · exact .inl (.inl h)
      · exact .inr h
      · exact .inl (.inr h)
    · rintro ((h | h) | h)
      · exact .inl h
      · exact .inr (.inr h)
      · exact .inr (.inl h)
theorem drop_gt : ∀ {S : List Int} {a : Int}, S.Pairwise (· < ·) → a ∉ S → ∀ x ∈ S.dropWhile (· < a), a < x
  | [], _, _, _, x, hx => by simp at hx
  | y :: t, a, hs, hn, x, hx => by
    rw [List.pairwise_cons] at hs
    simp only [List.mem_cons, not_or] at hn
    rw [List.dropWhile_cons] at hx
    by_cases h : y < a
    · rw [if_pos (by simpa using h)] at hx
      exact drop_gt hs.2 hn.2 x hx
    · rw [if_neg (by simpa using h)] at hx
      rcases List.mem_cons.1 hx with rfl | hx
      · omega
      · have := hs.1 x hx; omega
theorem take_lt {S : List Int} {a : Int} : ∀ x ∈ S.takeWhile (· < a), x < a := by
  induction S with
  | nil => intro x hx; simp at hx
  | cons y t ih =>
    intro x hx
    rw [List.takeWhile_cons] at hx
    by_cases h : y < a
    · rw [if_pos (by simpa using h)] at hx
      rcases List.mem_cons.1 hx with rfl | hx
      · exact h
      · exact ih x hx
    · rw [if_neg (by simpa using h)] at hx
      simp at hx
theorem putL_sorted {S : List Int} (hs : S.Pairwise (· < ·)) (a : Int) : (putL S a).Pairwise (· < ·) := by
  unfold putL
  by_cases h : a ∈ S
  · rw [if_pos h]; exact hs
  · rw [if_neg h, List.pairwise_append, List.pairwise_cons]
    have hd := drop_gt hs h
    refine ⟨hs.sublist (List.takeWhile_sublist _), ⟨hd, hs.sublist (List.dropWhile_sublist _)⟩, fun x hx y hy => ?_⟩
    have h1 := take_lt x hx
    rcases List.mem_cons.1 hy with rfl | hy
    · exact h1
    · have := hd y hy; omega
theorem putL_len (S : List Int) (a : Int) : (putL S a).length ≤ S.length + 1 := by
  unfold putL
  by_cases h : a ∈ S
  · rw [if_pos h]; omega
  · rw [if_neg h, List.length_append, List.length_cons]
    have : S.length = (S.takeWhile (· < a)).length + (S.dropWhile (· < a)).length := by
      conv => lhs; rw [← List.takeWhile_append_dropWhile (p := fun y => decide (y < a)) (l := S), List.length_append]
    omega
theorem putL_new {S : List Int} {a : Int} (h : a ∉ S) : (putL S a).length = S.length + 1 := by
  unfold putL
  rw [if_neg h, List.length_append, List.length_cons]
  have : S.length = (S.takeWhile (· < a)).length + (S.dropWhile (· < a)).length := by
    conv => lhs; rw [← List.takeWhile_append_dropWhile (p := fun y => decide (y < a)) (l := S), List.length_append]
  omega
theorem setB_nil (F : Fld) : setB F [] = true := rfl
theorem setB_put {F : Fld} {S : List Int} {a : Int} (h : setB F S = true) (h0 : 0 ≤ a) (h1 : a < F.op.length) : setB F (putL S a) = true := by
  have hr := ris_iff.1 h
  refine ris_iff.2 ⟨putL_sorted hr.1 a, fun x hx => ?_⟩
  rcases mem_putL.1 hx with hx | rfl
  · exact hr.2 x hx
  · omega
theorem setB_len {F : Fld} {S : List Int} (h : setB F S = true) : S.length ≤ F.op.length := by
  rw [← set_bits h]; exact bitsL_len _ _
theorem bits_any {n b a : Nat} (ha : a < n) : (bitsL n b).any (fun x => x == (a : Int)) = b.testBit a := by
  rw [Bool.eq_iff_iff, List.any_eq_true]
  constructor
  · rintro ⟨x, hx, e⟩
    obtain ⟨h0, h1, h2⟩ := mem_bitsL.1 hx
    have e' : x = a := by simpa using e
    subst e'
    simpa using h2
  · intro h
    exact ⟨a, mem_bitsL.2 ⟨by omega, by omega, by simpa using h⟩, by simp⟩
theorem bits_put {n b a : Nat} (ha : a < n) : bitsL n (b ||| 2 ^ a) = putL (bitsL n b) a := by
  refine rising_ext (bitsL_sorted _ _) (putL_sorted (bitsL_sorted _ _) _) (fun x => ?_)
  rw [mem_putL, mem_bitsL, mem_bitsL, Nat.testBit_or, Nat.testBit_two_pow, Bool.or_eq_true, decide_eq_true_eq]
  constructor
  · rintro ⟨h0, h1, h2 | h2⟩
    · exact .inl ⟨h0, h1, h2⟩
    · exact .inr (by omega)
  · rintro (⟨h0, h1, h2⟩ | rfl)
    · exact ⟨h0, h1, .inl h2⟩
    · exact ⟨by omega, by omega, .inr (by omega)⟩
theorem bits_zero (n : Nat) : bitsL n 0 = [] := by
  have : ∀ x, x ∉ bitsL n 0 := fun x hx => by have := (mem_bitsL.1 hx).2.2; simp at this
  exact List.eq_nil_iff_forall_not_mem.2 this

/-- What a site adds to the gain of a set. -/
def moreF (F : Fld) (worth : Int) (S : List Int) (a : Int) : Int := gainF F worth (putL S a) - gainF F worth S
theorem gainF_bd {F : Fld} (hg : goodF F = true) {worth : Int} (h0 : 0 ≤ worth) (h1 : worth ≤ 999) (S : List Int) : 0 ≤ gainF F worth S ∧ gainF F worth S ≤ 6993 := by
  by_cases h : S = []
  · subst h; rw [gainF_nil]; omega
  · rw [gainF_cons h]
    have := sumTo_bd (gainAt_bd (F := F) (S := S) h0 h1 (fun i => (nearF_bd hg S i).1)) F.di.length
    have h7 := (goodF_iff.1 hg).2.2.1
    omega
theorem moreF_bd {F : Fld} (hg : goodF F = true) {worth : Int} (h0 : 0 ≤ worth) (h1 : worth ≤ 999) (S : List Int) (a : Int) : -6993 ≤ moreF F worth S a ∧ moreF F worth S a ≤ 6993 := by
  have := gainF_bd hg h0 h1 S
  have := gainF_bd hg h0 h1 (putL S a)
  unfold moreF; omega

/-- The first one of the numbers below k that may be taken with the greatest value of more than 0, and this value. -/
def pickTo (ok : Nat → Bool) (val : Nat → Int) : Nat → Int × Int
  | 0 => (-1, 0)
  | k + 1 => if ok k && decide ((pickTo ok val k).2 < val k) then ((k : Int), val k) else pickTo ok val k
theorem pick_yes {ok : Nat → Bool} {val : Nat → Int} {k : Nat} (h1 : ok k = true) (h2 : (pickTo ok val k).2 < val k) : pickTo ok val (k + 1) = ((k : Int), val k) := by
  show (if _ then _ else _) = _
  rw [if_pos (by simp [h1, h2])]
theorem pick_no {ok : Nat → Bool} {val : Nat → Int} {k : Nat} (h : ok k = false) : pickTo ok val (k + 1) = pickTo ok val k := by
  show (if _ then _ else _) = _
  rw [if_neg (by simp [h])]
theorem pick_less {ok : Nat → Bool} {val : Nat → Int} {k : Nat} (h2 : ¬ (pickTo ok val k).2 < val k) : pickTo ok val (k + 1) = pickTo ok val k := by
  show (if _ then _ else _) = _
  rw [if_neg (by simp [h2])]
theorem pick_inv (ok : Nat → Bool) (val : Nat → Int) : ∀ k, pickTo ok val k = (-1, 0) ∨ ∃ a, a < k ∧ ok a = true ∧ 0 < val a ∧ pickTo ok val k = ((a : Int), val a)
  | 0 => .inl rfl
  | k + 1 => by
    have ih := pick_inv ok val k
    by_cases h : ok k = true
    · by_cases h2 : (pickTo ok val k).2 < val k
      · refine .inr ⟨k, by omega, h, ?_, pick_yes h h2⟩
        rcases ih with e | ⟨a, _, _, h3, e⟩ <;> rw [e] at h2 <;> simp at h2 <;> omega
      · rw [pick_less h2]
        rcases ih with e | ⟨a, h1, h3⟩
        · exact .inl e
        · exact .inr ⟨a, by omega, h3⟩
    · rw [pick_no (by simpa using h)]
      rcases ih with e | ⟨a, h1, h3⟩
      · exact .inl e
      · exact .inr ⟨a, by omega, h3⟩
theorem pick_bd (ok : Nat → Bool) (val : Nat → Int) (k : Nat) : -1 ≤ (pickTo ok val k).1 ∧ (pickTo ok val k).1 < k ∧ 0 ≤ (pickTo ok val k).2 := by
  rcases pick_inv ok val k with e | ⟨a, h1, _, h3, e⟩ <;> rw [e] <;> simp <;> omega
theorem pick_neg (ok : Nat → Bool) (val : Nat → Int) (k : Nat) : (pickTo ok val k).1 < 0 ↔ (pickTo ok val k).2 = 0 := by
  rcases pick_inv ok val k with e | ⟨a, h1, _, h3, e⟩ <;> rw [e] <;> simp <;> omega
theorem pick_congr {ok ok' : Nat → Bool} {val val' : Nat → Int} : ∀ k, (∀ a, a < k → ok a = ok' a) → (∀ a, a < k → ok a = true → val a = val' a) → pickTo ok val k = pickTo ok' val' k
  | 0, _, _ => rfl
  | k + 1, h1, h2 => by
    have ih := pick_congr k (fun a ha => h1 a (by omega)) (fun a ha => h2 a (by omega))
    show (if _ then _ else _) = (if _ then _ else _)
    rw [ih, ← h1 k (by omega)]
    by_cases h : ok k = true
    · rw [h2 k (by omega) h]
    · have : ok k = false := by simpa using h
      simp [this]

/-- Which sites may be put into a set. -/
def okF (may : List Int → Bool) (S : List Int) (a : Nat) : Bool := !(S.any fun x => x == (a : Int)) && may (putL S a)
/-- The site that is taken next, and what it adds. -/
def nextTo (F : Fld) (worth : Int) (may : List Int → Bool) (S : List Int) (k : Nat) : Int × Int := pickTo (okF may S) (fun a => moreF F worth S a) k
def nextF (F : Fld) (worth : Int) (may : List Int → Bool) (S : List Int) : Int × Int := nextTo F worth may S F.op.length
/-- At most j more sites, each one with the greatest marginal gain. -/
def grd (F : Fld) (worth : Int) (may : List Int → Bool) : Nat → List Int → List Int → List Int
  | 0, out, _ => out
  | j + 1, out, S => if (nextF F worth may S).1 < 0 then out else grd F worth may j (out ++ [(nextF F worth may S).1]) (putL S (nextF F worth may S).1)
theorem grd_zero {F : Fld} {worth : Int} {may : List Int → Bool} {out S : List Int} : grd F worth may 0 out S = out := rfl
theorem grd_stop {F : Fld} {worth : Int} {may : List Int → Bool} {j : Nat} {out S : List Int} (h : (nextF F worth may S).1 < 0) : grd F worth may j out S = out := by
  cases j with
  | zero => rfl
  | succ j => exact if_pos h
theorem grd_go {F : Fld} {worth : Int} {may : List Int → Bool} {j : Nat} {out S : List Int} (h : ¬ (nextF F worth may S).1 < 0) : grd F worth may (j + 1) out S = grd F worth may j (out ++ [(nextF F worth may S).1]) (putL S (nextF F worth may S).1) := if_neg h
theorem okF_out {may : List Int → Bool} {S : List Int} {a : Nat} (h : okF may S a = true) : (a : Int) ∉ S := by
  simp only [okF, Bool.and_eq_true] at h
  intro hm
  have h1 := h.1
  rw [List.any_eq_true.2 ⟨_, hm, by simp⟩] at h1
  simp at h1
theorem next_new {F : Fld} {worth : Int} {may : List Int → Bool} {S : List Int} (h : ¬ (nextF F worth may S).1 < 0) : (nextF F worth may S).1 ∉ S ∧ (nextF F worth may S).1 < F.op.length := by
  rcases pick_inv (okF may S) (fun a => moreF F worth S a) F.op.length with e | ⟨a, h1, h2, _, e⟩
  · refine absurd ?_ h
    show (pickTo _ _ _).1 < 0
    rw [e]; simp
  · show (pickTo _ _ _).1 ∉ S ∧ (pickTo _ _ _).1 < _
    rw [e]
    exact ⟨okF_out h2, by simpa using h1⟩
theorem grd_len {F : Fld} {worth : Int} {may : List Int → Bool} : ∀ (j : Nat) (out S : List Int), (grd F worth may j out S).length ≤ out.length + j
  | 0, out, S => Nat.le_refl _
  | j + 1, out, S => by
    by_cases h : (nextF F worth may S).1 < 0
    · rw [grd_stop h]; omega
    · rw [grd_go h]
      have := grd_len (F := F) (worth := worth) (may := may) j (out ++ [(nextF F worth may S).1]) (putL S (nextF F worth may S).1)
      simp at this; omega
/-- A set of all sites has no next one. -/
theorem next_full {F : Fld} {worth : Int} {may : List Int → Bool} {S : List Int} (hs : setB F S = true) (hl : S.length = F.op.length) : (nextF F worth may S).1 < 0 := by
  by_cases h : (nextF F worth may S).1 < 0
  · exact h
  · obtain ⟨h1, h2⟩ := next_new h
    have h3 := setB_len (setB_put hs (by omega) h2)
    rw [putL_new h1] at h3
    omega
end Go.Proofs.YtffpdebjjcbenaaGreat

namespace Go.Proofs.YtffpdebjjcbenaaGreat
open Go.RowKit Go.Sort

theorem putL_nil (a : Int) : putL [] a = [a] := by simp [putL]
theorem putL_len' (S : List Int) (a : Int) : (putL S a).length ≤ S.length + 1 := by
  unfold putL
  by_cases h : a ∈ S
  · rw [if_pos h]; omega
  · rw [if_neg h, List.length_append, List.length_cons]
    have : S.length = (S.takeWhile (· < a)).length + (S.dropWhile (· < a)).length := by
      conv => lhs; rw [← List.takeWhile_append_dropWhile (p := fun y => decide (y < a)) (l := S), List.length_append]
    omega
end Go.Proofs.YtffpdebjjcbenaaGreat

namespace Go.Proofs.YtffpdebjjcbenaaGreat
open Go.RowKit Go.Sort

theorem bagN_bits {n b : Nat} (h : b < 2 ^ n) : bagN (bitsL n b) = b := by
  apply Nat.eq_of_testBit_eq
  intro i
  rw [bagN_bit (fun y hy => (mem_bitsL.1 hy).1)]
  by_cases hi : i < n
  · rw [Bool.eq_iff_iff, decide_eq_true_eq, mem_bitsL]
    constructor
    · rintro ⟨_, _, h⟩; simpa using h
    · intro h; exact ⟨by omega, by omega, by simpa using h⟩
  · rw [Nat.testBit_lt_two_pow (Nat.lt_of_lt_of_le h (Nat.pow_le_pow_right (by omega) (by omega)))]
    rw [decide_eq_false]
    intro hm
    have := (mem_bitsL.1 hm).2.1
    omega
end Go.Proofs.YtffpdebjjcbenaaGreat

namespace Go.Proofs.YtffpdebjjcbenaaGreat
open Go.RowKit Go.Sort

/-- A slice value that reads as this list. -/
def SetAt (w : World) (v : Value) (S : List Int) : Prop := ∃ A c, v = .slice A S.length c ∧ S.length ≤ c ∧ IntsAt w A S
theorem SetAt.kp {w w' : World} {v : Value} {S : List Int} (h : SetAt w v S) (hk : Kp w w') : SetAt w' v S := by
  obtain ⟨A, c, e, h1, h2⟩ := h
  exact ⟨A, c, e, h1, h2.kp hk⟩
theorem Own.setAt {w : World} {base : Nat} {v : Value} {S : List Int} (h : Own w base v S) (hl : S.length ≤ 9223372036854775807) : SetAt w v S := by
  obtain ⟨A, c, e, hi⟩ := h.ints hl
  exact ⟨A, c, e, h.cap e, hi⟩
def anyS : List Int → Bool := fun _ => true
theorem Apart.fresh {w w' w2 : World} {base : Nat} {v u : Value} {xs ys : List Int} (h : Own w base v xs) (h' : Own w' w2.heap.size u ys) (hl : w.heap.size ≤ w2.heap.size) : Apart v u := fun g hg hu => by
  have h1 := h.lt g hg
  have h2 := h'.lt g hu
  omega
theorem own_new2 (w : World) : Own ((w.alloc (.cells #[] 3)).alloc (.cells #[] 3)) w.heap.size (.slice (some ⟨w.heap.size + 1, 0, none⟩) 0 0) [] := by
  have := own_new0 (w.alloc (.cells #[] 3)) w.heap.size (by simp)
  simpa using this
theorem apart_new (w : World) (n m c d : Nat) : Apart (.slice (some ⟨w.heap.size, 0, none⟩) n c) (.slice (some ⟨w.heap.size + 1, 0, none⟩) m d) := fun g hg hu => by
  simp [Value.ownBlock] at hg hu
  omega
theorem next_nn {F : Fld} {worth : Int} {may : List Int → Bool} {S : List Int} (h : ¬ (nextF F worth may S).1 < 0) : (nextF F worth may S).2 ≠ 0 := fun e => h ((pick_neg _ _ _).2 e)
/-- A function value that tells which sets may be taken. -/
def May (F : Fld) (FN : FuncId) (caps : Array Value) (may : List Int → Bool) (w : World) : Prop :=
  (∀ (args : Array Value) (w : World), Sem.run Tryz.prog (callFunc FN args) w = .ok (.enter FN args) w) ∧
  ∀ (S : List Int) (Av : Option Addr) (cv : Nat) (w' : World), Kp w w' → setB F S = true → IntsAt w' Av S → Calls Tryz.prog FN (#[.slice Av S.length cv] ++ caps) w' fun e w'' => e = .returned (.bool (may S)) ∧ Kp w' w''
theorem May.kp {F : Fld} {FN : FuncId} {caps : Array Value} {may : List Int → Bool} {w w' : World} (h : May F FN caps may w) (hk : Kp w w') : May F FN caps may w' :=
  ⟨h.1, fun S Av cv w2 h2 => h.2 S Av cv w2 (hk.trans h2)⟩
end Go.Proofs.YtffpdebjjcbenaaGreat

namespace Go.Proofs.YtffpdebjjcbenaaGreat
open Go.RowKit Go.Sort

def grdOk (F : Fld) (worth k : Int) : Bool := goodF F && worthB worth && inB k 0 7
def grdL (F : Fld) (worth k : Int) : List Int := if grdOk F worth k = true then grd F worth anyS k.toNat [] [] else []
theorem grdL_yes {F : Fld} {worth k : Int} (h : grdOk F worth k = true) : grdL F worth k = grd F worth anyS k.toNat [] [] := if_pos h
theorem grdL_no {F : Fld} {worth k : Int} (h : grdOk F worth k = false) : grdL F worth k = [] := if_neg (by simp [h])
theorem grdOk_parts {F : Fld} {worth k : Int} (h : grdOk F worth k = true) : goodF F = true ∧ (0 ≤ worth ∧ worth ≤ 999) ∧ 0 ≤ k ∧ k ≤ 7 := by
  simp only [grdOk, Bool.and_eq_true, worthB, inB_iff] at h
  exact ⟨h.1.1, h.1.2, h.2⟩
theorem grdL_len (F : Fld) (worth k : Int) : (grdL F worth k).length ≤ 1048576 := by
  by_cases h : grdOk F worth k = true
  · rw [grdL_yes h]
    have h1 := grd_len (F := F) (worth := worth) (may := anyS) k.toNat [] []
    have h2 := (grdOk_parts h).2.2
    simp at h1; omega
  · rw [grdL_no (by simpa using h)]; simp
end Go.Proofs.YtffpdebjjcbenaaGreat

namespace Go.Proofs.YtffpdebjjcbenaaGreat
open Go.RowKit Go.Sort

/-- How many of the first k sites are of class c. -/
def cntC (cl : List Int) (S : List Int) (c : Nat) : Nat := S.countP fun a => cl.getD a.toNat 0 == (c : Int)
def allowB (cl li S : List Int) : Bool := (List.range li.length).all fun c => decide ((cntC cl S c : Int) ≤ li.getD c 0)
def clsB (F : Fld) (cl li : List Int) : Bool := (cl.length == F.op.length) && allB cl 0 6 && (li.length == 7) && allB li 0 7
def allowOk (F : Fld) (cl li S : List Int) : Bool := goodF F && setB F S && clsB F cl li
theorem clsB_iff {F : Fld} {cl li : List Int} : clsB F cl li = true ↔ cl.length = F.op.length ∧ (∀ x ∈ cl, 0 ≤ x ∧ x ≤ 6) ∧ li.length = 7 ∧ ∀ x ∈ li, 0 ≤ x ∧ x ≤ 7 := by
  simp only [clsB, Bool.and_eq_true, beq_iff_eq, allB_iff]
  constructor
  · rintro ⟨⟨⟨h1, h2⟩, h3⟩, h4⟩; exact ⟨h1, h2, h3, h4⟩
  · rintro ⟨h1, h2, h3, h4⟩; exact ⟨⟨⟨h1, h2⟩, h3⟩, h4⟩
theorem row6_iff {n : Nat} {r : List Int} {hi : Int} : (allB r 0 hi && (r.length == n)) = true ↔ (∀ x ∈ r, 0 ≤ x ∧ x ≤ hi) ∧ r.length = n := by simp [allB_iff]

/- The reference's row check at any bound. -/
set_option maxHeartbeats 400000 in
theorem l2RowH_any (A : Option Addr) (xs : List Int) (m c n : Nat) (hi : Int) (w : World) (hx : IntsAt w A xs) (hnx : xs.length = m) :
    Calls Tryz.prog 69 #[.slice A m c, .int .i64 n, .int .i64 hi] w fun e w' => e = .returned (.bool (allB xs 0 hi && (xs.length == n))) ∧ w = w' := by
  have hm : m ≤ 9223372036854775807 := hnx ▸ hx.1
  have Hx := Lib.hid hnx; clear hnx
  go_enter Tryz.func69, Tryz.ntmps69
  go_wp2_with fail
  go_loop [7] (fun i => ∃ k : Nat, k ≤ m ∧ i = .int .i64 k ∧ Hid ((xs.take k).all (fun x => inB x 0 hi) = true)) (fun i => m - (intOf i).toNat)
  case atStart => exact ⟨0, by omega, rfl, rfl⟩
  case round =>
    obtain ⟨k, hk, rfl, Hp⟩ := hrel
    by_cases hlt : k < m
    · have lx : k < xs.length := by rw [Hx.out]; exact hlt
      obtain ⟨ad, rfl, hc⟩ := hx.at_ lx
      go_wp2_with fail
      refine (l1In_any _ _ _ _).mono ?_
      rintro e w' ⟨rfl, rfl⟩
      cases hpk : inB xs[k] 0 hi
      · go_wp2_with fail
        go_ret
        refine ⟨ret_bool ?_, rfl⟩
        have : allB xs 0 hi = false := all_false_of (p := fun x => inB x 0 hi) lx hpk
        simp [this, Array.getD]
      · go_wp2_with fail
        go_round
        case rel => exact ⟨k + 1, by omega, by go_num, all_take_succ Hp.out lx hpk⟩
        case measure => simp [intOf]; omega
    · go_wp2_with fail
      go_ret
      refine ⟨ret_bool ?_, rfl⟩
      have hp := Hp.out
      have e := Hx.out
      rw [List.take_of_length_le (by omega)] at hp
      have : allB xs 0 hi = true := hp
      rw [this, e, Bool.true_and, Bool.eq_iff_iff]
      simp [Array.getD]
      try omega

theorem cnt_succ {cl S : List Int} {c k : Nat} (hk : k < S.length) : cntC cl (S.take (k + 1)) c = cntC cl (S.take k) c + if (cl.getD (S[k]).toNat 0 == (c : Int)) = true then 1 else 0 := count_take_succ hk
theorem cnt_le (cl S : List Int) (c k : Nat) : cntC cl (S.take k) c ≤ k := count_le_len _ _ _
def leftTo (cl li S : List Int) (k : Nat) : List Int := (List.range li.length).map fun c => li.getD c 0 - (cntC cl (S.take k) c : Int)
theorem leftTo_len (cl li S : List Int) (k : Nat) : (leftTo cl li S k).length = li.length := by simp [leftTo]
theorem leftTo_zero (cl li S : List Int) : leftTo cl li S 0 = li := by
  apply List.ext_getElem (by simp [leftTo])
  intro i h1 h2
  simp [leftTo, cntC, List.getD, h2]
theorem leftTo_get {cl li S : List Int} {k c : Nat} (h : c < li.length) : (leftTo cl li S k).getD c 0 = li.getD c 0 - (cntC cl (S.take k) c : Int) := by
  simp [leftTo, List.getD, h]
theorem leftTo_succ {cl li S : List Int} {k : Nat} (hk : k < S.length) (h0 : 0 ≤ cl.getD (S[k]).toNat 0) :
    (leftTo cl li S k).set (cl.getD (S[k]).toNat 0).toNat ((leftTo cl li S k).getD (cl.getD (S[k]).toNat 0).toNat 0 - 1) = leftTo cl li S (k + 1) := by
  apply List.ext_getElem (by simp [leftTo])
  intro c h1 h2
  have hc : c < li.length := by simpa [leftTo] using h2
  rw [List.getElem_set]
  by_cases e : (cl.getD (S[k]).toNat 0).toNat = c
  · rw [if_pos e, e, leftTo_get hc]
    have e2 : (cl.getD (S[k]).toNat 0 == (c : Int)) = true := by rw [beq_iff_eq]; omega
    simp only [leftTo, List.getElem_map, List.getElem_range]
    rw [cnt_succ hk, e2]
    simp; omega
  · rw [if_neg e]
    have e2 : (cl.getD (S[k]).toNat 0 == (c : Int)) = false := by rw [beq_eq_false_iff_ne]; omega
    simp only [leftTo, List.getElem_map, List.getElem_range]
    rw [cnt_succ hk, e2]
    simp

def allowR (F : Fld) (cl li S : List Int) : Bool := allowOk F cl li S && allowB cl li S
theorem allow_no {F : Fld} {cl li S : List Int} (h : allowOk F cl li S = false) : Ending.returned (.tuple #[.bool (allowR F cl li S), .bool (allowOk F cl li S)]) = .returned (.tuple #[.bool false, .bool false]) := by simp [allowR, h]
theorem allow_yes {F : Fld} {cl li S : List Int} (h : allowOk F cl li S = true) : Ending.returned (.tuple #[.bool (allowR F cl li S), .bool (allowOk F cl li S)]) = .returned (.tuple #[.bool (allowB cl li S), .bool true]) := by simp [allowR, h]
theorem allowOk_parts {F : Fld} {cl li S : List Int} (h : allowOk F cl li S = true) : goodF F = true ∧ (∀ x ∈ S, 0 ≤ x ∧ x < cl.length) ∧ (∀ x ∈ cl, 0 ≤ x ∧ x < li.length) ∧ (∀ x ∈ li, 0 ≤ x ∧ x ≤ 7) ∧ li.length = 7 ∧ cl.length = F.op.length := by
  simp only [allowOk, Bool.and_eq_true] at h
  obtain ⟨⟨h1, h2⟩, h3⟩ := h
  obtain ⟨a, b, c, d⟩ := clsB_iff.1 h3
  exact ⟨h1, fun x hx => by rw [a]; exact set_mem h2 x hx, fun x hx => by have := b x hx; omega, d, c, a⟩

end Go.Proofs.YtffpdebjjcbenaaGreat

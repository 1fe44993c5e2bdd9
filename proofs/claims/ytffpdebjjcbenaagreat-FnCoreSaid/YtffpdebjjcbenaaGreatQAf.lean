/- The best set of a field and its total: reference and program; The field with some clients alone: reference and program; The field with some clients alone: the walks; The cost of a set of clients: reference and program; GainTable: reference and program. No condition. -/
import Derived.Test.YtffpdebjjcbenaaGreatQAe
import Derived.Test.YtffpdebjjcbenaaGreatQAb
import Derived.Deep.AppendLies
import Derived.Deep.RegionLaw
import Derived.Test.YtffpdebjjcbenaaGreatQAd
import Derived.Test.YtffpdebjjcbenaaGreatQAa
namespace Go.Proofs.YtffpdebjjcbenaaGreat
open Go.RowKit Go.Sort

def bestF (F : Fld) : List Int := bestL (totF F) (setsL F.op.length)
theorem sets_pos {F : Fld} (h : goodF F = true) : 0 < (setsL F.op.length).length := by
  have h1 := (goodF_iff.1 h).1.1
  rw [setsL_len]
  have : 2 ^ 1 ≤ 2 ^ F.op.length := Nat.pow_le_pow_right (by omega) h1
  omega
theorem sets_most {F : Fld} (h : goodF F = true) : (setsL F.op.length).length ≤ 127 := by
  have h1 := (goodF_iff.1 h).1.2
  rw [setsL_len]
  have : 2 ^ F.op.length ≤ 2 ^ 7 := Nat.pow_le_pow_right (by omega) h1
  omega
/-- What every one of the sets is. -/
def isSet (F : Fld) (S : List Int) : Prop := setB F S = true ∧ S ≠ []
theorem sets_set {F : Fld} : ∀ S ∈ setsL F.op.length, isSet F S := fun S h => by
  have := mem_setsL.1 h
  exact ⟨this.2, this.1⟩
theorem best_set {F : Fld} (h : goodF F = true) : isSet F (bestF F) := sets_set _ (bestL_mem (sets_pos h))
theorem total_val {f : Value} {F : Fld} {w : World} (hf : FldAt w f F) (hg : goodF F = true) : Val 38 #[f] #[] (totF F) (isSet F) w :=
  ⟨callFunc_of Tryz.func38 (by kernel_rfl) (by kernel_rfl), fun S Av cv w' hk hq hi _ => total_any f F Av S S.length cv w' (hf.kp hk) hi rfl hg hq.1 hq.2⟩
set_option maxRecDepth 100000 in
set_option maxHeartbeats 1000000 in
theorem bestSet_any (f : Value) (F : Fld) (w : World) (hf : FldAt w f F) (hg : goodF F = true) :
    Calls Tryz.prog 37 #[f] w fun e w' => ∃ u, e = .returned (.tuple #[u, .bool true]) ∧ RowP w' (some w.heap.size) u (bestF F) ∧ Kp w w' := by
  obtain ⟨A, c, B, d, rfl, hA, hB⟩ := hf
  have hk0 : Kp w (w.alloc (.cells #[.slice A F.op.length c, .slice B F.di.length d] 27)) := (Kp.refl w).alloc _
  obtain ⟨d0, d1⟩ := box2 w (.slice A F.op.length c) (.slice B F.di.length d) 27
  have hFA := FldAt.kp (show FldAt w (.agg #[.slice A F.op.length c, .slice B F.di.length d]) F from ⟨A, c, B, d, rfl, hA, hB⟩) hk0
  have hn7 := (goodF_iff.1 hg).1.2
  have HG := Lib.hid hg
  have HL0 := Lib.hid (sets_pos hg)
  have HL1 := Lib.hid (sets_most hg)
  clear hA hB hg
  go_enter Tryz.func37, Tryz.ntmps37
  go_wp2_with fail
  have hsz : Hid ((w.alloc (.cells #[.slice A F.op.length c, .slice B F.di.length d] 27)).heap.size = w.heap.size + 1) := by show _ = _; simp
  generalize w.alloc (.cells #[.slice A F.op.length c, .slice B F.di.length d] 27) = wb at *
  have hkb : Kp wb wb := Kp.refl _
  have hkw := hk0
  have CC := Lib.hid (isField_any _ F _ (hFA.kp hkb))
  with_reducible refine Calls.mono CC.out ?_
  rintro e w1 ⟨rfl, hk1⟩
  clear CC
  replace hkb := hkb.trans hk1
  rw [HG.out]
  obtain ⟨w5, rfl⟩ : ∃ w5 : World, w5 = w1 := ⟨_, rfl⟩
  have hkw5 := hkw.trans hkb
  have C1 := Lib.hid (fun (wx : World) (_ : Kp w5 wx) => sets_any F.op.length wx hn7)
  have C2 := Lib.hid (fun (wx : World) (hx : Kp w5 wx) (Ax : Option Addr) (cx m lo : Nat) (hm : (setsL F.op.length).length = m) (hr : RowsAt wx (some lo) Ax (setsL F.op.length)) => least_any 38 #[.agg #[.slice A F.op.length c, .slice B F.di.length d]] #[] (totF F) (isSet F) (some lo) Ax (setsL F.op.length) m cx wx hr hm (by have := HL0.out; omega) (total_val (hFA.kp (hkb.trans hx)) HG.out) sets_set)
  have hk5 : Kp w5 w5 := Kp.refl _
  have g0 := hkb.get d0
  have g1 := hkb.get d1
  clear hkb
  have q_g0 := hk5.get g0
  have q_g1 := hk5.get g1
  have tok1 : True := trivial
  go_wp2_with fail
  go_region_held3 (fun w' => w'.cell? ⟨w.heap.size, 0, none⟩ = some (.slice A F.op.length c) ∧ w'.cell? ⟨w.heap.size, 1, none⟩ = some (.slice B F.di.length d) ∧ Kp w5 w')
    (first | (refine keepc2 g0 g1 ?_; exact (by repeat (first | with_reducible assumption | with_reducible exact Kp.refl _ | with_reducible refine Kp.drew ?_ | with_reducible refine Kp.alloc ?_ _ | with_reducible refine Kp.drewN ?_ _ | refine Kp.setCell ?_ (by dsimp only; omega) _))) | fail)
    (first
      | (have _t := tok1; go_at_call 27; with_reducible refine Calls.mono (C1.out _ (by repeat (first | with_reducible assumption | with_reducible exact Kp.refl _ | with_reducible refine Kp.drew ?_ | with_reducible refine Kp.alloc ?_ _ | with_reducible refine Kp.drewN ?_ _ | refine Kp.setCell ?_ (by dsimp only; omega) _))) ?_; rintro e wr1 ⟨v, rfl, hvn, hgo, hka⟩; have hr1 : Kp w5 wr1 := Kp.trans (by repeat (first | with_reducible assumption | with_reducible exact Kp.refl _ | with_reducible refine Kp.drew ?_ | with_reducible refine Kp.alloc ?_ _ | with_reducible refine Kp.drewN ?_ _ | refine Kp.setCell ?_ (by dsimp only; omega) _)) hka; obtain ⟨Ax, cx, hve, hcx, hrows⟩ := hgo.rows (by have := HL1.out; omega); subst hve; have tok2 : True := trivial; clear tok1 _t)
      | (have _t := tok2; go_at_call 28; with_reducible refine Calls.mono (C2.out _ (by repeat (first | with_reducible assumption | with_reducible exact Kp.refl _ | with_reducible refine Kp.drew ?_ | with_reducible refine Kp.alloc ?_ _ | with_reducible refine Kp.drewN ?_ _ | refine Kp.setCell ?_ (by dsimp only; omega) _)) Ax cx _ _ rfl (hrows.kp (by repeat (first | with_reducible assumption | with_reducible exact Kp.refl _ | with_reducible refine Kp.drew ?_ | with_reducible refine Kp.alloc ?_ _ | with_reducible refine Kp.drewN ?_ _ | refine Kp.setCell ?_ (by dsimp only; omega) _)))) ?_; rintro e wr2 ⟨u, rfl, hu, hka⟩; have hr2 : Kp w5 wr2 := Kp.trans (by repeat (first | with_reducible assumption | with_reducible exact Kp.refl _ | with_reducible refine Kp.drew ?_ | with_reducible refine Kp.alloc ?_ _ | with_reducible refine Kp.drewN ?_ _ | refine Kp.setCell ?_ (by dsimp only; omega) _)) hka; have tok3 : True := trivial; clear tok2 _t)
      | fail)
  all_goals
    go_wp2_with fail
    go_ret2
    exact ⟨u, rfl, hu.mono (by have h1 := hkw5.le; simpa using h1), hkw5.trans hr2⟩
theorem bestTotal_any (f : Value) (F : Fld) (w : World) (hf : FldAt w f F) (hg : goodF F = true) :
    Calls Tryz.prog 16 #[f] w fun e w' => e = .returned (.tuple #[.int .i64 (totF F (bestF F)), .bool true]) ∧ Kp w w' := by
  have hbs := best_set hg
  obtain ⟨A, c, B, d, rfl, hA, hB⟩ := hf
  have hk0 : Kp w (w.alloc (.cells #[.slice A F.op.length c, .slice B F.di.length d] 27)) := (Kp.refl w).alloc _
  obtain ⟨d0, d1⟩ := box2 w (.slice A F.op.length c) (.slice B F.di.length d) 27
  have hFA := FldAt.kp (show FldAt w (.agg #[.slice A F.op.length c, .slice B F.di.length d]) F from ⟨A, c, B, d, rfl, hA, hB⟩) hk0
  have HG := Lib.hid hg
  have HS := Lib.hid hbs
  clear hA hB hg hbs
  go_enter Tryz.func16, Tryz.ntmps16
  go_wp2_with fail
  have hsz : Hid ((w.alloc (.cells #[.slice A F.op.length c, .slice B F.di.length d] 27)).heap.size = w.heap.size + 1) := by show _ = _; simp
  generalize w.alloc (.cells #[.slice A F.op.length c, .slice B F.di.length d] 27) = wb at *
  have hkb : Kp wb wb := Kp.refl _
  have hkw := hk0
  have CC := Lib.hid (bestSet_any _ F _ (hFA.kp hkb) HG.out)
  with_reducible refine Calls.mono CC.out ?_
  rintro e w1 ⟨u, rfl, hu, hk1⟩
  clear CC
  replace hkb := hkb.trans hk1
  obtain ⟨Av, cv, rfl, hcv, hiv⟩ := hu.read
  have q_d0 := hkb.get d0
  have q_d1 := hkb.get d1
  go_wp2_with fail
  have CC := Lib.hid (total_any _ F Av (bestF F) _ cv _ (hFA.kp hkb) hiv rfl HG.out HS.out.1 HS.out.2)
  with_reducible refine Calls.mono CC.out ?_
  rintro e w2 ⟨rfl, hk2⟩
  clear CC q_d0 q_d1
  replace hkb := hkb.trans hk2
  have q_d0 := hkb.get d0
  have q_d1 := hkb.get d1
  go_wp2_with fail
  go_ret2
  exact ⟨rfl, hkw.trans hkb⟩
set_option maxRecDepth 100000 in
set_option maxHeartbeats 1000000 in
theorem l2Best_any (f : Value) (F : Fld) (w : World) (hf : FldAt w f F) (hg : goodF F = true) :
    Calls Tryz.prog 79 #[f] w fun e w' => ∃ u, e = .returned u ∧ RowP w' (some w.heap.size) u (bestF F) ∧ Kp w w' := by
  obtain ⟨A, c, B, d, rfl, hA, hB⟩ := hf
  have hk0 : Kp w (w.alloc (.cells #[.slice A F.op.length c, .slice B F.di.length d] 27)) := (Kp.refl w).alloc _
  obtain ⟨d0, d1⟩ := box2 w (.slice A F.op.length c) (.slice B F.di.length d) 27
  have hFA := FldAt.kp (show FldAt w (.agg #[.slice A F.op.length c, .slice B F.di.length d]) F from ⟨A, c, B, d, rfl, hA, hB⟩) hk0
  have hn7 := (goodF_iff.1 hg).1.2
  have HG := Lib.hid hg
  have HL0 := Lib.hid (sets_pos hg)
  have HL1 := Lib.hid (sets_most hg)
  clear hA hB hg
  go_enter Tryz.func79, Tryz.ntmps79
  go_wp2_with fail
  have hsz : Hid ((w.alloc (.cells #[.slice A F.op.length c, .slice B F.di.length d] 27)).heap.size = w.heap.size + 1) := by show _ = _; simp
  generalize w.alloc (.cells #[.slice A F.op.length c, .slice B F.di.length d] 27) = wb at *
  have hkb : Kp wb wb := Kp.refl _
  have hkw := hk0
  have CC := Lib.hid (l2Sets_any F.op.length wb hn7)
  with_reducible refine Calls.mono CC.out ?_
  rintro e w1 ⟨v, rfl, hvn, hgo, hk1⟩
  clear CC
  replace hkb := hkb.trans hk1
  obtain ⟨ad, cx, hve, hcx, hrows⟩ := hgo.rows_some (by have := HL1.out; omega) hvn
  subst hve
  clear hgo hvn
  obtain ⟨rows, hre⟩ : ∃ rows, rows = setsL F.op.length := ⟨_, rfl⟩
  rw [← hre] at hrows hcx ⊢
  have HR := Lib.hid hre
  have Hbe : Hid (bestF F = bestL (totF F) rows) := by show _ = _; rw [hre]; rfl
  have Hset : Hid (∀ S ∈ rows, isSet F S) := by show ∀ S ∈ rows, _; rw [hre]; exact sets_set
  have l0 : 0 < rows.length := by rw [hre]; exact HL0.out
  have l1 : rows.length ≤ 127 := by rw [hre]; exact HL1.out
  clear hre
  have HB := Lib.hid (fun k (hk : k ≤ rows.length) => Hset.out _ (bestTo_mem (v := totF F) l0 k hk))
  obtain ⟨A2, c2, hcl, hc2, hri, hrp⟩ := hrows.some_ l0
  have hz : ad.add 0 = ad := by unfold Addr.add; simp
  rw [hz] at hcl
  have hst : Hid (bestTo (totF F) rows 1 = rows[0]) := by
    show _ = _
    rw [bestTo_succ l0]
    have e0 : bestTo (totF F) rows 0 = rows[0] := by unfold bestTo; simp [List.getD, l0]
    rw [e0]; unfold bestStep; simp
  obtain ⟨wl, rfl⟩ : ∃ wl : World, wl = w1 := ⟨_, rfl⟩
  have hkl := hkw.trans hkb
  have g0 := hkb.get d0
  have g1 := hkb.get d1
  replace hFA := hFA.kp hkb
  clear hkb d0 d1
  obtain ⟨m, hml⟩ : ∃ m, m = rows.length := ⟨_, rfl⟩
  rw [← hml] at l0 l1 ⊢
  replace hml := Lib.hid hml
  go_wp2_with fail
  clear hcl
  go_loopw [4, 5] (fun bv iv wr => ∃ (k : Nat) (Ab : Option Addr) (cb : Nat), 1 ≤ k ∧ k ≤ m ∧ iv = .int .i64 k ∧ bv = .slice Ab (bestTo (totF F) rows k).length cb ∧ RowP wr (some w.heap.size) (.slice Ab (bestTo (totF F) rows k).length cb) (bestTo (totF F) rows k) ∧ Kp wl wr) (fun _ iv _ => m - (intOf iv).toNat)
  case atStart => exact ⟨1, A2, c2, by omega, by omega, rfl, by rw [hst.out], by rw [hst.out]; exact hrp.mono hkw.le, Kp.refl _⟩
  case round =>
    obtain ⟨k, Ab, cb, hk1, hk, rfl, rfl, hb, hkr⟩ := hrel
    by_cases hlt : k < m
    · have lx : k < rows.length := by rw [← hml.out]; exact hlt
      obtain ⟨A3, c3, hcl, hc3, hri, hrq⟩ := (hrows.kp hkr).some_ lx
      obtain ⟨Ab', cb', eb, hcb, hbi⟩ := hb.read
      simp only [Value.slice.injEq] at eb
      obtain ⟨rfl, _, rfl⟩ := eb
      have q1 := Lib.hid (Hset.out _ (List.getElem_mem lx))
      have q2 := Lib.hid (HB.out k (Nat.le_of_lt lx))
      have hstep := Lib.hid (bestTo_succ (v := totF F) lx)
      have hkz : Kp wr wr := Kp.refl _
      have z0 := hkr.get g0
      have z1 := hkr.get g1
      have C1 := Lib.hid (fun (wx : World) (hx : Kp wr wx) => l2Total_any _ F A3 rows[k] _ c3 wx (hFA.kp (hkr.trans hx)) (hri.kp hx) rfl HG.out q1.out.1 q1.out.2)
      have C2 := Lib.hid (fun (wx : World) (hx : Kp wr wx) => l2Total_any _ F Ab (bestTo (totF F) rows k) _ cb wx (hFA.kp (hkr.trans hx)) (hbi.kp hx) rfl HG.out q2.out.1 q2.out.2)
      have q_z0 := hkz.get z0
      have q_z1 := hkz.get z1
      have q_hcl := hkz.get hcl
      have tok1 : True := trivial
      go_wp2_with fail
      go_region_held3 (fun w' => w'.cell? ⟨w.heap.size, 0, none⟩ = some (.slice A F.op.length c) ∧ w'.cell? ⟨w.heap.size, 1, none⟩ = some (.slice B F.di.length d) ∧ w'.cell? (ad.add k) = some (.slice A3 rows[k].length c3) ∧ Kp wr w')
        (first | (refine keepc3 z0 z1 hcl ?_; exact (by repeat (first | with_reducible assumption | with_reducible exact Kp.refl _ | with_reducible refine Kp.drew ?_ | with_reducible refine Kp.alloc ?_ _ | with_reducible refine Kp.drewN ?_ _ | refine Kp.setCell ?_ (by dsimp only; omega) _))) | fail)
        (first
          | (have _t := tok1; go_at_call 78; with_reducible refine Calls.mono (C1.out _ (by repeat (first | with_reducible assumption | with_reducible exact Kp.refl _ | with_reducible refine Kp.drew ?_ | with_reducible refine Kp.alloc ?_ _ | with_reducible refine Kp.drewN ?_ _ | refine Kp.setCell ?_ (by dsimp only; omega) _))) ?_; rintro e wr1 ⟨rfl, hka⟩; have hr1 : Kp wr wr1 := Kp.trans (by repeat (first | with_reducible assumption | with_reducible exact Kp.refl _ | with_reducible refine Kp.drew ?_ | with_reducible refine Kp.alloc ?_ _ | with_reducible refine Kp.drewN ?_ _ | refine Kp.setCell ?_ (by dsimp only; omega) _)) hka; have tok2 : True := trivial; clear tok1 _t)
          | (have _t := tok2; go_at_call 78; with_reducible refine Calls.mono (C2.out _ (by repeat (first | with_reducible assumption | with_reducible exact Kp.refl _ | with_reducible refine Kp.drew ?_ | with_reducible refine Kp.alloc ?_ _ | with_reducible refine Kp.drewN ?_ _ | refine Kp.setCell ?_ (by dsimp only; omega) _))) ?_; rintro e wr2 ⟨rfl, hka⟩; have hr2 : Kp wr wr2 := Kp.trans (by repeat (first | with_reducible assumption | with_reducible exact Kp.refl _ | with_reducible refine Kp.drew ?_ | with_reducible refine Kp.alloc ?_ _ | with_reducible refine Kp.drewN ?_ _ | refine Kp.setCell ?_ (by dsimp only; omega) _)) hka; have tok3 : True := trivial; clear tok2 _t)
          | fail)
      have hc4 := hr2.get hcl
      by_cases hlt2 : totF F rows[k] < totF F (bestTo (totF F) rows k)
      · have Hy : Hid (bestTo (totF F) rows (k + 1) = rows[k]) := by show _ = _; rw [hstep.out]; exact if_pos hlt2
        go_wp2_with fail
        go_roundw
        case rel => exact ⟨k + 1, A3, c3, by omega, by omega, by go_num, by rw [Hy.out], by rw [Hy.out]; exact (hrq.mono hkw.le).kp hr2, hkr.trans hr2⟩
        case measure => simp [intOf]; omega
      · have Hy : Hid (bestTo (totF F) rows (k + 1) = bestTo (totF F) rows k) := by show _ = _; rw [hstep.out]; exact if_neg hlt2
        go_wp2_with fail
        go_roundw
        case rel => exact ⟨k + 1, Ab, cb, by omega, by omega, by go_num, by rw [Hy.out], by rw [Hy.out]; exact hb.kp hr2, hkr.trans hr2⟩
        case measure => simp [intOf]; omega
    · obtain rfl : k = m := by omega
      have Hy : Hid (bestTo (totF F) rows k = bestF F) := by show _ = _; rw [Hbe.out, hml.out]; exact bestTo_all _ _
      go_wp2_with fail
      go_ret
      exact ⟨_, rfl, by rw [← Hy.out]; exact hb, hkl.trans hkr⟩
end Go.Proofs.YtffpdebjjcbenaaGreat

namespace Go.Proofs.YtffpdebjjcbenaaGreat
open Go.RowKit Go.Sort

def partF (F : Fld) (C : List Int) : Fld := ⟨F.op, C.map fun i => F.di.getD i.toNat []⟩
/-- A set of clients. -/
def crowdB (F : Fld) (C : List Int) : Bool := risB C 0 ((F.di.length : Int) - 1)
theorem crowd_mem {F : Fld} {C : List Int} (h : crowdB F C = true) : ∀ x ∈ C, 0 ≤ x ∧ x < F.di.length := fun x hx => by
  have := (ris_iff.1 h).2 x hx
  omega
theorem crowd_len {F : Fld} {C : List Int} (h : crowdB F C = true) : C.length ≤ F.di.length := by
  have hr := ris_iff.1 h
  have hm := crowd_mem h
  have := bitsL_len F.di.length (bagN C)
  rwa [bits_bag hr.1 hm] at this
theorem part_good {F : Fld} {C : List Int} (hg : goodF F = true) (hc : crowdB F C = true) : goodF (partF F C) = true := by
  have hp := goodF_iff.1 hg
  have hl := crowd_len hc
  refine goodF_iff.2 ⟨hp.1, hp.2.1, by simp [partF]; omega, fun r hr => ?_⟩
  simp only [partF, List.mem_map] at hr
  obtain ⟨i, hi, rfl⟩ := hr
  have hm := crowd_mem hc i hi
  have hk : i.toNat < F.di.length := by omega
  have e : F.di.getD i.toNat [] = F.di[i.toNat] := by simp [List.getD, hk]
  rw [e]
  exact hp.2.2.2 _ (List.getElem_mem hk)
/-- What stands in a cell. -/
def cvAt (p : Addr) (w : World) : Value := (w.cell? p).getD (.slice none 0 0)
theorem cv_of {p : Addr} {w : World} {u : Value} (h : w.cell? p = some u) : cvAt p w = u := by simp [cvAt, h]
theorem cv_is {p : Addr} {w : World} {u : Value} (h : w.cell? p = some u) : w.cell? p = some (cvAt p w) := by rw [cv_of h]; exact h
theorem run_appv {W : World} (ty : TypeId) (base : Nat) (v : Value) (n : Nat) (hs : List Value) (u : Value) (ad : Addr)
    (h1 : W.ownsRow base 24 1 v n hs) (hu : u.oneCell' = true) (hcell : W.cell? ad = some u) (hbase : base ≤ W.heap.size) (hlen : n < 1048576) :
    ∃ v' w', (Builtin.append_ #[25, 25] ty #[v, .slice (some ad) 1 1]).run Tryz.prog W = .ok v' w' ∧ w'.ownsRow base 24 1 v' (n + 1) (hs ++ [u]) ∧ W.grownBy w' v.ownBlock ∧ (v'.ownBlock = v.ownBlock ∨ ∀ g, v'.ownBlock = some g → W.heap.size ≤ g) ∧ v'.oneCell' = true := by
  obtain ⟨i0, hi, hz0, hz1, hz2⟩ := info_parts infoIntsG
  obtain ⟨v', w', hrun, g2, g3, _, g5⟩ := run_append_own_at (P := Tryz.prog) W base 25 ty 24 i0 (.slice none 0 0) 1 24 Tryz.underlying25 hi hz0 hz1 hz2 rfl (by decide) v n hs h1 ad 1 1 [u] rfl (by
      intro j u2 hj
      cases j with
      | zero =>
        have e : u = u2 := by simpa using hj
        have e2 : ad.add 0 = ad := by unfold Addr.add; simp
        rw [e2, ← e]; exact hcell
      | succ j => simp at hj) (by
      intro u2 hu2
      have e : u2 = u := by simpa using hu2
      rw [e]; exact hu) (by unfold maxLen; omega) (by omega) hbase
  refine ⟨v', w', hrun, g2, g3, ?_, ?_⟩
  · rcases g5 with e | e
    · exact .inl e
    · exact .inr (fun g hg => by rw [e] at hg; simp at hg; omega)
  · rcases g2.2 with ⟨rfl, _⟩ | ⟨g, cap, cur, rfl, _⟩ <;> rfl
theorem step_appv {ops : Array Oper} {o : Oper} {a : Act} {K : Act → World → Prop} {Q : Exit → Act → World → Prop} {E : Prop} {W : World} (hgd : o.guard = none) (s x : Operand)
    (ho : o.op = .call { callee := .builtin .append, args := #[s, x], argTypes := #[25, 25] }) (base : Nat) (v : Value) (n : Nat) (hs : List Value) (u : Value) (ad : Addr)
    (hsv : a.eval s = v) (hx : a.eval x = .slice (some ad) 1 1) (h1 : W.ownsRow base 24 1 v n hs) (hu : u.oneCell' = true) (hcell : W.cell? ad = some u) (hbase : base ≤ W.heap.size) (hlen : n < 1048576)
    (h : ∀ g' c' w', w'.ownsRow base 24 1 (.slice (some ⟨g', 0, none⟩) (n + 1) c') (n + 1) (hs ++ [u]) → Turn (fun i => v.ownBlock = some i) W w' → (v.ownBlock = some g' ∨ W.heap.size ≤ g') → K (a.put o.dst (.slice (some ⟨g', 0, none⟩) (n + 1) c')) w') :
    if Region.wanted o (yielded ops a.tmps) = true then Oper.wp Tryz.prog o a W K Q else E := by
  have hw : Region.wanted o (yielded ops a.tmps) = true := by simp [Region.wanted, hgd]
  rw [if_pos hw]
  obtain ⟨v', w', hrun, h2, h3, h4, _⟩ := run_appv (W := W) o.type base v n hs u ad h1 hu hcell hbase hlen
  unfold Oper.wp execOp
  simp only [ho, resolve, invoke, builtin, Sem.run_bind, Sem.run_pure, Result.andThen_ok, List.map_toArray, List.map_cons, List.map_nil, hsv, hx, hrun]
  rcases id h2.2 with ⟨_, e0⟩ | ⟨g, cap, cur, rfl, _⟩
  · omega
  · refine h g cap w' h2 (Turn.of_grown h3) ?_
    rcases h4 with e | e
    · exact .inl e.symm
    · exact .inr (e g rfl)
theorem wpl_appv {ops : Array Oper} {rest : List Oper} {o : Oper} {a : Act} {Q : Exit → Act → World → Prop} {W : World} (hgd : o.guard = none) (s x : Operand)
    (ho : o.op = .call { callee := .builtin .append, args := #[s, x], argTypes := #[25, 25] }) (base : Nat) (v : Value) (n : Nat) (hs : List Value) (u : Value)
    (hsv : a.eval s = v) (hx : a.eval x = .slice (some ⟨W.heap.size, 0, none⟩) 1 1) (h1 : W.ownsRow base 24 1 v n hs) (hu : u.oneCell' = true) (hbase : base ≤ W.heap.size) (hlen : n < 1048576)
    (h : ∀ g' c' w', w'.ownsRow base 24 1 (.slice (some ⟨g', 0, none⟩) (n + 1) c') (n + 1) (hs ++ [u]) → Turn (fun i => v.ownBlock = some i) W w' → (v.ownBlock = some g' ∨ W.heap.size ≤ g') → wpList Tryz.prog ops Q rest (a.put o.dst (.slice (some ⟨g', 0, none⟩) (n + 1) c')) w') :
    wpList Tryz.prog ops Q (o :: rest) a (W.alloc (.cells #[u] 24)) := by
  have hk : Kp W (W.alloc (.cells #[u] 24)) := (Kp.refl W).alloc _
  obtain ⟨v', w', hrun, h2, h3, h4, _⟩ := run_appv (W := W.alloc (.cells #[u] 24)) o.type base v n hs u ⟨W.heap.size, 0, none⟩ (hk.own h1) hu (by rw [World.cell?_alloc_at _ _ _ _ rfl]; rfl) (by simp; omega) hlen
  refine Lib.wpList_append_run _ hgd s x _ _ ho _ _ hsv hx v' w' hrun ?_
  rcases id h2.2 with ⟨_, e0⟩ | ⟨g, cap, cur, rfl, _⟩
  · omega
  · refine h g cap w' h2 ((Turn.of_kp hk).trans (Turn.of_grown h3)) ?_
    rcases h4 with e | e
    · exact .inl e.symm
    · exact .inr (by have := e g rfl; simp at this; omega)
/-- The headers of the rows of the clients, as they stand in the field. -/
def hdrs (w : World) (bd : Addr) (C : List Int) (k : Nat) : List Value := (C.take k).map fun i => cvAt (bd.add i.toNat) w
theorem hdrs_succ {w : World} {bd : Addr} {C : List Int} {k : Nat} (hk : k < C.length) : hdrs w bd C (k + 1) = hdrs w bd C k ++ [cvAt (bd.add (C[k]).toNat) w] := by
  unfold hdrs
  rw [List.take_succ_eq_append_getElem hk, List.map_append]; rfl
theorem hdrs_len (w : World) (bd : Addr) (C : List Int) (k : Nat) (hk : k ≤ C.length) : (hdrs w bd C k).length = k := by
  unfold hdrs; rw [List.length_map, List.length_take]; omega
/-- Behind the loop the headers are the new field's rows. -/
theorem hdrs_grid {w0 w : World} {bd : Addr} {F : Fld} {C : List Int} {base : Nat} {v : Value} (hB : C ≠ [] → GridAt w0 (some bd) F.di) (hk : Kp w0 w) (hc : ∀ x ∈ C, 0 ≤ x ∧ x < F.di.length) (hl : C.length ≤ 7) (h : w.ownsRow base 24 1 v C.length (hdrs w0 bd C C.length)) :
    ∃ A c, v = .slice A (partF F C).di.length c ∧ GridAt w A (partF F C).di := by
  have hlen : (partF F C).di.length = C.length := by simp [partF]
  rcases id h.2 with ⟨rfl, h0⟩ | ⟨g, cap, cur, rfl, _⟩
  · exact ⟨none, 0, by rw [hlen, h0], by rw [hlen]; omega, fun k hk => by rw [hlen, h0] at hk; omega⟩
  · refine ⟨_, cap, by rw [hlen], by rw [hlen]; omega, fun k hk2 => ?_⟩
    rw [hlen] at hk2
    have hm := hc _ (List.getElem_mem hk2)
    have hi : (C[k]).toNat < F.di.length := by omega
    obtain ⟨A, c, e1, e2⟩ := (hB (fun e => by subst e; simp at hk2)).some_ hi
    have e3 : (partF F C).di.getD k [] = F.di[(C[k]).toNat] := by simp [partF, List.getD, hk2, hi]
    have e4 : (hdrs w0 bd C C.length)[k]? = some (.slice A F.di[(C[k]).toNat].length c) := by
      unfold hdrs
      simp [hk2, cv_of e1]
    rw [e3]
    exact ⟨_, A, c, rfl, World.ownsRow.cells h (g := g) rfl k _ e4, e2.kp hk⟩
end Go.Proofs.YtffpdebjjcbenaaGreat

namespace Go.Proofs.YtffpdebjjcbenaaGreat
open Go.RowKit Go.Sort

def f2 (a b : Value) (j : Nat) : Value := if j = 0 then a else b
theorem row2f (w : World) (a b : Value) (t : TypeId) : (w.alloc (.cells #[a, b] t)).rowIs w.heap.size t 2 (f2 a b) :=
  World.rowIs_alloc w #[a, b] t _ (fun i hi => by
    have : i = 0 ∨ i = 1 := by simp at hi; omega
    rcases this with rfl | rfl <;> rfl)
theorem at2 {w : World} {g : Nat} {t : TypeId} {a b : Value} (h : w.rowIs g t 2 (f2 a b)) :
    w.cell? ⟨g, 0, none⟩ = some a ∧ w.cell? ⟨g, 1, none⟩ = some b ∧ ∀ j, w.frozen? ⟨g, j, none⟩ = false :=
  ⟨h.cell (i := 0) (by omega), h.cell (i := 1) (by omega), fun j => h.frozen j⟩
theorem set2 {w : World} {g : Nat} {t : TypeId} {a b : Value} (h : w.rowIs g t 2 (f2 a b)) (v : Value) :
    (w.setCell ⟨g, 0, none⟩ v).rowIs g t 2 (f2 v b) ∧ (w.setCell ⟨g, 1, none⟩ v).rowIs g t 2 (f2 a v) := by
  refine ⟨(h.set 0 v).congr ?_, (h.set 1 v).congr ?_⟩ <;>
    (intro i hi
     have : i = 0 ∨ i = 1 := by omega
     rcases this with rfl | rfl <;> rfl)
theorem row_turn {S : Nat → Prop} {w w' : World} {g n : Nat} {t : TypeId} {f : Nat → Value} (h : w.rowIs g t n f) (ht : Turn S w w') (hn : ¬ S g) : w'.rowIs g t n f := h.of_block (ht.block g h.lt hn)
theorem setCell_turn (w : World) (p : Addr) (v : Value) : Turn (fun i => i = p.block) w (w.setCell p v) :=
  ⟨rfl, rfl, rfl, by simp [World.setCell], fun i _ hn => Below.heap_setCell _ _ _ _ (by exact hn)⟩
/-- The loop that gathers the rows: k of them are there. -/
def Gath (w : World) (T R base : Nat) (Ah Bh : Value) (bd : Addr) (C : List Int) (k : Nat) (ov : Value) (wr : World) : Prop :=
  wr.rowIs T 27 2 (f2 Ah ov) ∧ wr.rowIs R 27 2 (f2 (.slice none 0 0) (.slice none 0 0)) ∧ wr.rowIs w.heap.size 27 2 (f2 Ah Bh) ∧ wr.ownsRow base 24 1 ov k (hdrs w bd C k) ∧ (∀ g, ov.ownBlock = some g → g ≠ T) ∧ Kp w wr
/-- A round: a new block, an append, a store. -/
theorem Gath.round {w : World} {T R base : Nat} {Ah Bh : Value} {bd : Addr} {C : List Int} {k : Nat} {ov : Value} {wr : World} (h : Gath w T R base Ah Bh bd C k ov wr) (hk : k < C.length) (hT : w.heap.size < T) (hTR : R ≠ T) (hR : w.heap.size < R) (hb : R < base) {W1 : World} (hk1 : Kp wr W1) {v' : Value} {w' : World} (ho : w'.ownsRow base 24 1 v' (k + 1) (hdrs w bd C k ++ [cvAt (bd.add (C[k]).toNat) w])) (ht : Turn (fun i => ov.ownBlock = some i) W1 w') (h4 : v'.ownBlock = ov.ownBlock ∨ ∀ g, v'.ownBlock = some g → W1.heap.size ≤ g) :
    Kp w w' ∧ w'.rowIs T 27 2 (f2 Ah ov) ∧ w'.rowIs w.heap.size 27 2 (f2 Ah Bh) ∧ Gath w T R base Ah Bh bd C (k + 1) v' (w'.setCell ⟨T, 1, none⟩ v') := by
  obtain ⟨r1, r2, r3, ho0, hap, hkw⟩ := h
  have hlt : ∀ g, ov.ownBlock = some g → base ≤ g := fun g hg => (World.ownsRow.lt ho0 g hg).1
  have t1 := row_turn (hk1.row r1) ht (fun hg => hap _ hg rfl)
  have t2 := row_turn (hk1.row r2) ht (fun hg => by have := hlt _ hg; omega)
  have t3 := row_turn (hk1.row r3) ht (fun hg => by have := hlt _ hg; omega)
  have hkw' : Kp w w' := (hkw.trans hk1).turn ht (fun i hi => by have := hlt i hi; omega)
  have ts := setCell_turn w' ⟨T, 1, none⟩ v'
  have hlT : T < wr.heap.size := r1.lt
  have hap' : ∀ g, v'.ownBlock = some g → g ≠ T := fun g hg => by
    rcases h4 with e | e
    · exact hap g (e ▸ hg)
    · have := e g hg
      have := hk1.le
      omega
  refine ⟨hkw', t1, t3, (set2 t1 v').2, row_turn t2 ts (fun e => hTR e), row_turn t3 ts (fun e => by have e2 : w.heap.size = T := e; omega), ?_, hap', hkw'.setCell (p := ⟨T, 1, none⟩) (by show w.heap.size ≤ T; omega) v'⟩
  rw [hdrs_succ hk]
  exact own_turn ho ts (fun g hg e => hap' g hg e)
theorem own_blk {g' g n c : Nat} (h : (Value.slice (some ⟨g', 0, none⟩) n c).ownBlock = some g) : g' = g := by simpa [Value.ownBlock] using h
theorem gath_keep {w wr w' : World} {T R base : Nat} {Ah Bh : Value} {bd : Addr} {C : List Int} {k : Nat} {ov u : Value} {q : Addr} (h : Gath w T R base Ah Bh bd C k ov wr) (hq : wr.cell? q = some u) (hk : Kp wr w') :
    w'.cell? ⟨w.heap.size, 1, none⟩ = some Bh ∧ w'.cell? q = some u ∧ Kp w w' := by
  obtain ⟨_, _, r3, _, _, hkw⟩ := h
  exact ⟨hk.get (at2 r3).2.1, hk.get hq, hkw.trans hk⟩
theorem gath_keep4 {w w' : World} {T : Nat} {Ah Bh ov u : Value} {q : Addr} {C : Prop} (h : Kp w w' ∧ w'.rowIs T 27 2 (f2 Ah ov) ∧ w'.rowIs w.heap.size 27 2 (f2 Ah Bh) ∧ C) (hq : w.cell? q = some u) :
    w'.cell? ⟨w.heap.size, 1, none⟩ = some Bh ∧ w'.cell? q = some u ∧ Kp w w' :=
  ⟨(at2 h.2.2.1).2.1, h.1.get hq, h.1⟩
theorem gath_keep5 {w w' : World} {T R base : Nat} {Ah Bh : Value} {bd : Addr} {C : List Int} {k : Nat} {ov u : Value} {q : Addr} (h : Gath w T R base Ah Bh bd C k ov w') (hq : w.cell? q = some u) :
    w'.cell? ⟨w.heap.size, 1, none⟩ = some Bh ∧ w'.cell? q = some u ∧ Kp w w' :=
  gath_keep h (h.2.2.2.2.2.get hq) (Kp.refl _)
set_option maxRecDepth 100000 in
set_option maxHeartbeats 2000000 in
theorem only_any (f : Value) (F : Fld) (A0 : Option Addr) (C : List Int) (n c0 : Nat) (w : World) (hf : FldAt w f F) (hC : IntsAt w A0 C) (hn : C.length = n) (hg : goodF F = true) (hc : crowdB F C = true) :
    Calls Tryz.prog 59 #[f, .slice A0 n c0] w fun e w' => ∃ v, e = .returned v ∧ FldAt w' v (partF F C) ∧ Kp w w' := by
  obtain ⟨A, c, B, d, rfl, hA, hB⟩ := hf
  have hn7 : n ≤ 7 := by have := crowd_len hc; have := (goodF_iff.1 hg).2.2.1; omega
  have hnb := hC.1
  have Hn := Lib.hid hn
  have Hm := Lib.hid (crowd_mem hc)
  obtain ⟨bd, hbd⟩ : ∃ bd, C ≠ [] → B = some bd := by
    cases B with
    | some b => exact ⟨b, fun _ => rfl⟩
    | none =>
      refine ⟨⟨0, 0, none⟩, fun hne => ?_⟩
      have h0 := crowd_mem hc _ (List.getElem_mem (List.length_pos_iff.2 hne))
      obtain ⟨b, _, _, e, _⟩ := hB.at_ (k := 0) (by omega)
      cases e
  have HB := Lib.hid (fun hne : C ≠ [] => (hbd hne ▸ hB : GridAt w (some bd) F.di))
  have HA := Lib.hid hA
  replace hbd := Lib.hid hbd
  clear hn hc hg hA
  have r1 := row2f w (.slice A F.op.length c) (.slice B F.di.length d) 27
  have r2 := (row2f (w.alloc (.cells #[.slice A F.op.length c, .slice B F.di.length d] 27)) (.slice none 0 0) (.slice none 0 0) 27).alloc (.cells #[.slice A F.op.length c, .slice none 0 0] 27)
  have r3 := row2f ((w.alloc (.cells #[.slice A F.op.length c, .slice B F.di.length d] 27)).alloc (.cells #[.slice none 0 0, .slice none 0 0] 27)) (.slice A F.op.length c) (.slice none 0 0) 27
  have hkw : Kp w (((w.alloc (.cells #[.slice A F.op.length c, .slice B F.di.length d] 27)).alloc (.cells #[.slice none 0 0, .slice none 0 0] 27)).alloc (.cells #[.slice A F.op.length c, .slice none 0 0] 27)) := (((Kp.refl w).alloc _).alloc _).alloc _
  replace r1 := ((((Kp.refl (w.alloc (.cells #[.slice A F.op.length c, .slice B F.di.length d] 27))).alloc (.cells #[.slice none 0 0, .slice none 0 0] 27)).alloc (.cells #[.slice A F.op.length c, .slice none 0 0] 27))).row r1
  simp only [World.size_alloc] at r1 r2 r3
  have hG0 : Gath w (w.heap.size + 1 + 1) (w.heap.size + 1) (w.heap.size + 1 + 1) (.slice A F.op.length c) (.slice B F.di.length d) bd C 0 (.slice none 0 0) (((w.alloc (.cells #[.slice A F.op.length c, .slice B F.di.length d] 27)).alloc (.cells #[.slice none 0 0, .slice none 0 0] 27)).alloc (.cells #[.slice A F.op.length c, .slice none 0 0] 27)) :=
    ⟨r3, r2, r1, World.ownsRow_nil _ _ _ _, (fun g hg => by simp [Value.ownBlock] at hg), hkw⟩
  clear r1 r2 r3 hkw
  go_enter Tryz.func59, Tryz.ntmps59
  go_wp2_with fail
  go_loopw [13] (fun iv wr => ∃ (k : Nat) (ov : Value), k ≤ n ∧ iv = .int .i64 k ∧ Gath w (w.heap.size + 1 + 1) (w.heap.size + 1) (w.heap.size + 1 + 1) (.slice A F.op.length c) (.slice B F.di.length d) bd C k ov wr) (fun iv _ => n - (intOf iv).toNat)
  case atStart => exact ⟨0, _, by omega, rfl, hG0⟩
  case round =>
    obtain ⟨k, ov, hk, rfl, hG⟩ := hrel
    have hG' := hG
    obtain ⟨r1, r2, r3, ho, hap, hkb⟩ := hG'
    obtain ⟨t0, t1, tf⟩ := at2 r1
    obtain ⟨z0, z1, _⟩ := at2 r3
    by_cases hlt : k < n
    · have lx : k < C.length := by rw [Hn.out]; exact hlt
      have hne : C ≠ [] := fun e => by subst e; simp at lx
      obtain ⟨ad, rfl, hck⟩ := (hC.kp hkb).at_ lx
      obtain ⟨i0, i1⟩ := Hm.out _ (List.getElem_mem lx)
      have hi : (C[k]).toNat < F.di.length := by omega
      have hbe := hbd.out hne
      subst hbe
      obtain ⟨A3, c3, hcl0, hri⟩ := (HB.out hne).some_ hi
      have hcl := hkb.get hcl0
      have Hcv : Hid (cvAt (bd.add (C[k]).toNat) w = .slice A3 F.di[(C[k]).toNat].length c3) := cv_of hcl0
      have tf1 := tf 1
      have HT1 := Lib.hid t1
      have HG := Lib.hid hG
      have HO := Lib.hid ho
      have x1 := (Kp.refl wr).drew.get t1
      have x2 := (Kp.refl wr).drew.get z1
      have x3 := (Kp.refl wr).drew.get hcl
      have x4 := (Kp.refl wr).drew.get hck
      have y1 := ((Kp.refl wr).alloc (.cells #[.slice A3 F.di[(C[k]).toNat].length c3] 24)).drew.get t1
      have hOV := Lib.hid (((Kp.refl wr).alloc (.cells #[.slice A3 F.di[(C[k]).toNat].length c3] 24)).drew.own ho)
      have hbs : w.heap.size + 1 + 1 ≤ (wr.alloc (.cells #[.slice A3 F.di[(C[k]).toNat].length c3] 24)).drew.heap.size := by have := r1.lt; show _ ≤ (wr.alloc _).heap.size; simp; omega
      clear hG r1 r2 r3 z0 t0 t1 z1 tf1 ho
      go_wp2_with fail
      go_region_law (first
        | (refine step_appv (by rfl) (.tmp 18) (.tmp 24) (by rfl) (w.heap.size + 1 + 1) ov k (hdrs w bd C k) (.slice A3 F.di[(C[k]).toNat].length c3) ⟨wr.heap.size, 0, none⟩ (by rfl) (by rfl) hOV.out rfl ((Kp.refl _).drew.get (by rw [World.cell?_alloc_at _ _ _ _ rfl]; rfl)) hbs (by omega) ?_; intro g' c' w' ho' ht' h4'; have hG4 := Gath.round HG.out lx (by omega) (by omega) (by omega) (by omega) ((Kp.refl wr).alloc _).drew (by rw [Hcv.out]; exact ho') ht' (h4'.imp (fun e => by rw [e]; rfl) (fun e g hg => own_blk hg ▸ e)); have s1 := (at2 hG4.2.1).2.1; have s2 := (at2 hG4.2.1).2.2 1)
        | fail)
      all_goals
        have hG5 := hG4.2.2.2
        go_wp2_with fail
        go_roundw
        case rel => exact ⟨k + 1, _, by omega, by go_num, hG5⟩
        case measure => simp [intOf]; omega
    · obtain rfl : k = n := by omega
      obtain ⟨y0, y1, yf⟩ := at2 r2
      have yf0 := yf 0
      have yf1 := yf 1
      rw [← Hn.out] at ho
      obtain ⟨Ao, co, rfl, _⟩ := hdrs_grid (F := F) HB.out hkb Hm.out (by rw [Hn.out]; exact hn7) ho
      have q1 := (set2 (set2 r2 (.slice A F.op.length c)).1 (.slice Ao (partF F C).di.length co)).2
      obtain ⟨x0, x1, _⟩ := at2 q1
      have X0 := Lib.hid x0
      have X1 := Lib.hid x1
      have ht := (setCell_turn wr ⟨w.heap.size + 1, 0, none⟩ (.slice A F.op.length c)).trans (setCell_turn (wr.setCell ⟨w.heap.size + 1, 0, none⟩ (.slice A F.op.length c)) ⟨w.heap.size + 1, 1, none⟩ (.slice Ao (partF F C).di.length co))
      have hks := hkb.turn ht (fun i hi => by have e : i = w.heap.size + 1 := hi; omega)
      have ho' := own_turn ho ht (fun g hg e => by have h1 := (World.ownsRow.lt ho g hg).1; have e2 : g = w.heap.size + 1 := e; omega)
      obtain ⟨Ao', co', he', hgr⟩ := hdrs_grid (F := F) HB.out hks Hm.out (by rw [Hn.out]; exact hn7) ho'
      simp only [Value.slice.injEq] at he'
      obtain ⟨rfl, _, rfl⟩ := he'
      have HGR := Lib.hid hgr
      have HKS := Lib.hid hks
      clear r1 r2 r3 yf hG x0 x1 q1 ht ho' hgr hks ho hap
      go_wp2_with fail
      have x0 := X0.out
      have x1 := X1.out
      refine bodyPost_ret (v := .agg #[.slice A F.op.length c, .slice Ao (partF F C).di.length co]) (by simp [results, Tryz.results59, go_sem, x0, x1]) (by simp [go_sem]) ?_
      exact ⟨_, rfl, ⟨A, c, Ao, co, rfl, HA.out.kp HKS.out, HGR.out⟩, HKS.out⟩
set_option maxRecDepth 100000 in
set_option maxHeartbeats 2000000 in
theorem l9Part_any (f : Value) (F : Fld) (A0 : Option Addr) (C : List Int) (n c0 : Nat) (w : World) (hf : FldAt w f F) (hC : IntsAt w A0 C) (hn : C.length = n) (hg : goodF F = true) (hc : crowdB F C = true) :
    Calls Tryz.prog 77 #[f, .slice A0 n c0] w fun e w' => ∃ v, e = .returned v ∧ FldAt w' v (partF F C) ∧ Kp w w' := by
  obtain ⟨A, c, B, d, rfl, hA, hB⟩ := hf
  have hn7 : n ≤ 7 := by have := crowd_len hc; have := (goodF_iff.1 hg).2.2.1; omega
  have hnb := hC.1
  have Hn := Lib.hid hn
  have Hm := Lib.hid (crowd_mem hc)
  obtain ⟨bd, hbd⟩ : ∃ bd, C ≠ [] → B = some bd := by
    cases B with
    | some b => exact ⟨b, fun _ => rfl⟩
    | none =>
      refine ⟨⟨0, 0, none⟩, fun hne => ?_⟩
      have h0 := crowd_mem hc _ (List.getElem_mem (List.length_pos_iff.2 hne))
      obtain ⟨b, _, _, e, _⟩ := hB.at_ (k := 0) (by omega)
      cases e
  have HB := Lib.hid (fun hne : C ≠ [] => (hbd hne ▸ hB : GridAt w (some bd) F.di))
  have HA := Lib.hid hA
  replace hbd := Lib.hid hbd
  clear hn hc hg hA
  have r1 := row2f w (.slice A F.op.length c) (.slice B F.di.length d) 27
  have K3 : Kp (w.alloc (.cells #[.slice A F.op.length c, .slice B F.di.length d] 27)) ((((w.alloc (.cells #[.slice A F.op.length c, .slice B F.di.length d] 27)).alloc (.cells #[.slice none 0 0, .slice none 0 0] 27)).alloc (.cells #[] 24)).alloc (.cells #[.slice A F.op.length c, .slice (some ⟨w.heap.size + 1 + 1, 0, none⟩) 0 0] 27)) := (((Kp.refl _).alloc _).alloc _).alloc _
  have r2 := ((row2f (w.alloc (.cells #[.slice A F.op.length c, .slice B F.di.length d] 27)) (.slice none 0 0) (.slice none 0 0) 27).alloc (.cells #[] 24)).alloc (.cells #[.slice A F.op.length c, .slice (some ⟨w.heap.size + 1 + 1, 0, none⟩) 0 0] 27)
  have r3 := row2f (((w.alloc (.cells #[.slice A F.op.length c, .slice B F.di.length d] 27)).alloc (.cells #[.slice none 0 0, .slice none 0 0] 27)).alloc (.cells #[] 24)) (.slice A F.op.length c) (.slice (some ⟨w.heap.size + 1 + 1, 0, none⟩) 0 0) 27
  have r4 := (World.ownsRow_lit (e := 24) (size := 1) (base := w.heap.size + 1 + 1) ((w.alloc (.cells #[.slice A F.op.length c, .slice B F.di.length d] 27)).alloc (.cells #[.slice none 0 0, .slice none 0 0] 27)) #[] 0 (by simp) (by unfold maxLen; omega) (by simp))
  replace r4 := ((Kp.refl _).alloc (.cells #[.slice A F.op.length c, .slice (some ⟨w.heap.size + 1 + 1, 0, none⟩) 0 0] 27)).own r4
  have hkw : Kp w ((((w.alloc (.cells #[.slice A F.op.length c, .slice B F.di.length d] 27)).alloc (.cells #[.slice none 0 0, .slice none 0 0] 27)).alloc (.cells #[] 24)).alloc (.cells #[.slice A F.op.length c, .slice (some ⟨w.heap.size + 1 + 1, 0, none⟩) 0 0] 27)) := ((((Kp.refl w).alloc _).alloc _).alloc _).alloc _
  replace r1 := K3.row r1
  simp only [World.size_alloc] at r1 r2 r3 r4
  have hG0 : Gath w (w.heap.size + 1 + 1 + 1) (w.heap.size + 1) (w.heap.size + 1 + 1) (.slice A F.op.length c) (.slice B F.di.length d) bd C 0 (.slice (some ⟨w.heap.size + 1 + 1, 0, none⟩) 0 0) ((((w.alloc (.cells #[.slice A F.op.length c, .slice B F.di.length d] 27)).alloc (.cells #[.slice none 0 0, .slice none 0 0] 27)).alloc (.cells #[] 24)).alloc (.cells #[.slice A F.op.length c, .slice (some ⟨w.heap.size + 1 + 1, 0, none⟩) 0 0] 27)) :=
    ⟨r3, r2, r1, r4, (fun g hg => by have := own_blk hg; omega), hkw⟩
  clear r1 r2 r3 r4 hkw K3
  go_enter Tryz.func77, Tryz.ntmps77
  go_wp2_with fail
  go_loopw [6] (fun iv wr => ∃ (k : Nat) (ov : Value), k ≤ n ∧ iv = .int .i64 k ∧ Gath w (w.heap.size + 1 + 1 + 1) (w.heap.size + 1) (w.heap.size + 1 + 1) (.slice A F.op.length c) (.slice B F.di.length d) bd C k ov wr) (fun iv _ => n - (intOf iv).toNat)
  case atStart => exact ⟨0, _, by omega, rfl, hG0⟩
  case round =>
    obtain ⟨k, ov, hk, rfl, hG⟩ := hrel
    have hG' := hG
    obtain ⟨r1, r2, r3, ho, hap, hkb⟩ := hG'
    obtain ⟨t0, t1, tf⟩ := at2 r1
    obtain ⟨z0, z1, _⟩ := at2 r3
    by_cases hlt : k < n
    · have lx : k < C.length := by rw [Hn.out]; exact hlt
      have hne : C ≠ [] := fun e => by subst e; simp at lx
      obtain ⟨ad, rfl, hck⟩ := (hC.kp hkb).at_ lx
      obtain ⟨i0, i1⟩ := Hm.out _ (List.getElem_mem lx)
      have hi : (C[k]).toNat < F.di.length := by omega
      have hbe := hbd.out hne
      subst hbe
      obtain ⟨A3, c3, hcl0, hri⟩ := (HB.out hne).some_ hi
      have hcl := hkb.get hcl0
      have Hcv : Hid (cvAt (bd.add (C[k]).toNat) w = .slice A3 F.di[(C[k]).toNat].length c3) := cv_of hcl0
      have tf1 := tf 1
      have HT1 := Lib.hid t1
      have HG := Lib.hid hG
      have HO := Lib.hid ho
      have x1 := (Kp.refl wr).drew.get t1
      have x2 := (Kp.refl wr).drew.get z1
      have x3 := (Kp.refl wr).drew.get hcl
      have x4 := (Kp.refl wr).drew.get hck
      have y1 := ((Kp.refl wr).alloc (.cells #[.slice A3 F.di[(C[k]).toNat].length c3] 24)).drew.get t1
      have hOV := Lib.hid (((Kp.refl wr).alloc (.cells #[.slice A3 F.di[(C[k]).toNat].length c3] 24)).drew.own ho)
      have hbs : w.heap.size + 1 + 1 ≤ (wr.alloc (.cells #[.slice A3 F.di[(C[k]).toNat].length c3] 24)).drew.heap.size := by have := r1.lt; show _ ≤ (wr.alloc _).heap.size; simp; omega
      clear hG r1 r2 r3 z0 t0 t1 z1 tf1 ho
      go_wp2_with fail
      go_region_law (first
        | (refine step_appv (by rfl) (.tmp 18) (.tmp 27) (by rfl) (w.heap.size + 1 + 1) ov k (hdrs w bd C k) (.slice A3 F.di[(C[k]).toNat].length c3) ⟨wr.heap.size, 0, none⟩ (by rfl) (by rfl) hOV.out rfl ((Kp.refl _).drew.get (by rw [World.cell?_alloc_at _ _ _ _ rfl]; rfl)) hbs (by omega) ?_; intro g' c' w' ho' ht' h4'; have hG4 := Gath.round HG.out lx (by omega) (by omega) (by omega) (by omega) ((Kp.refl wr).alloc _).drew (by rw [Hcv.out]; exact ho') ht' (h4'.imp (fun e => by rw [e]; rfl) (fun e g hg => own_blk hg ▸ e)); have s1 := (at2 hG4.2.1).2.1; have s2 := (at2 hG4.2.1).2.2 1)
        | fail)
      all_goals
        have hG5 := hG4.2.2.2
        go_wp2_with fail
        go_roundw
        case rel => exact ⟨k + 1, _, by omega, by go_num, hG5⟩
        case measure => simp [intOf]; omega
    · obtain rfl : k = n := by omega
      obtain ⟨y0, y1, yf⟩ := at2 r2
      have yf0 := yf 0
      have yf1 := yf 1
      rw [← Hn.out] at ho
      obtain ⟨Ao, co, rfl, _⟩ := hdrs_grid (F := F) HB.out hkb Hm.out (by rw [Hn.out]; exact hn7) ho
      have q1 := (set2 (set2 r2 (.slice A F.op.length c)).1 (.slice Ao (partF F C).di.length co)).2
      obtain ⟨x0, x1, _⟩ := at2 q1
      have X0 := Lib.hid x0
      have X1 := Lib.hid x1
      have ht := (setCell_turn wr ⟨w.heap.size + 1, 0, none⟩ (.slice A F.op.length c)).trans (setCell_turn (wr.setCell ⟨w.heap.size + 1, 0, none⟩ (.slice A F.op.length c)) ⟨w.heap.size + 1, 1, none⟩ (.slice Ao (partF F C).di.length co))
      have hks := hkb.turn ht (fun i hi => by have e : i = w.heap.size + 1 := hi; omega)
      have ho' := own_turn ho ht (fun g hg e => by have h1 := (World.ownsRow.lt ho g hg).1; have e2 : g = w.heap.size + 1 := e; omega)
      obtain ⟨Ao', co', he', hgr⟩ := hdrs_grid (F := F) HB.out hks Hm.out (by rw [Hn.out]; exact hn7) ho'
      simp only [Value.slice.injEq] at he'
      obtain ⟨rfl, _, rfl⟩ := he'
      have HGR := Lib.hid hgr
      have HKS := Lib.hid hks
      clear r1 r2 r3 yf hG x0 x1 q1 ht ho' hgr hks ho hap
      go_wp2_with fail
      have x0 := X0.out
      have x1 := X1.out
      refine bodyPost_ret (v := .agg #[.slice A F.op.length c, .slice Ao (partF F C).di.length co]) (by simp [results, Tryz.results77, go_sem, x0, x1]) (by simp [go_sem]) ?_
      exact ⟨_, rfl, ⟨A, c, Ao, co, rfl, HA.out.kp HKS.out, HGR.out⟩, HKS.out⟩
end Go.Proofs.YtffpdebjjcbenaaGreat

namespace Go.Proofs.YtffpdebjjcbenaaGreat
open Go.RowKit Go.Sort

def costF (F : Fld) (C : List Int) : Int := if C = [] then 0 else totF (partF F C) (bestF (partF F C))
theorem tot_bd {F : Fld} (h : goodF F = true) {S : List Int} (hs : setB F S = true) : 0 ≤ totF F S ∧ totF F S ≤ 1386 := by
  have h1 := payF_bd h hs
  have h2 := serveF_bd h S
  unfold totF; omega
theorem cost_bd {F : Fld} (h : goodF F = true) {C : List Int} (hc : crowdB F C = true) : 0 ≤ costF F C ∧ costF F C ≤ 1386 := by
  unfold costF
  by_cases e : C = []
  · rw [if_pos e]; omega
  · rw [if_neg e]
    have hp := part_good h hc
    exact tot_bd hp (best_set hp).1
theorem crowd_nil (F : Fld) : crowdB F [] = true := rfl
set_option maxRecDepth 100000 in
set_option maxHeartbeats 400000 in
theorem costOf_any (f : Value) (F : Fld) (A0 : Option Addr) (C : List Int) (n c0 : Nat) (w : World) (hf : FldAt w f F) (hC : IntsAt w A0 C) (hn : C.length = n) (hg : goodF F = true) (hc : crowdB F C = true) :
    Calls Tryz.prog 34 #[f, .slice A0 n c0] w fun e w' => e = .returned (.int .i64 (costF F C)) ∧ Kp w w' := by
  obtain ⟨A, c, B, d, rfl, hA, hB⟩ := hf
  have hk0 : Kp w (w.alloc (.cells #[.slice A F.op.length c, .slice B F.di.length d] 27)) := (Kp.refl w).alloc _
  obtain ⟨d0, d1⟩ := box2 w (.slice A F.op.length c) (.slice B F.di.length d) 27
  have hFA := FldAt.kp (show FldAt w (.agg #[.slice A F.op.length c, .slice B F.di.length d]) F from ⟨A, c, B, d, rfl, hA, hB⟩) hk0
  replace hC := hC.kp hk0
  have HP := Lib.hid (part_good hg hc)
  have hne : Hid (0 < n → costF F C = totF (partF F C) (bestF (partF F C))) := by
    show 0 < n → _
    intro h0
    exact if_neg (fun e => by subst e; simp at hn; omega)
  have hnil : Hid (n = 0 → costF F C = 0) := by
    show n = 0 → _
    intro h0
    exact if_pos (List.eq_nil_of_length_eq_zero (by omega))
  have HG := Lib.hid hg; have HC := Lib.hid hc; have Hn := Lib.hid hn
  clear hA hB hg hc hn
  by_cases h0 : n = 0
  · have e0 : Hid (costF F C = 0) := hnil.out h0
    subst h0
    go_enter Tryz.func34, Tryz.ntmps34
    go_wp2_with fail
    go_ret
    exact ⟨ret_int e0.out.symm, hk0⟩
  have hpos : 0 < n := by omega
  have hne0 : ((n : Int) == 0) = false := by simp; omega
  have e1 := Lib.hid (hne.out hpos)
  go_enter Tryz.func34, Tryz.ntmps34
  go_wp2_with fail
  have hsz : Hid ((w.alloc (.cells #[.slice A F.op.length c, .slice B F.di.length d] 27)).heap.size = w.heap.size + 1) := by show _ = _; simp
  generalize w.alloc (.cells #[.slice A F.op.length c, .slice B F.di.length d] 27) = wb at *
  have hkb : Kp wb wb := Kp.refl _
  have hkw := hk0
  have CC := Lib.hid (only_any _ F A0 C n c0 _ (hFA.kp hkb) (hC.kp hkb) Hn.out HG.out HC.out)
  with_reducible refine Calls.mono CC.out ?_
  rintro e w1 ⟨v, rfl, hv, hk1⟩
  clear CC
  replace hkb := hkb.trans hk1
  have q_d0 := hkb.get d0
  have q_d1 := hkb.get d1
  go_wp2_with fail
  have CC := Lib.hid (bestTotal_any v (partF F C) _ hv HP.out)
  with_reducible refine Calls.mono CC.out ?_
  rintro e w2 ⟨rfl, hk2⟩
  clear CC q_d0 q_d1
  replace hkb := hkb.trans hk2
  have q_d0 := hkb.get d0
  have q_d1 := hkb.get d1
  go_wp2_with fail
  go_ret
  exact ⟨ret_int e1.out.symm, hkw.trans hkb⟩
set_option maxRecDepth 100000 in
set_option maxHeartbeats 400000 in
theorem l9Cost_any (f : Value) (F : Fld) (A0 : Option Addr) (C : List Int) (n c0 : Nat) (w : World) (hf : FldAt w f F) (hC : IntsAt w A0 C) (hn : C.length = n) (hg : goodF F = true) (hc : crowdB F C = true) :
    Calls Tryz.prog 54 #[f, .slice A0 n c0] w fun e w' => e = .returned (.int .i64 (costF F C)) ∧ Kp w w' := by
  obtain ⟨A, c, B, d, rfl, hA, hB⟩ := hf
  have hk0 : Kp w (w.alloc (.cells #[.slice A F.op.length c, .slice B F.di.length d] 27)) := (Kp.refl w).alloc _
  obtain ⟨d0, d1⟩ := box2 w (.slice A F.op.length c) (.slice B F.di.length d) 27
  have hFA := FldAt.kp (show FldAt w (.agg #[.slice A F.op.length c, .slice B F.di.length d]) F from ⟨A, c, B, d, rfl, hA, hB⟩) hk0
  replace hC := hC.kp hk0
  have HP := Lib.hid (part_good hg hc)
  have hne : Hid (0 < n → costF F C = totF (partF F C) (bestF (partF F C))) := by
    show 0 < n → _
    intro h0
    exact if_neg (fun e => by subst e; simp at hn; omega)
  have hnil : Hid (n = 0 → costF F C = 0) := by
    show n = 0 → _
    intro h0
    exact if_pos (List.eq_nil_of_length_eq_zero (by omega))
  have HG := Lib.hid hg; have HC := Lib.hid hc; have Hn := Lib.hid hn
  clear hA hB hg hc hn
  by_cases h0 : n = 0
  · have e0 : Hid (costF F C = 0) := hnil.out h0
    subst h0
    go_enter Tryz.func54, Tryz.ntmps54
    go_wp2_with fail
    go_ret
    exact ⟨ret_int e0.out.symm, hk0⟩
  have hpos : 0 < n := by omega
  have hne0 : ((n : Int) == 0) = false := by simp; omega
  have e1 := Lib.hid (hne.out hpos)
  go_enter Tryz.func54, Tryz.ntmps54
  go_wp2_with fail
  have hsz : Hid ((w.alloc (.cells #[.slice A F.op.length c, .slice B F.di.length d] 27)).heap.size = w.heap.size + 1) := by show _ = _; simp
  generalize w.alloc (.cells #[.slice A F.op.length c, .slice B F.di.length d] 27) = wb at *
  have hkb : Kp wb wb := Kp.refl _
  have hkw := hk0
  have CC := Lib.hid (l9Part_any _ F A0 C n c0 _ (hFA.kp hkb) (hC.kp hkb) Hn.out HG.out HC.out)
  with_reducible refine Calls.mono CC.out ?_
  rintro e w1 ⟨v, rfl, hv, hk1⟩
  clear CC
  replace hkb := hkb.trans hk1
  have hvF := hv
  obtain ⟨A2, c2, B2, d2, rfl, _, _⟩ := hv
  have hk1' := (Kp.refl w1).alloc (.cells #[.slice A2 (partF F C).op.length c2, .slice B2 (partF F C).di.length d2] 27)
  obtain ⟨p0, p1⟩ := box2 w1 (.slice A2 (partF F C).op.length c2) (.slice B2 (partF F C).di.length d2) 27
  replace hvF := hvF.kp hk1'
  have hkw2 := (hkw.trans hkb).trans hk1'
  clear hkb
  go_wp2_with fail
  generalize hH : w1.heap.size = H at *
  generalize w1.alloc (.cells #[.slice A2 (partF F C).op.length c2, .slice B2 (partF F C).di.length d2] 27) = wd at *
  have hkz : Kp wd wd := Kp.refl _
  have C1 := Lib.hid (fun (wx : World) (hx : Kp wd wx) => l2Best_any _ (partF F C) wx (hvF.kp hx) HP.out)
  have C2 := Lib.hid (fun (wx : World) (hx : Kp wd wx) (lo : Option Nat) (u : Value) (hu : RowP wx lo u (bestF (partF F C))) => (show ∃ Av cv, u = .slice Av (bestF (partF F C)).length cv ∧ Calls Tryz.prog 78 #[.agg #[.slice A2 (partF F C).op.length c2, .slice B2 (partF F C).di.length d2], .slice Av (bestF (partF F C)).length cv] wx fun e w' => e = .returned (.int .i64 (totF (partF F C) (bestF (partF F C)))) ∧ Kp wx w' from by
    obtain ⟨Av, cv, e, _, hi⟩ := hu.read
    exact ⟨Av, cv, e, l2Total_any _ (partF F C) Av _ _ cv wx (hvF.kp hx) hi rfl HP.out (best_set HP.out).1 (best_set HP.out).2⟩))
  have q_p0 := hkz.get p0
  have q_p1 := hkz.get p1
  have tok1 : True := trivial
  go_wp2_with fail
  go_region_held3 (fun w' => w'.cell? ⟨H, 0, none⟩ = some (.slice A2 (partF F C).op.length c2) ∧ w'.cell? ⟨H, 1, none⟩ = some (.slice B2 (partF F C).di.length d2) ∧ Kp wd w')
    (first | (refine keepc2 p0 p1 ?_; exact (by repeat (first | with_reducible assumption | with_reducible exact Kp.refl _ | with_reducible refine Kp.drew ?_ | with_reducible refine Kp.alloc ?_ _ | with_reducible refine Kp.drewN ?_ _ | refine Kp.setCell ?_ (by dsimp only; omega) _))) | fail)
    (first
      | (have _t := tok1; go_at_call 79; with_reducible refine Calls.mono (C1.out _ (by repeat (first | with_reducible assumption | with_reducible exact Kp.refl _ | with_reducible refine Kp.drew ?_ | with_reducible refine Kp.alloc ?_ _ | with_reducible refine Kp.drewN ?_ _ | refine Kp.setCell ?_ (by dsimp only; omega) _))) ?_; rintro e wr1 ⟨u, rfl, hu, hka⟩; have hr1 : Kp wd wr1 := Kp.trans (by repeat (first | with_reducible assumption | with_reducible exact Kp.refl _ | with_reducible refine Kp.drew ?_ | with_reducible refine Kp.alloc ?_ _ | with_reducible refine Kp.drewN ?_ _ | refine Kp.setCell ?_ (by dsimp only; omega) _)) hka; obtain ⟨Av, cv, hue, hct⟩ := C2.out _ hr1 _ _ hu; subst hue; have tok2 : True := trivial; clear tok1 _t)
      | (have _t := tok2; go_at_call 78; with_reducible refine Calls.mono hct ?_; rintro e wr2 ⟨rfl, hka⟩; have hr2 : Kp wd wr2 := Kp.trans hr1 hka; have tok3 : True := trivial; clear tok2 _t)
      | fail)
  go_wp2_with fail
  go_ret
  exact ⟨ret_int e1.out.symm, hkw2.trans hr2⟩
end Go.Proofs.YtffpdebjjcbenaaGreat

namespace Go.Proofs.YtffpdebjjcbenaaGreat
open Go.RowKit Go.Sort

def tabF (F : Fld) (worth : Int) (b : Nat) : Int := gainF F worth (bitsL F.op.length b)
def tabOk (F : Fld) (worth : Int) : Bool := goodF F && worthB worth
def tabL (F : Fld) (worth : Int) : List Int := if tabOk F worth = true then mapTo (tabF F worth) (2 ^ F.op.length) else []
theorem tabL_yes {F : Fld} {worth : Int} (h : tabOk F worth = true) : tabL F worth = mapTo (tabF F worth) (2 ^ F.op.length) := if_pos h
theorem tabL_no {F : Fld} {worth : Int} (h : tabOk F worth = false) : tabL F worth = [] := if_neg (by simp [h])
theorem tabOk_parts {F : Fld} {worth : Int} (h : tabOk F worth = true) : goodF F = true ∧ 0 ≤ worth ∧ worth ≤ 999 := by
  simp only [tabOk, worthB, inB, Bool.and_eq_true, decide_eq_true_eq] at h
  exact ⟨h.1, h.2.1, h.2.2⟩
theorem pow7 {n : Nat} (h : n ≤ 7) : 2 ^ n ≤ 128 := Nat.pow_le_pow_right (by omega) h
theorem tabL_len (F : Fld) (worth : Int) : (tabL F worth).length ≤ 1048576 := by
  by_cases h : tabOk F worth = true
  · rw [tabL_yes h, mapTo_len]
    have := pow7 (goodF_iff.1 (tabOk_parts h).1).1.2
    omega
  · rw [tabL_no (by simpa using h)]; simp

end Go.Proofs.YtffpdebjjcbenaaGreat

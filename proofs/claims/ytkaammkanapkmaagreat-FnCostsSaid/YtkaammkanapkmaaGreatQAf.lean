/- The best set of a field and its total: reference and program; The field with some clients alone: reference and program. No condition. -/
import Derived.Test.YtkaammkanapkmaaGreatQAe
import Derived.Test.YtkaammkanapkmaaGreatQAb
namespace Go.Proofs.YtkaammkanapkmaaGreat
open Go.RowKit Go.Sort

def bestF (F : Fld) : List Int := bestL (totF F) (setsL F.op.length)
theorem sets_pos {F : Fld} (h : goodF F = true) : 0 < (setsL F.op.length).length := by
  have h1 := (goodF_iff.1 h).1.1
  rw [setsL_len]
  have : 2 ^ 1 ≤ 2 ^ F.op.length := Nat.pow_le_pow_right (by omega) h1
  omega
theorem sets_most {F : Fld} (h : goodF F = true) : (setsL F.op.length).length ≤ 127 := by
  have h1 := (goodF_iff.1 h).1.2
  rw [setsL_len]
  have : 2 ^ F.op.length ≤ 2 ^ 7 := Nat.pow_le_pow_right (by omega) h1
  omega
/-- What every one of the sets is. -/
def isSet (F : Fld) (S : List Int) : Prop := setB F S = true ∧ S ≠ []
theorem sets_set {F : Fld} : ∀ S ∈ setsL F.op.length, isSet F S := fun S h => by
  have := mem_setsL.1 h
  exact ⟨this.2, this.1⟩
theorem best_set {F : Fld} (h : goodF F = true) : isSet F (bestF F) := sets_set _ (bestL_mem (sets_pos h))
theorem total_val {f : Value} {F : Fld} {w : World} (hf : FldAt w f F) (hg : goodF F = true) : Val 43 #[f] #[] (totF F) (isSet F) w :=
  ⟨callFunc_of Tryz.func43 (by kernel_rfl) (by kernel_rfl), fun S Av cv w' hk hq hi _ => total_any f F Av S S.length cv w' (hf.kp hk) hi rfl hg hq.1 hq.2⟩
set_option maxRecDepth 100000 in
set_option maxHeartbeats 1000000 in
theorem bestSet_any (f : Value) (F : Fld) (w : World) (hf : FldAt w f F) (hg : goodF F = true) :
    Calls Tryz.prog 42 #[f] w fun e w' => ∃ u, e = .returned (.tuple #[u, .bool true]) ∧ RowP w' (some w.heap.size) u (bestF F) ∧ Kp w w' := by
  obtain ⟨A, c, B, d, rfl, hA, hB⟩ := hf
  have hk0 : Kp w (w.alloc (.cells #[.slice A F.op.length c, .slice B F.di.length d] 27)) := (Kp.refl w).alloc _
  obtain ⟨d0, d1⟩ := box2 w (.slice A F.op.length c) (.slice B F.di.length d) 27
  have hFA := FldAt.kp (show FldAt w (.agg #[.slice A F.op.length c, .slice B F.di.length d]) F from ⟨A, c, B, d, rfl, hA, hB⟩) hk0
  have hn7 := (goodF_iff.1 hg).1.2
  have HG := Lib.hid hg
  have HL0 := Lib.hid (sets_pos hg)
  have HL1 := Lib.hid (sets_most hg)
  clear hA hB hg
  go_enter Tryz.func42, Tryz.ntmps42
  go_wp2_with fail
  have hsz : Hid ((w.alloc (.cells #[.slice A F.op.length c, .slice B F.di.length d] 27)).heap.size = w.heap.size + 1) := by show _ = _; simp
  generalize w.alloc (.cells #[.slice A F.op.length c, .slice B F.di.length d] 27) = wb at *
  have hkb : Kp wb wb := Kp.refl _
  have hkw := hk0
  have CC := Lib.hid (isField_any _ F _ (hFA.kp hkb))
  with_reducible refine Calls.mono CC.out ?_
  rintro e w1 ⟨rfl, hk1⟩
  clear CC
  replace hkb := hkb.trans hk1
  rw [HG.out]
  obtain ⟨w5, rfl⟩ : ∃ w5 : World, w5 = w1 := ⟨_, rfl⟩
  have hkw5 := hkw.trans hkb
  have C1 := Lib.hid (fun (wx : World) (_ : Kp w5 wx) => sets_any F.op.length wx hn7)
  have C2 := Lib.hid (fun (wx : World) (hx : Kp w5 wx) (Ax : Option Addr) (cx m lo : Nat) (hm : (setsL F.op.length).length = m) (hr : RowsAt wx (some lo) Ax (setsL F.op.length)) => least_any 43 #[.agg #[.slice A F.op.length c, .slice B F.di.length d]] #[] (totF F) (isSet F) (some lo) Ax (setsL F.op.length) m cx wx hr hm (by have := HL0.out; omega) (total_val (hFA.kp (hkb.trans hx)) HG.out) sets_set)
  have hk5 : Kp w5 w5 := Kp.refl _
  have g0 := hkb.get d0
  have g1 := hkb.get d1
  clear hkb
  have q_g0 := hk5.get g0
  have q_g1 := hk5.get g1
  have tok1 : True := trivial
  go_wp2_with fail
  go_region_held3 (fun w' => w'.cell? ⟨w.heap.size, 0, none⟩ = some (.slice A F.op.length c) ∧ w'.cell? ⟨w.heap.size, 1, none⟩ = some (.slice B F.di.length d) ∧ Kp w5 w')
    (first | (refine keepc2 g0 g1 ?_; exact (by repeat (first | with_reducible assumption | with_reducible exact Kp.refl _ | with_reducible refine Kp.drew ?_ | with_reducible refine Kp.alloc ?_ _ | with_reducible refine Kp.drewN ?_ _ | refine Kp.setCell ?_ (by dsimp only; omega) _))) | fail)
    (first
      | (have _t := tok1; go_at_call 66; with_reducible refine Calls.mono (C1.out _ (by repeat (first | with_reducible assumption | with_reducible exact Kp.refl _ | with_reducible refine Kp.drew ?_ | with_reducible refine Kp.alloc ?_ _ | with_reducible refine Kp.drewN ?_ _ | refine Kp.setCell ?_ (by dsimp only; omega) _))) ?_; rintro e wr1 ⟨v, rfl, hvn, hgo, hka⟩; have hr1 : Kp w5 wr1 := Kp.trans (by repeat (first | with_reducible assumption | with_reducible exact Kp.refl _ | with_reducible refine Kp.drew ?_ | with_reducible refine Kp.alloc ?_ _ | with_reducible refine Kp.drewN ?_ _ | refine Kp.setCell ?_ (by dsimp only; omega) _)) hka; obtain ⟨Ax, cx, hve, hcx, hrows⟩ := hgo.rows (by have := HL1.out; omega); subst hve; have tok2 : True := trivial; clear tok1 _t)
      | (have _t := tok2; go_at_call 65; with_reducible refine Calls.mono (C2.out _ (by repeat (first | with_reducible assumption | with_reducible exact Kp.refl _ | with_reducible refine Kp.drew ?_ | with_reducible refine Kp.alloc ?_ _ | with_reducible refine Kp.drewN ?_ _ | refine Kp.setCell ?_ (by dsimp only; omega) _)) Ax cx _ _ rfl (hrows.kp (by repeat (first | with_reducible assumption | with_reducible exact Kp.refl _ | with_reducible refine Kp.drew ?_ | with_reducible refine Kp.alloc ?_ _ | with_reducible refine Kp.drewN ?_ _ | refine Kp.setCell ?_ (by dsimp only; omega) _)))) ?_; rintro e wr2 ⟨u, rfl, hu, hka⟩; have hr2 : Kp w5 wr2 := Kp.trans (by repeat (first | with_reducible assumption | with_reducible exact Kp.refl _ | with_reducible refine Kp.drew ?_ | with_reducible refine Kp.alloc ?_ _ | with_reducible refine Kp.drewN ?_ _ | refine Kp.setCell ?_ (by dsimp only; omega) _)) hka; have tok3 : True := trivial; clear tok2 _t)
      | fail)
  all_goals
    go_wp2_with fail
    go_ret2
    exact ⟨u, rfl, hu.mono (by have h1 := hkw5.le; simpa using h1), hkw5.trans hr2⟩
theorem bestTotal_any (f : Value) (F : Fld) (w : World) (hf : FldAt w f F) (hg : goodF F = true) :
    Calls Tryz.prog 18 #[f] w fun e w' => e = .returned (.tuple #[.int .i64 (totF F (bestF F)), .bool true]) ∧ Kp w w' := by
  have hbs := best_set hg
  obtain ⟨A, c, B, d, rfl, hA, hB⟩ := hf
  have hk0 : Kp w (w.alloc (.cells #[.slice A F.op.length c, .slice B F.di.length d] 27)) := (Kp.refl w).alloc _
  obtain ⟨d0, d1⟩ := box2 w (.slice A F.op.length c) (.slice B F.di.length d) 27
  have hFA := FldAt.kp (show FldAt w (.agg #[.slice A F.op.length c, .slice B F.di.length d]) F from ⟨A, c, B, d, rfl, hA, hB⟩) hk0
  have HG := Lib.hid hg
  have HS := Lib.hid hbs
  clear hA hB hg hbs
  go_enter Tryz.func18, Tryz.ntmps18
  go_wp2_with fail
  have hsz : Hid ((w.alloc (.cells #[.slice A F.op.length c, .slice B F.di.length d] 27)).heap.size = w.heap.size + 1) := by show _ = _; simp
  generalize w.alloc (.cells #[.slice A F.op.length c, .slice B F.di.length d] 27) = wb at *
  have hkb : Kp wb wb := Kp.refl _
  have hkw := hk0
  have CC := Lib.hid (bestSet_any _ F _ (hFA.kp hkb) HG.out)
  with_reducible refine Calls.mono CC.out ?_
  rintro e w1 ⟨u, rfl, hu, hk1⟩
  clear CC
  replace hkb := hkb.trans hk1
  obtain ⟨Av, cv, rfl, hcv, hiv⟩ := hu.read
  have q_d0 := hkb.get d0
  have q_d1 := hkb.get d1
  go_wp2_with fail
  have CC := Lib.hid (total_any _ F Av (bestF F) _ cv _ (hFA.kp hkb) hiv rfl HG.out HS.out.1 HS.out.2)
  with_reducible refine Calls.mono CC.out ?_
  rintro e w2 ⟨rfl, hk2⟩
  clear CC q_d0 q_d1
  replace hkb := hkb.trans hk2
  have q_d0 := hkb.get d0
  have q_d1 := hkb.get d1
  go_wp2_with fail
  go_ret2
  exact ⟨rfl, hkw.trans hkb⟩
set_option maxRecDepth 100000 in
set_option maxHeartbeats 1000000 in
theorem l2Best_any (f : Value) (F : Fld) (w : World) (hf : FldAt w f F) (hg : goodF F = true) :
    Calls Tryz.prog 61 #[f] w fun e w' => ∃ u, e = .returned u ∧ RowP w' (some w.heap.size) u (bestF F) ∧ Kp w w' := by
  obtain ⟨A, c, B, d, rfl, hA, hB⟩ := hf
  have hk0 : Kp w (w.alloc (.cells #[.slice A F.op.length c, .slice B F.di.length d] 27)) := (Kp.refl w).alloc _
  obtain ⟨d0, d1⟩ := box2 w (.slice A F.op.length c) (.slice B F.di.length d) 27
  have hFA := FldAt.kp (show FldAt w (.agg #[.slice A F.op.length c, .slice B F.di.length d]) F from ⟨A, c, B, d, rfl, hA, hB⟩) hk0
  have hn7 := (goodF_iff.1 hg).1.2
  have HG := Lib.hid hg
  have HL0 := Lib.hid (sets_pos hg)
  have HL1 := Lib.hid (sets_most hg)
  clear hA hB hg
  go_enter Tryz.func61, Tryz.ntmps61
  go_wp2_with fail
  have hsz : Hid ((w.alloc (.cells #[.slice A F.op.length c, .slice B F.di.length d] 27)).heap.size = w.heap.size + 1) := by show _ = _; simp
  generalize w.alloc (.cells #[.slice A F.op.length c, .slice B F.di.length d] 27) = wb at *
  have hkb : Kp wb wb := Kp.refl _
  have hkw := hk0
  have CC := Lib.hid (l2Sets_any F.op.length wb hn7)
  with_reducible refine Calls.mono CC.out ?_
  rintro e w1 ⟨v, rfl, hvn, hgo, hk1⟩
  clear CC
  replace hkb := hkb.trans hk1
  obtain ⟨ad, cx, hve, hcx, hrows⟩ := hgo.rows_some (by have := HL1.out; omega) hvn
  subst hve
  clear hgo hvn
  obtain ⟨rows, hre⟩ : ∃ rows, rows = setsL F.op.length := ⟨_, rfl⟩
  rw [← hre] at hrows hcx ⊢
  have HR := Lib.hid hre
  have Hbe : Hid (bestF F = bestL (totF F) rows) := by show _ = _; rw [hre]; rfl
  have Hset : Hid (∀ S ∈ rows, isSet F S) := by show ∀ S ∈ rows, _; rw [hre]; exact sets_set
  have l0 : 0 < rows.length := by rw [hre]; exact HL0.out
  have l1 : rows.length ≤ 127 := by rw [hre]; exact HL1.out
  clear hre
  have HB := Lib.hid (fun k (hk : k ≤ rows.length) => Hset.out _ (bestTo_mem (v := totF F) l0 k hk))
  obtain ⟨A2, c2, hcl, hc2, hri, hrp⟩ := hrows.some_ l0
  have hz : ad.add 0 = ad := by unfold Addr.add; simp
  rw [hz] at hcl
  have hst : Hid (bestTo (totF F) rows 1 = rows[0]) := by
    show _ = _
    rw [bestTo_succ l0]
    have e0 : bestTo (totF F) rows 0 = rows[0] := by unfold bestTo; simp [List.getD, l0]
    rw [e0]; unfold bestStep; simp
  obtain ⟨wl, rfl⟩ : ∃ wl : World, wl = w1 := ⟨_, rfl⟩
  have hkl := hkw.trans hkb
  have g0 := hkb.get d0
  have g1 := hkb.get d1
  replace hFA := hFA.kp hkb
  clear hkb d0 d1
  obtain ⟨m, hml⟩ : ∃ m, m = rows.length := ⟨_, rfl⟩
  rw [← hml] at l0 l1 ⊢
  replace hml := Lib.hid hml
  go_wp2_with fail
  clear hcl
  go_loopw [4, 5] (fun bv iv wr => ∃ (k : Nat) (Ab : Option Addr) (cb : Nat), 1 ≤ k ∧ k ≤ m ∧ iv = .int .i64 k ∧ bv = .slice Ab (bestTo (totF F) rows k).length cb ∧ RowP wr (some w.heap.size) (.slice Ab (bestTo (totF F) rows k).length cb) (bestTo (totF F) rows k) ∧ Kp wl wr) (fun _ iv _ => m - (intOf iv).toNat)
  case atStart => exact ⟨1, A2, c2, by omega, by omega, rfl, by rw [hst.out], by rw [hst.out]; exact hrp.mono hkw.le, Kp.refl _⟩
  case round =>
    obtain ⟨k, Ab, cb, hk1, hk, rfl, rfl, hb, hkr⟩ := hrel
    by_cases hlt : k < m
    · have lx : k < rows.length := by rw [← hml.out]; exact hlt
      obtain ⟨A3, c3, hcl, hc3, hri, hrq⟩ := (hrows.kp hkr).some_ lx
      obtain ⟨Ab', cb', eb, hcb, hbi⟩ := hb.read
      simp only [Value.slice.injEq] at eb
      obtain ⟨rfl, _, rfl⟩ := eb
      have q1 := Lib.hid (Hset.out _ (List.getElem_mem lx))
      have q2 := Lib.hid (HB.out k (Nat.le_of_lt lx))
      have hstep := Lib.hid (bestTo_succ (v := totF F) lx)
      have hkz : Kp wr wr := Kp.refl _
      have z0 := hkr.get g0
      have z1 := hkr.get g1
      have C1 := Lib.hid (fun (wx : World) (hx : Kp wr wx) => l2Total_any _ F A3 rows[k] _ c3 wx (hFA.kp (hkr.trans hx)) (hri.kp hx) rfl HG.out q1.out.1 q1.out.2)
      have C2 := Lib.hid (fun (wx : World) (hx : Kp wr wx) => l2Total_any _ F Ab (bestTo (totF F) rows k) _ cb wx (hFA.kp (hkr.trans hx)) (hbi.kp hx) rfl HG.out q2.out.1 q2.out.2)
      have q_z0 := hkz.get z0
      have q_z1 := hkz.get z1
      have q_hcl := hkz.get hcl
      have tok1 : True := trivial
      go_wp2_with fail
      go_region_held3 (fun w' => w'.cell? ⟨w.heap.size, 0, none⟩ = some (.slice A F.op.length c) ∧ w'.cell? ⟨w.heap.size, 1, none⟩ = some (.slice B F.di.length d) ∧ w'.cell? (ad.add k) = some (.slice A3 rows[k].length c3) ∧ Kp wr w')
        (first | (refine keepc3 z0 z1 hcl ?_; exact (by repeat (first | with_reducible assumption | with_reducible exact Kp.refl _ | with_reducible refine Kp.drew ?_ | with_reducible refine Kp.alloc ?_ _ | with_reducible refine Kp.drewN ?_ _ | refine Kp.setCell ?_ (by dsimp only; omega) _))) | fail)
        (first
          | (have _t := tok1; go_at_call 60; with_reducible refine Calls.mono (C1.out _ (by repeat (first | with_reducible assumption | with_reducible exact Kp.refl _ | with_reducible refine Kp.drew ?_ | with_reducible refine Kp.alloc ?_ _ | with_reducible refine Kp.drewN ?_ _ | refine Kp.setCell ?_ (by dsimp only; omega) _))) ?_; rintro e wr1 ⟨rfl, hka⟩; have hr1 : Kp wr wr1 := Kp.trans (by repeat (first | with_reducible assumption | with_reducible exact Kp.refl _ | with_reducible refine Kp.drew ?_ | with_reducible refine Kp.alloc ?_ _ | with_reducible refine Kp.drewN ?_ _ | refine Kp.setCell ?_ (by dsimp only; omega) _)) hka; have tok2 : True := trivial; clear tok1 _t)
          | (have _t := tok2; go_at_call 60; with_reducible refine Calls.mono (C2.out _ (by repeat (first | with_reducible assumption | with_reducible exact Kp.refl _ | with_reducible refine Kp.drew ?_ | with_reducible refine Kp.alloc ?_ _ | with_reducible refine Kp.drewN ?_ _ | refine Kp.setCell ?_ (by dsimp only; omega) _))) ?_; rintro e wr2 ⟨rfl, hka⟩; have hr2 : Kp wr wr2 := Kp.trans (by repeat (first | with_reducible assumption | with_reducible exact Kp.refl _ | with_reducible refine Kp.drew ?_ | with_reducible refine Kp.alloc ?_ _ | with_reducible refine Kp.drewN ?_ _ | refine Kp.setCell ?_ (by dsimp only; omega) _)) hka; have tok3 : True := trivial; clear tok2 _t)
          | fail)
      have hc4 := hr2.get hcl
      by_cases hlt2 : totF F rows[k] < totF F (bestTo (totF F) rows k)
      · have Hy : Hid (bestTo (totF F) rows (k + 1) = rows[k]) := by show _ = _; rw [hstep.out]; exact if_pos hlt2
        go_wp2_with fail
        go_roundw
        case rel => exact ⟨k + 1, A3, c3, by omega, by omega, by go_num, by rw [Hy.out], by rw [Hy.out]; exact (hrq.mono hkw.le).kp hr2, hkr.trans hr2⟩
        case measure => simp [intOf]; omega
      · have Hy : Hid (bestTo (totF F) rows (k + 1) = bestTo (totF F) rows k) := by show _ = _; rw [hstep.out]; exact if_neg hlt2
        go_wp2_with fail
        go_roundw
        case rel => exact ⟨k + 1, Ab, cb, by omega, by omega, by go_num, by rw [Hy.out], by rw [Hy.out]; exact hb.kp hr2, hkr.trans hr2⟩
        case measure => simp [intOf]; omega
    · obtain rfl : k = m := by omega
      have Hy : Hid (bestTo (totF F) rows k = bestF F) := by show _ = _; rw [Hbe.out, hml.out]; exact bestTo_all _ _
      go_wp2_with fail
      go_ret
      exact ⟨_, rfl, by rw [← Hy.out]; exact hb, hkl.trans hkr⟩
end Go.Proofs.YtkaammkanapkmaaGreat

namespace Go.Proofs.YtkaammkanapkmaaGreat
open Go.RowKit Go.Sort

def partF (F : Fld) (C : List Int) : Fld := ⟨F.op, C.map fun i => F.di.getD i.toNat []⟩
/-- A set of clients. -/
def crowdB (F : Fld) (C : List Int) : Bool := risB C 0 ((F.di.length : Int) - 1)
theorem crowd_mem {F : Fld} {C : List Int} (h : crowdB F C = true) : ∀ x ∈ C, 0 ≤ x ∧ x < F.di.length := fun x hx => by
  have := (ris_iff.1 h).2 x hx
  omega
theorem crowd_len {F : Fld} {C : List Int} (h : crowdB F C = true) : C.length ≤ F.di.length := by
  have hr := ris_iff.1 h
  have hm := crowd_mem h
  have := bitsL_len F.di.length (bagN C)
  rwa [bits_bag hr.1 hm] at this
theorem part_good {F : Fld} {C : List Int} (hg : goodF F = true) (hc : crowdB F C = true) : goodF (partF F C) = true := by
  have hp := goodF_iff.1 hg
  have hl := crowd_len hc
  refine goodF_iff.2 ⟨hp.1, hp.2.1, by simp [partF]; omega, fun r hr => ?_⟩
  simp only [partF, List.mem_map] at hr
  obtain ⟨i, hi, rfl⟩ := hr
  have hm := crowd_mem hc i hi
  have hk : i.toNat < F.di.length := by omega
  have e : F.di.getD i.toNat [] = F.di[i.toNat] := by simp [List.getD, hk]
  rw [e]
  exact hp.2.2.2 _ (List.getElem_mem hk)
/-- What stands in a cell. -/
def cvAt (p : Addr) (w : World) : Value := (w.cell? p).getD (.slice none 0 0)
theorem cv_of {p : Addr} {w : World} {u : Value} (h : w.cell? p = some u) : cvAt p w = u := by simp [cvAt, h]
theorem cv_is {p : Addr} {w : World} {u : Value} (h : w.cell? p = some u) : w.cell? p = some (cvAt p w) := by rw [cv_of h]; exact h
theorem run_appv {W : World} (ty : TypeId) (base : Nat) (v : Value) (n : Nat) (hs : List Value) (u : Value) (ad : Addr)
    (h1 : W.ownsRow base 24 1 v n hs) (hu : u.oneCell' = true) (hcell : W.cell? ad = some u) (hbase : base ≤ W.heap.size) (hlen : n < 1048576) :
    ∃ v' w', (Builtin.append_ #[25, 25] ty #[v, .slice (some ad) 1 1]).run Tryz.prog W = .ok v' w' ∧ w'.ownsRow base 24 1 v' (n + 1) (hs ++ [u]) ∧ W.grownBy w' v.ownBlock ∧ (v'.ownBlock = v.ownBlock ∨ ∀ g, v'.ownBlock = some g → W.heap.size ≤ g) ∧ v'.oneCell' = true := by
  obtain ⟨i0, hi, hz0, hz1, hz2⟩ := info_parts infoIntsG
  obtain ⟨v', w', hrun, g2, g3, _, g5⟩ := run_append_own_at (P := Tryz.prog) W base 25 ty 24 i0 (.slice none 0 0) 1 24 Tryz.underlying25 hi hz0 hz1 hz2 rfl (by decide) v n hs h1 ad 1 1 [u] rfl (by
      intro j u2 hj
      cases j with
      | zero =>
        have e : u = u2 := by simpa using hj
        have e2 : ad.add 0 = ad := by unfold Addr.add; simp
        rw [e2, ← e]; exact hcell
      | succ j => simp at hj) (by
      intro u2 hu2
      have e : u2 = u := by simpa using hu2
      rw [e]; exact hu) (by unfold maxLen; omega) (by omega) hbase
  refine ⟨v', w', hrun, g2, g3, ?_, ?_⟩
  · rcases g5 with e | e
    · exact .inl e
    · exact .inr (fun g hg => by rw [e] at hg; simp at hg; omega)
  · rcases g2.2 with ⟨rfl, _⟩ | ⟨g, cap, cur, rfl, _⟩ <;> rfl
theorem step_appv {ops : Array Oper} {o : Oper} {a : Act} {K : Act → World → Prop} {Q : Exit → Act → World → Prop} {E : Prop} {W : World} (hgd : o.guard = none) (s x : Operand)
    (ho : o.op = .call { callee := .builtin .append, args := #[s, x], argTypes := #[25, 25] }) (base : Nat) (v : Value) (n : Nat) (hs : List Value) (u : Value) (ad : Addr)
    (hsv : a.eval s = v) (hx : a.eval x = .slice (some ad) 1 1) (h1 : W.ownsRow base 24 1 v n hs) (hu : u.oneCell' = true) (hcell : W.cell? ad = some u) (hbase : base ≤ W.heap.size) (hlen : n < 1048576)
    (h : ∀ g' c' w', w'.ownsRow base 24 1 (.slice (some ⟨g', 0, none⟩) (n + 1) c') (n + 1) (hs ++ [u]) → Turn (fun i => v.ownBlock = some i) W w' → (v.ownBlock = some g' ∨ W.heap.size ≤ g') → K (a.put o.dst (.slice (some ⟨g', 0, none⟩) (n + 1) c')) w') :
    if Region.wanted o (yielded ops a.tmps) = true then Oper.wp Tryz.prog o a W K Q else E := by
  have hw : Region.wanted o (yielded ops a.tmps) = true := by simp [Region.wanted, hgd]
  rw [if_pos hw]
  obtain ⟨v', w', hrun, h2, h3, h4, _⟩ := run_appv (W := W) o.type base v n hs u ad h1 hu hcell hbase hlen
  unfold Oper.wp execOp
  simp only [ho, resolve, invoke, builtin, Sem.run_bind, Sem.run_pure, Result.andThen_ok, List.map_toArray, List.map_cons, List.map_nil, hsv, hx, hrun]
  rcases id h2.2 with ⟨_, e0⟩ | ⟨g, cap, cur, rfl, _⟩
  · omega
  · refine h g cap w' h2 (Turn.of_grown h3) ?_
    rcases h4 with e | e
    · exact .inl e.symm
    · exact .inr (e g rfl)
theorem wpl_appv {ops : Array Oper} {rest : List Oper} {o : Oper} {a : Act} {Q : Exit → Act → World → Prop} {W : World} (hgd : o.guard = none) (s x : Operand)
    (ho : o.op = .call { callee := .builtin .append, args := #[s, x], argTypes := #[25, 25] }) (base : Nat) (v : Value) (n : Nat) (hs : List Value) (u : Value)
    (hsv : a.eval s = v) (hx : a.eval x = .slice (some ⟨W.heap.size, 0, none⟩) 1 1) (h1 : W.ownsRow base 24 1 v n hs) (hu : u.oneCell' = true) (hbase : base ≤ W.heap.size) (hlen : n < 1048576)
    (h : ∀ g' c' w', w'.ownsRow base 24 1 (.slice (some ⟨g', 0, none⟩) (n + 1) c') (n + 1) (hs ++ [u]) → Turn (fun i => v.ownBlock = some i) W w' → (v.ownBlock = some g' ∨ W.heap.size ≤ g') → wpList Tryz.prog ops Q rest (a.put o.dst (.slice (some ⟨g', 0, none⟩) (n + 1) c')) w') :
    wpList Tryz.prog ops Q (o :: rest) a (W.alloc (.cells #[u] 24)) := by
  have hk : Kp W (W.alloc (.cells #[u] 24)) := (Kp.refl W).alloc _
  obtain ⟨v', w', hrun, h2, h3, h4, _⟩ := run_appv (W := W.alloc (.cells #[u] 24)) o.type base v n hs u ⟨W.heap.size, 0, none⟩ (hk.own h1) hu (by rw [World.cell?_alloc_at _ _ _ _ rfl]; rfl) (by simp; omega) hlen
  refine Lib.wpList_append_run _ hgd s x _ _ ho _ _ hsv hx v' w' hrun ?_
  rcases id h2.2 with ⟨_, e0⟩ | ⟨g, cap, cur, rfl, _⟩
  · omega
  · refine h g cap w' h2 ((Turn.of_kp hk).trans (Turn.of_grown h3)) ?_
    rcases h4 with e | e
    · exact .inl e.symm
    · exact .inr (by have := e g rfl; simp at this; omega)
/-- The headers of the rows of the clients, as they stand in the field. -/
def hdrs (w : World) (bd : Addr) (C : List Int) (k : Nat) : List Value := (C.take k).map fun i => cvAt (bd.add i.toNat) w
theorem hdrs_succ {w : World} {bd : Addr} {C : List Int} {k : Nat} (hk : k < C.length) : hdrs w bd C (k + 1) = hdrs w bd C k ++ [cvAt (bd.add (C[k]).toNat) w] := by
  unfold hdrs
  rw [List.take_succ_eq_append_getElem hk, List.map_append]; rfl
theorem hdrs_len (w : World) (bd : Addr) (C : List Int) (k : Nat) (hk : k ≤ C.length) : (hdrs w bd C k).length = k := by
  unfold hdrs; rw [List.length_map, List.length_take]; omega
/-- Behind the loop the headers are the new field's rows. -/
theorem hdrs_grid {w0 w : World} {bd : Addr} {F : Fld} {C : List Int} {base : Nat} {v : Value} (hB : C ≠ [] → GridAt w0 (some bd) F.di) (hk : Kp w0 w) (hc : ∀ x ∈ C, 0 ≤ x ∧ x < F.di.length) (hl : C.length ≤ 7) (h : w.ownsRow base 24 1 v C.length (hdrs w0 bd C C.length)) :
    ∃ A c, v = .slice A (partF F C).di.length c ∧ GridAt w A (partF F C).di := by
  have hlen : (partF F C).di.length = C.length := by simp [partF]
  rcases id h.2 with ⟨rfl, h0⟩ | ⟨g, cap, cur, rfl, _⟩
  · exact ⟨none, 0, by rw [hlen, h0], by rw [hlen]; omega, fun k hk => by rw [hlen, h0] at hk; omega⟩
  · refine ⟨_, cap, by rw [hlen], by rw [hlen]; omega, fun k hk2 => ?_⟩
    rw [hlen] at hk2
    have hm := hc _ (List.getElem_mem hk2)
    have hi : (C[k]).toNat < F.di.length := by omega
    obtain ⟨A, c, e1, e2⟩ := (hB (fun e => by subst e; simp at hk2)).some_ hi
    have e3 : (partF F C).di.getD k [] = F.di[(C[k]).toNat] := by simp [partF, List.getD, hk2, hi]
    have e4 : (hdrs w0 bd C C.length)[k]? = some (.slice A F.di[(C[k]).toNat].length c) := by
      unfold hdrs
      simp [hk2, cv_of e1]
    rw [e3]
    exact ⟨_, A, c, rfl, World.ownsRow.cells h (g := g) rfl k _ e4, e2.kp hk⟩
end Go.Proofs.YtkaammkanapkmaaGreat

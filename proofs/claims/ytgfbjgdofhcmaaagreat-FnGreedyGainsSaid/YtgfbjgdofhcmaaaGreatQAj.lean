/- All sets, as the reference gathers them for gains; GreedyAllowed: reference and program; BestGain, BestBudget and BestAllowed: reference and program; UpperGain: the reference's upper gain; slices.Sort and slices.Reverse of a slice of numbers of the call's own: laid (by layp.py), and what they leave. No condition. -/
import Derived.Test.YtgfbjgdofhcmaaaGreatQAi
import Derived.Test.YtgfbjgdofhcmaaaGreatQAf
import Derived.Test.YtgfbjgdofhcmaaaGreatQAd
import Derived.Test.YtgfbjgdofhcmaaaGreatQAe
import Derived.Test.YtgfbjgdofhcmaaaGreatQAa
import Derived.Shelf.Sort.Plain
import Derived.Shelf.Slices.Reverse
import Derived.Lib.OwnBridge
import Derived.Lib.AppendIntMem
namespace Go.Proofs.YtgfbjgdofhcmaaaGreat
open Go.RowKit Go.Sort

set_option maxRecDepth 100000 in
set_option maxHeartbeats 1000000 in
theorem l8All_any (f : Value) (F : Fld) (w : World) (hf : FldAt w f F) (hg : goodF F = true) :
    Calls Tryz.prog 37 #[f] w fun e w' => ∃ v, e = .returned v ∧ v ≠ .slice none 0 0 ∧ GOwn w' (some w.heap.size) w.heap.size v (allS F.op.length) ∧ Kp w w' := by
  have hn7 := (goodF_iff.1 hg).1.2
  obtain ⟨A, c, B, d, rfl, hA, hB⟩ := hf
  have hk0 : Kp w (w.alloc (.cells #[.slice A F.op.length c, .slice B F.di.length d] 27)) := (Kp.refl w).alloc _
  obtain ⟨d0, d1⟩ := box2 w (.slice A F.op.length c) (.slice B F.di.length d) 27
  have hFA := FldAt.kp (show FldAt w (.agg #[.slice A F.op.length c, .slice B F.di.length d]) F from ⟨A, c, B, d, rfl, hA, hB⟩) hk0
  clear hA hB hg
  go_enter Tryz.func37, Tryz.ntmps37
  go_wp2_with fail
  have hsz : Hid ((w.alloc (.cells #[.slice A F.op.length c, .slice B F.di.length d] 27)).heap.size = w.heap.size + 1) := by show _ = _; simp
  generalize w.alloc (.cells #[.slice A F.op.length c, .slice B F.di.length d] 27) = wb at *
  have hkb : Kp wb wb := Kp.refl _
  have hkw := hk0
  have u1 := own_new0 wb (w.heap.size + 1) (by rw [hsz.out]; exact Nat.le_refl _)
  have o1 := gown_one (base := w.heap.size + 1 + 1) (w := wb.alloc (.cells #[] 3)) (by simp; rw [hsz.out]; exact Nat.le_refl _) (RowP.of_own u1 (by simp)) (.inr (by simp))
  have hkc : Kp wb ((wb.alloc (.cells #[] 3)).alloc (.cells #[.slice (some ⟨wb.heap.size, 0, none⟩) 0 0] 24)) := ((Kp.refl wb).alloc _).alloc _
  simp only [World.size_alloc] at o1
  rw [hsz.out] at o1 hkc
  have hzc : Hid (((wb.alloc (.cells #[] 3)).alloc (.cells #[.slice (some ⟨w.heap.size + 1, 0, none⟩) 0 0] 24)).heap.size = w.heap.size + 1 + 1 + 1) := by show _ = _; simp; rw [hsz.out]
  have q_0 := hkc.get d0
  clear u1 hkb
  generalize (wb.alloc (.cells #[] 3)).alloc (.cells #[.slice (some ⟨w.heap.size + 1, 0, none⟩) 0 0] 24) = wc at *
  go_wp2_with fail
  have CC := Lib.hid (l2Sets_any F.op.length wc hn7)
  with_reducible refine Calls.mono CC.out ?_
  rintro e ws ⟨v2, rfl, hvn, hgo, hk1⟩
  clear CC
  have HLs : Hid ((setsL F.op.length).length ≤ 127) := by
    show _ ≤ _
    rw [setsL_len]
    have : 2 ^ F.op.length ≤ 2 ^ 7 := Nat.pow_le_pow_right (by omega) hn7
    omega
  obtain ⟨ad2, c2, hve, _, hrows⟩ := hgo.rows_some (by have := HLs.out; omega) hvn
  subst hve
  have hkb1 := (hkw.trans hkc).trans hk1
  have o11 := o1.kp hk1
  have hrm := hrows.mono (b' := w.heap.size + 1) (by rw [hzc.out]; omega)
  clear o1 hgo hvn
  have hap := Lib.hid (fun k (hk : k < (setsL F.op.length).length) (ad : Addr) (u : Value) (e : some ad2 = some ad) (hc : ws.cell? (ad.add k) = some u) (_ : RowP ws (some (w.heap.size + 1)) u (setsL F.op.length)[k]) (_ : (setsL F.op.length)[k] ≠ [] ∨ some (w.heap.size + 1) ≠ none) (g : Nat) (hg : u.ownBlock = some g) => (show (Value.slice (some ⟨w.heap.size + 1 + 1, 0, none⟩) 1 1).ownBlock ≠ some g from by
    obtain ⟨ad', u', e1, e2, e3⟩ := hrows.2 k hk
    cases e
    cases e1
    rw [e2] at hc
    cases hc
    have h1 := ((e3.2 _ rfl).lt g hg).1
    rw [hzc.out] at h1
    intro h2
    have h3 := own_blk' h2
    omega))
  have hs1 : w.heap.size + 1 + 1 ≤ ws.heap.size := by have := hk1.le; rw [hzc.out] at this; omega
  have hl3 : ([[]] : List (List Int)).length + (setsL F.op.length).length ≤ 4194304 := by have := HLs.out; simp; omega
  go_wp2_with (at_builtin; go_loud (refine wpl_appg_all rfl (.tmp 4) (.tmp 8) rfl (w.heap.size + 1 + 1) (.slice (some ⟨w.heap.size + 1 + 1, 0, none⟩) 1 1) [[]] (setsL F.op.length) (some ad2) _ c2 rfl rfl o11 hrm hap.out rfl hs1 hl3 ?_; intro v' w' ho' ht' h4'))
  have hkl : Kp w w' := hkb1.turn ht' (fun i hi => by have h3 := own_blk' hi; omega)
  go_ret
  exact ⟨_, rfl, ho'.not_nil (by simp), (ho'.mono (by omega)).lo_mono (Nat.le_succ _), hkl⟩
theorem pow_two_le7 {n : Nat} (h : n ≤ 7) : 2 ^ n ≤ 128 := Nat.pow_le_pow_right (by omega) h
theorem allS_most {F : Fld} (h : goodF F = true) : (allS F.op.length).length ≤ 128 := by rw [allS_len]; exact pow_two_le7 (goodF_iff.1 h).1.2
theorem fil_pos {p : List Int → Bool} {n : Nat} (h : p [] = true) : 0 < ((allS n).filter p).length := by simp [allS, h]
theorem fil_most {F : Fld} (hg : goodF F = true) (p : List Int → Bool) : ((allS F.op.length).filter p).length ≤ 128 := Nat.le_trans (List.length_filter_le _ _) (allS_most hg)
/-- The best one of the sets that pass. -/
def bgF (F : Fld) (worth : Int) (p : List Int → Bool) : List Int := bestL (negG F worth) ((allS F.op.length).filter p)
theorem bg_mem {F : Fld} {worth : Int} {p : List Int → Bool} (h : p [] = true) : bgF F worth p ∈ (allS F.op.length).filter p := bestL_mem (fil_pos h)
theorem bg_set {F : Fld} {worth : Int} {p : List Int → Bool} (h : p [] = true) : setB F (bgF F worth p) = true := allS_ris _ (List.mem_filter.1 (bg_mem h)).1
theorem bg_len {F : Fld} {worth : Int} {p : List Int → Bool} (h : p [] = true) : (bgF F worth p).length ≤ F.op.length := set_len (bg_set h)
end Go.Proofs.YtgfbjgdofhcmaaaGreat

namespace Go.Proofs.YtgfbjgdofhcmaaaGreat
open Go.RowKit Go.Sort

def galOk (F : Fld) (worth : Int) (cl li : List Int) : Bool := goodF F && worthB worth && clsB F cl li
def galL (F : Fld) (worth : Int) (cl li : List Int) : List Int := if galOk F worth cl li = true then grd F worth (allowB cl li) F.op.length [] [] else []
theorem galL_yes {F : Fld} {worth : Int} {cl li : List Int} (h : galOk F worth cl li = true) : galL F worth cl li = grd F worth (allowB cl li) F.op.length [] [] := if_pos h
theorem galL_no {F : Fld} {worth : Int} {cl li : List Int} (h : galOk F worth cl li = false) : galL F worth cl li = [] := if_neg (by simp [h])
theorem galOk_parts {F : Fld} {worth : Int} {cl li : List Int} (h : galOk F worth cl li = true) : goodF F = true ∧ (0 ≤ worth ∧ worth ≤ 999) ∧ clsB F cl li = true := by
  simp only [galOk, Bool.and_eq_true, worthB, inB_iff] at h
  exact ⟨h.1.1, h.1.2, h.2⟩
theorem galL_len (F : Fld) (worth : Int) (cl li : List Int) : (galL F worth cl li).length ≤ 1048576 := by
  by_cases h : galOk F worth cl li = true
  · rw [galL_yes h]
    have h1 := grd_len (F := F) (worth := worth) (may := allowB cl li) F.op.length [] []
    have h2 := (goodF_iff.1 (galOk_parts h).1).1.2
    simp at h1; omega
  · rw [galL_no (by simpa using h)]; simp
theorem cls_mem {F : Fld} {cl li S : List Int} (h : clsB F cl li = true) (hs : setB F S = true) : ∀ x ∈ S, 0 ≤ x ∧ x < cl.length := fun x hx => by
  have h1 := (clsB_iff.1 h).1
  have h2 := set_mem hs x hx
  omega
end Go.Proofs.YtgfbjgdofhcmaaaGreat

namespace Go.Proofs.YtgfbjgdofhcmaaaGreat
open Go.RowKit Go.Sort

def kP (k : Int) (S : List Int) : Bool := decide ((S.length : Int) ≤ k)
def bgOk (F : Fld) (worth k : Int) : Bool := goodF F && worthB worth && inB k 0 7
def bgL (F : Fld) (worth k : Int) : List Int := if bgOk F worth k = true then bgF F worth (kP k) else []
theorem bgL_yes {F : Fld} {worth k : Int} (h : bgOk F worth k = true) : bgL F worth k = bgF F worth (kP k) := if_pos h
theorem bgL_no {F : Fld} {worth k : Int} (h : bgOk F worth k = false) : bgL F worth k = [] := if_neg (by simp [h])
theorem bgOk_parts {F : Fld} {worth k : Int} (h : bgOk F worth k = true) : goodF F = true ∧ (0 ≤ worth ∧ worth ≤ 999) ∧ 0 ≤ k ∧ k ≤ 7 := by
  simp only [bgOk, worthB, inB, Bool.and_eq_true, decide_eq_true_eq] at h
  exact ⟨h.1.1, h.1.2, h.2⟩
theorem kP_nil {k : Int} (h : 0 ≤ k) : kP k [] = true := by simp [kP, h]
theorem bgL_len (F : Fld) (worth k : Int) : (bgL F worth k).length ≤ 1048576 := by
  by_cases h : bgOk F worth k = true
  · have hp := bgOk_parts h
    rw [bgL_yes h]
    have h1 := bg_len (F := F) (worth := worth) (kP_nil hp.2.2.1)
    have h2 := (goodF_iff.1 hp.1).1.2
    omega
  · rw [bgL_no (by simpa using h)]; simp
set_option maxRecDepth 100000 in
set_option maxHeartbeats 2000000 in
theorem specBg_any (f : Value) (F : Fld) (worth k : Int) (w : World) (hf : FldAt w f F) :
    Calls Tryz.prog 12 #[f, .int .i64 worth, .int .i64 k] w fun e w' => ∃ v, e = .returned (.tuple #[v, .bool (bgOk F worth k)]) ∧ Own w' w.heap.size v (bgL F worth k) ∧ Kp w w' := by
  obtain ⟨A, c, B, d, rfl, hA, hB⟩ := hf
  have hk0 : Kp w (w.alloc (.cells #[.slice A F.op.length c, .slice B F.di.length d] 27)) := (Kp.refl w).alloc _
  obtain ⟨d0, d1⟩ := box2 w (.slice A F.op.length c) (.slice B F.di.length d) 27
  have hFA := FldAt.kp (show FldAt w (.agg #[.slice A F.op.length c, .slice B F.di.length d]) F from ⟨A, c, B, d, rfl, hA, hB⟩) hk0
  clear hA hB
  go_enter Tryz.func12, Tryz.ntmps12
  go_wp2_with fail
  have hsz : Hid ((w.alloc (.cells #[.slice A F.op.length c, .slice B F.di.length d] 27)).heap.size = w.heap.size + 1) := by show _ = _; simp
  generalize w.alloc (.cells #[.slice A F.op.length c, .slice B F.di.length d] 27) = wb at *
  have hkb : Kp wb wb := Kp.refl _
  have hkw := hk0
  have ho0 := own_new0 wb w.heap.size (by rw [hsz.out]; exact Nat.le_succ _)
  have hkn := (Kp.refl wb).alloc (.cells #[] 3)
  rw [hsz.out] at ho0
  have q_0 := hkn.get d0
  have q_1 := hkn.get d1
  have CC := Lib.hid (l8Good_any _ F worth _ (hFA.kp hkn))
  with_reducible refine Calls.mono CC.out ?_
  rintro e w1 ⟨rfl, hk1⟩
  clear CC q_0 q_1
  replace hkb := hkn.trans hk1
  have ho1 := ho0.kp hk1
  have hw1le := (hkw.trans hkb).le
  cases hg_ : (goodF F && worthB worth)
  · have Hno : Hid (bgOk F worth k = false) := by show _ = _; rw [bgOk, hg_]; rfl
    clear hg_
    have q_d0 := hkb.get d0
    have q_d1 := hkb.get d1
    go_wp2_with fail
    go_ret2
    exact ⟨_, by rw [Hno.out]; rfl, by rw [bgL_no Hno.out]; exact ho1, hkw.trans hkb⟩
  have Hg := Lib.hid hg_; clear hg_
  have q_d0 := hkb.get d0
  have q_d1 := hkb.get d1
  go_wp2_with fail
  with_reducible refine Calls.mono (l8K_any k _) ?_
  rintro e w1 ⟨rfl, hw⟩
  obtain rfl := hw
  clear q_d0 q_d1
  cases hk_ : inB k 0 7
  · have Hno : Hid (bgOk F worth k = false) := by show _ = _; rw [bgOk, hk_]; simp
    clear hk_
    have q_d0 := hkb.get d0
    have q_d1 := hkb.get d1
    go_wp2_with fail
    go_ret2
    exact ⟨_, by rw [Hno.out]; rfl, by rw [bgL_no Hno.out]; exact ho1, hkw.trans hkb⟩
  have Hok : Hid (bgOk F worth k = true) := by show _ = _; rw [bgOk, Hg.out, hk_]; rfl
  clear hk_
  have HP := Lib.hid (bgOk_parts Hok.out)
  have HG := Lib.hid HP.out.1
  have hw0 := HP.out.2.1.1
  have hw9 := HP.out.2.1.2
  have PN : kP k [] = true := kP_nil HP.out.2.2.1
  have q_d0 := hkb.get d0
  have q_d1 := hkb.get d1
  go_wp2_with fail
  have CC := Lib.hid (l8All_any _ F _ (hFA.kp hkb) HG.out)
  with_reducible refine Calls.mono CC.out ?_
  rintro e w2 ⟨v, rfl, hvn, hgo, hk2⟩
  clear CC q_d0 q_d1
  replace hkb := hkb.trans hk2
  have hg7 := (goodF_iff.1 HG.out).1.2
  obtain ⟨ad, cx, hve, hcx, hrows⟩ := hgo.rows_some (by have := allS_most HG.out; omega) hvn
  subst hve
  clear hgo hvn
  obtain ⟨rows, hre⟩ : ∃ rows, rows = allS F.op.length := ⟨_, rfl⟩
  rw [← hre] at hrows hcx ⊢
  have Hpk : Hid (pkTo (kP k) (negG F worth) rows rows.length = bgF F worth (kP k)) := by show _ = _; rw [hre]; exact pk_all PN
  have Hset : Hid (∀ S ∈ rows, setB F S = true) := by show ∀ S ∈ rows, _; rw [hre]; exact allS_ris
  have Hmem : Hid (∀ jj, jj ≤ rows.length → setB F (pkTo (kP k) (negG F worth) rows jj) = true) := by show ∀ jj, _ → _; rw [hre]; exact fun jj hk => allS_ris _ (pk_mem jj hk)
  have l1 : rows.length ≤ 128 := by rw [hre]; exact allS_most HG.out
  obtain ⟨m, hml⟩ : ∃ m, m = rows.length := ⟨_, rfl⟩
  rw [← hml] at l1 ⊢
  replace hml := Lib.hid hml
  clear hre
  have g0 := hkb.get d0
  have g1 := hkb.get d1
  have hFl := hFA.kp hkb
  have hkl := hkw.trans hkb
  obtain ⟨wl, rfl⟩ : ∃ wl : World, wl = w2 := ⟨_, rfl⟩
  have ho2 := RowP.of_own (ho1.kp hk2) (by simp)
  clear ho0 ho1 hkn hk1 PN hkb d0 d1
  go_wp2_with fail
  go_loopw [8, 10] (fun bv iv wr => ∃ (k' : Nat) (Ab : Option Addr) (cb : Nat), k' ≤ m ∧ iv = .int .i64 k' ∧ bv = .slice Ab (pkTo (kP k) (negG F worth) rows k').length cb ∧ RowP wr (some w.heap.size) (.slice Ab (pkTo (kP k) (negG F worth) rows k').length cb) (pkTo (kP k) (negG F worth) rows k') ∧ Kp wl wr) (fun _ iv _ => m - (intOf iv).toNat)
  case atStart => exact ⟨0, _, _, by omega, rfl, rfl, ho2, Kp.refl _⟩
  case round =>
    clear ho2
    obtain ⟨j, Ab, cb, hj, rfl, rfl, hb, hkr⟩ := hrel
    by_cases hlt : j < m
    · have lx : j < rows.length := by rw [← hml.out]; exact hlt
      obtain ⟨A3, c3, hcl, hc3, hri, hrq⟩ := (hrows.kp hkr).some_ lx
      obtain ⟨Ab', cb', eb, hcb, hbi⟩ := hb.read
      simp only [Value.slice.injEq] at eb
      obtain ⟨rfl, _, rfl⟩ := eb
      have q1 := Lib.hid (Hset.out _ (List.getElem_mem lx))
      have q2 := Lib.hid (Hmem.out j (Nat.le_of_lt lx))
      have hkz : Kp wr wr := Kp.refl _
      have z0 := hkr.get g0
      have z1 := hkr.get g1
      have C1 := Lib.hid (fun (wx : World) (hx : Kp wr wx) => l8Gain_any _ F worth A3 rows[j] _ c3 wx (hFl.kp (hkr.trans hx)) (hri.kp hx) rfl HG.out q1.out hw0 hw9)
      have C2 := Lib.hid (fun (wx : World) (hx : Kp wr wx) => l8Gain_any _ F worth Ab (pkTo (kP k) (negG F worth) rows j) _ cb wx (hFl.kp (hkr.trans hx)) (hbi.kp hx) rfl HG.out q2.out hw0 hw9)
      by_cases hle : (rows[j].length : Int) ≤ k
      · by_cases hgt : gainF F worth (pkTo (kP k) (negG F worth) rows j) < gainF F worth rows[j]
        · have Hy : Hid (pkTo (kP k) (negG F worth) rows (j + 1) = rows[j]) := pk_yes lx (by simp [kP, hle]) (Int.neg_lt_neg hgt)
          have q_z0 := hkz.get z0
          have q_z1 := hkz.get z1
          have q_hcl := hkz.get hcl
          have tok1 : True := trivial
          go_wp2_with fail
          go_region_held3 (fun w' => w'.cell? ⟨w.heap.size, 0, none⟩ = some (.slice A F.op.length c) ∧ w'.cell? ⟨w.heap.size, 1, none⟩ = some (.slice B F.di.length d) ∧ w'.cell? (ad.add j) = some (.slice A3 rows[j].length c3) ∧ Kp wr w')
            (first | (refine keepc3 z0 z1 hcl ?_; exact (by repeat (first | with_reducible assumption | with_reducible exact Kp.refl _ | with_reducible refine Kp.drew ?_ | with_reducible refine Kp.alloc ?_ _ | with_reducible refine Kp.drewN ?_ _ | refine Kp.setCell ?_ (by dsimp only; omega) _))) | fail)
            (first
              | (have _t := tok1; go_at_call 38; with_reducible refine Calls.mono (C1.out _ (by repeat (first | with_reducible assumption | with_reducible exact Kp.refl _ | with_reducible refine Kp.drew ?_ | with_reducible refine Kp.alloc ?_ _ | with_reducible refine Kp.drewN ?_ _ | refine Kp.setCell ?_ (by dsimp only; omega) _))) ?_; rintro e wr1 ⟨rfl, hka⟩; have hr1 : Kp wr wr1 := Kp.trans (by repeat (first | with_reducible assumption | with_reducible exact Kp.refl _ | with_reducible refine Kp.drew ?_ | with_reducible refine Kp.alloc ?_ _ | with_reducible refine Kp.drewN ?_ _ | refine Kp.setCell ?_ (by dsimp only; omega) _)) hka; have tok2 : True := trivial; clear tok1 _t)
              | (have _t := tok2; go_at_call 38; with_reducible refine Calls.mono (C2.out _ (by repeat (first | with_reducible assumption | with_reducible exact Kp.refl _ | with_reducible refine Kp.drew ?_ | with_reducible refine Kp.alloc ?_ _ | with_reducible refine Kp.drewN ?_ _ | refine Kp.setCell ?_ (by dsimp only; omega) _))) ?_; rintro e wr2 ⟨rfl, hka⟩; have hr2 : Kp wr wr2 := Kp.trans (by repeat (first | with_reducible assumption | with_reducible exact Kp.refl _ | with_reducible refine Kp.drew ?_ | with_reducible refine Kp.alloc ?_ _ | with_reducible refine Kp.drewN ?_ _ | refine Kp.setCell ?_ (by dsimp only; omega) _)) hka; have tok3 : True := trivial; clear tok2 _t)
              | fail)
          have hc4 := hr2.get hcl
          go_wp2_with fail
          go_roundw
          case rel => exact ⟨j + 1, A3, c3, by omega, by go_num, by rw [Hy.out], by rw [Hy.out]; exact (hrq.mono hw1le).kp hr2, hkr.trans hr2⟩
          case measure => simp [intOf]; omega
        · have Hy : Hid (pkTo (kP k) (negG F worth) rows (j + 1) = pkTo (kP k) (negG F worth) rows j) := pk_no lx (fun h => hgt (by have h3 : -gainF F worth rows[j] < -gainF F worth (pkTo (kP k) (negG F worth) rows j) := h.2; omega))
          have q_z0 := hkz.get z0
          have q_z1 := hkz.get z1
          have q_hcl := hkz.get hcl
          have tok1 : True := trivial
          go_wp2_with fail
          go_region_held3 (fun w' => w'.cell? ⟨w.heap.size, 0, none⟩ = some (.slice A F.op.length c) ∧ w'.cell? ⟨w.heap.size, 1, none⟩ = some (.slice B F.di.length d) ∧ w'.cell? (ad.add j) = some (.slice A3 rows[j].length c3) ∧ Kp wr w')
            (first | (refine keepc3 z0 z1 hcl ?_; exact (by repeat (first | with_reducible assumption | with_reducible exact Kp.refl _ | with_reducible refine Kp.drew ?_ | with_reducible refine Kp.alloc ?_ _ | with_reducible refine Kp.drewN ?_ _ | refine Kp.setCell ?_ (by dsimp only; omega) _))) | fail)
            (first
              | (have _t := tok1; go_at_call 38; with_reducible refine Calls.mono (C1.out _ (by repeat (first | with_reducible assumption | with_reducible exact Kp.refl _ | with_reducible refine Kp.drew ?_ | with_reducible refine Kp.alloc ?_ _ | with_reducible refine Kp.drewN ?_ _ | refine Kp.setCell ?_ (by dsimp only; omega) _))) ?_; rintro e wr1 ⟨rfl, hka⟩; have hr1 : Kp wr wr1 := Kp.trans (by repeat (first | with_reducible assumption | with_reducible exact Kp.refl _ | with_reducible refine Kp.drew ?_ | with_reducible refine Kp.alloc ?_ _ | with_reducible refine Kp.drewN ?_ _ | refine Kp.setCell ?_ (by dsimp only; omega) _)) hka; have tok2 : True := trivial; clear tok1 _t)
              | (have _t := tok2; go_at_call 38; with_reducible refine Calls.mono (C2.out _ (by repeat (first | with_reducible assumption | with_reducible exact Kp.refl _ | with_reducible refine Kp.drew ?_ | with_reducible refine Kp.alloc ?_ _ | with_reducible refine Kp.drewN ?_ _ | refine Kp.setCell ?_ (by dsimp only; omega) _))) ?_; rintro e wr2 ⟨rfl, hka⟩; have hr2 : Kp wr wr2 := Kp.trans (by repeat (first | with_reducible assumption | with_reducible exact Kp.refl _ | with_reducible refine Kp.drew ?_ | with_reducible refine Kp.alloc ?_ _ | with_reducible refine Kp.drewN ?_ _ | refine Kp.setCell ?_ (by dsimp only; omega) _)) hka; have tok3 : True := trivial; clear tok2 _t)
              | fail)
          go_wp2_with fail
          go_roundw
          case rel => exact ⟨j + 1, Ab, cb, by omega, by go_num, by rw [Hy.out], by rw [Hy.out]; exact hb.kp hr2, hkr.trans hr2⟩
          case measure => simp [intOf]; omega
      · have Hy : Hid (pkTo (kP k) (negG F worth) rows (j + 1) = pkTo (kP k) (negG F worth) rows j) := pk_no lx (fun h => hle (by simpa [kP] using h.1))
        clear C1 C2
        have hdec : decide ((rows[j].length : Int) ≤ k) = false := by simpa using hle
        go_wp2_with fail
        go_quiet (fail)
        go_wp2_with fail
        go_roundw
        case rel => exact ⟨j + 1, Ab, cb, by omega, by go_num, by rw [Hy.out], by rw [Hy.out]; exact hb.kp ((Kp.refl _).drewN nq), hkr.drewN nq⟩
        case measure => simp [intOf]; omega
    · obtain rfl : j = m := by omega
      have Hy : Hid (pkTo (kP k) (negG F worth) rows j = bgF F worth (kP k)) := by show _ = _; rw [hml.out]; exact Hpk.out
      go_wp2_with fail
      go_ret2
      exact ⟨_, by rw [Hok.out]; rfl, by rw [bgL_yes Hok.out, ← Hy.out]; exact hb.2 _ rfl, hkl.trans hkr⟩
set_option maxRecDepth 100000 in
set_option maxHeartbeats 1000000 in
theorem implBg_any (f : Value) (F : Fld) (worth k : Int) (w : World) (hf : FldAt w f F) :
    Calls Tryz.prog 11 #[f, .int .i64 worth, .int .i64 k] w fun e w' => ∃ v, e = .returned (.tuple #[v, .bool (bgOk F worth k)]) ∧ Own w' w.heap.size v (bgL F worth k) ∧ Kp w w' := by
  obtain ⟨A, c, B, d, rfl, hA, hB⟩ := hf
  have hk0 : Kp w ((w.alloc (.cells #[.slice A F.op.length c, .slice B F.di.length d] 27)).alloc (.cells #[.int .i64 k] 3)) := ((Kp.refl w).alloc _).alloc _
  obtain ⟨d0, d1⟩ := box2 w (.slice A F.op.length c) (.slice B F.di.length d) 27
  have hFA := FldAt.kp (show FldAt w (.agg #[.slice A F.op.length c, .slice B F.di.length d]) F from ⟨A, c, B, d, rfl, hA, hB⟩) hk0
  replace d0 := ((Kp.refl _).alloc (.cells #[.int .i64 k] 3)).get d0
  replace d1 := ((Kp.refl _).alloc (.cells #[.int .i64 k] 3)).get d1
  have d2 : ((w.alloc (.cells #[.slice A F.op.length c, .slice B F.di.length d] 27)).alloc (.cells #[.int .i64 k] 3)).cell? ⟨w.heap.size + 1, 0, none⟩ = some (.int .i64 k) := by
    rw [World.cell?_alloc_at _ _ _ _ (by simp)]; rfl
  clear hA hB
  go_enter Tryz.func11, Tryz.ntmps11
  go_wp2_with fail
  generalize (w.alloc (.cells #[.slice A F.op.length c, .slice B F.di.length d] 27)).alloc (.cells #[.int .i64 k] 3) = wb at *
  have hkb : Kp wb wb := Kp.refl _
  have CC := Lib.hid (isWorth_any _ F worth none [] 0 0 _ (hFA.kp hkb) (IntsAt.nil _ none) rfl)
  with_reducible refine Calls.mono CC.out ?_
  rintro e w1 ⟨rfl, hk1⟩
  clear CC
  replace hkb := hkb.trans hk1
  have hgo : gainOk F worth [] = (goodF F && worthB worth) := by simp [gainOk, setB, risB]
  rw [hgo]
  clear hgo
  cases hg_ : (goodF F && worthB worth)
  · have Hno : Hid (bgOk F worth k = false) := by show _ = _; rw [bgOk, hg_]; rfl
    clear hg_
    have q_d0 := hkb.get d0
    have q_d1 := hkb.get d1
    have q_d2 := hkb.get d2
    go_wp2_with fail
    go_ret2
    exact ⟨_, by rw [Hno.out]; rfl, by rw [bgL_no Hno.out]; exact Own.nil _ _, hk0.trans hkb⟩
  have Hg := Lib.hid hg_; clear hg_
  have q_d0 := hkb.get d0
  have q_d1 := hkb.get d1
  have q_d2 := hkb.get d2
  go_wp2_with fail
  with_reducible refine Calls.mono (between_any _ _ _ _) ?_
  rintro e w2 ⟨rfl, hw⟩
  obtain rfl := hw
  clear q_d0 q_d1 q_d2
  cases hk_ : inB k 0 7
  · have Hno : Hid (bgOk F worth k = false) := by show _ = _; rw [bgOk, hk_]; simp
    clear hk_
    have q_d0 := hkb.get d0
    have q_d1 := hkb.get d1
    have q_d2 := hkb.get d2
    go_wp2_with fail
    go_ret2
    exact ⟨_, by rw [Hno.out]; rfl, by rw [bgL_no Hno.out]; exact Own.nil _ _, hk0.trans hkb⟩
  have Hok : Hid (bgOk F worth k = true) := by show _ = _; rw [bgOk, Hg.out, hk_]; rfl
  clear hk_
  have HP := Lib.hid (bgOk_parts Hok.out)
  have hg7 := (goodF_iff.1 HP.out.1).1.2
  have HPN := Lib.hid (kP_nil HP.out.2.2.1)
  have hkw : w.heap.size ≤ w1.heap.size := (hk0.trans hkb).le
  have C1 := Lib.hid (fun (wx : World) (hx : Kp wb wx) => lists_any 36 #[] #[.pointer (some ⟨w.heap.size + 1, 0, none⟩)] (kP k) (fun S => setB F S = true) F.op.length wx hg7 ⟨callFunc_of Tryz.func36 (by kernel_rfl) (by kernel_rfl), fun S Av cv w' hk' _ _ _ => lenClo_any k (w.heap.size + 1) w' ((hx.trans hk').get d2) Av S S.length cv rfl⟩ allS_ris)
  have C2 := Lib.hid (fun (wx : World) (hx : Kp wb wx) (lo : Option Nat) (Ax : Option Addr) (m cx : Nat) (hr : RowsAt wx lo Ax ((allS F.op.length).filter (kP k))) (hm : ((allS F.op.length).filter (kP k)).length = m) => most_any _ F worth lo Ax ((allS F.op.length).filter (kP k)) m cx wx (hFA.kp hx) hr hm (by have := fil_pos (n := F.op.length) HPN.out; omega) HP.out.1 HP.out.2.1.1 HP.out.2.1.2 (fun S hS => allS_ris _ (List.mem_filter.1 hS).1))
  have HF7 := Lib.hid (fil_most HP.out.1 (kP k))
  have q_d0 := hkb.get d0
  have q_d1 := hkb.get d1
  have q_d2 := hkb.get d2
  have tok1 : True := trivial
  go_wp2_with fail
  go_region_held3 (fun w' => w'.cell? ⟨w.heap.size, 0, none⟩ = some (.slice A F.op.length c) ∧ w'.cell? ⟨w.heap.size, 1, none⟩ = some (.slice B F.di.length d) ∧ w'.cell? ⟨w.heap.size + 1, 0, none⟩ = some (.int .i64 k) ∧ Kp wb w')
    (first | (refine keepc3 d0 d1 d2 ?_; exact (by repeat (first | with_reducible assumption | with_reducible exact Kp.refl _ | with_reducible refine Kp.drew ?_ | with_reducible refine Kp.alloc ?_ _ | with_reducible refine Kp.drewN ?_ _ | refine Kp.setCell ?_ (by dsimp only; omega) _))) | fail)
    (first
      | (have _t := tok1; go_at_call 35; with_reducible refine Calls.mono (C1.out _ (by repeat (first | with_reducible assumption | with_reducible exact Kp.refl _ | with_reducible refine Kp.drew ?_ | with_reducible refine Kp.alloc ?_ _ | with_reducible refine Kp.drewN ?_ _ | refine Kp.setCell ?_ (by dsimp only; omega) _))) ?_; rintro e wr1 ⟨v, rfl, hvn, hgo, hka⟩; have hr1 : Kp wb wr1 := Kp.trans (by repeat (first | with_reducible assumption | with_reducible exact Kp.refl _ | with_reducible refine Kp.drew ?_ | with_reducible refine Kp.alloc ?_ _ | with_reducible refine Kp.drewN ?_ _ | refine Kp.setCell ?_ (by dsimp only; omega) _)) hka; obtain ⟨Ax, cx, hve, hcx, hrows⟩ := hgo.rows (by have := HF7.out; omega); subst hve; have tok2 : True := trivial; clear tok1 _t)
      | (have _t := tok2; go_at_call 34; with_reducible refine Calls.mono (C2.out _ hr1 _ Ax _ cx hrows rfl) ?_; rintro e wr2 ⟨u, rfl, hu, hka⟩; have hr2 : Kp wb wr2 := Kp.trans (by repeat (first | with_reducible assumption | with_reducible exact Kp.refl _ | with_reducible refine Kp.drew ?_ | with_reducible refine Kp.alloc ?_ _ | with_reducible refine Kp.drewN ?_ _ | refine Kp.setCell ?_ (by dsimp only; omega) _)) hka; have tok3 : True := trivial; clear tok2 _t)
      | fail)
  all_goals
    go_wp2_with fail
    go_ret2
    exact ⟨u, by rw [Hok.out]; rfl, by rw [bgL_yes Hok.out]; exact ((hu.2 _ rfl).mono hkw), hk0.trans hr2⟩
end Go.Proofs.YtgfbjgdofhcmaaaGreat

namespace Go.Proofs.YtgfbjgdofhcmaaaGreat
open Go.RowKit Go.Sort

set_option maxRecDepth 100000 in
set_option maxHeartbeats 2000000 in
theorem l8Upper_any (f : Value) (F : Fld) (worth : Int) (A0 : Option Addr) (S : List Int) (n c0 K : Nat) (w : World) (hf : FldAt w f F) (hS : IntsAt w A0 S) (hn : S.length = n) (hc : n ≤ c0) (hg : goodF F = true) (hs : setB F S = true) (hw0 : 0 ≤ worth) (hw1 : worth ≤ 999) (hK : K ≤ 7) :
    Calls Tryz.prog 40 #[f, .int .i64 worth, .slice A0 n c0, .int .i64 K] w fun e w' => e = .returned (.int .i64 (upF F worth S K)) ∧ Kp w w' := by
  have h7 := (goodF_iff.1 hg).1.2
  have hAM := Lib.hid (allM_facts hg hw0 hw1 S)
  have hgb := gainF_bd hg hw0 hw1 S
  have hub := Lib.hid (upF_bd hg hw0 hw1 S K)
  obtain ⟨A, c, B, d, rfl, hA, hB⟩ := hf
  have hk0 : Kp w (w.alloc (.cells #[.slice A F.op.length c, .slice B F.di.length d] 27)) := (Kp.refl w).alloc _
  obtain ⟨d0, d1⟩ := box2 w (.slice A F.op.length c) (.slice B F.di.length d) 27
  have hFA := FldAt.kp (show FldAt w (.agg #[.slice A F.op.length c, .slice B F.di.length d]) F from ⟨A, c, B, d, rfl, hA, hB⟩) hk0
  have hS0 := hS.kp hk0
  have HG := Lib.hid hg
  have HS := Lib.hid hs
  have Hn := Lib.hid hn
  clear hS hA hB hg hs hn
  go_enter Tryz.func40, Tryz.ntmps40
  go_wp2_with fail
  have hsz : Hid ((w.alloc (.cells #[.slice A F.op.length c, .slice B F.di.length d] 27)).heap.size = w.heap.size + 1) := by show _ = _; simp
  generalize w.alloc (.cells #[.slice A F.op.length c, .slice B F.di.length d] 27) = wb at *
  have hkb : Kp wb wb := Kp.refl _
  have hkw := hk0
  have ho : Own (wb.alloc (.cells #[] 3)) wb.heap.size (.slice (some ⟨w.heap.size + 1, 0, none⟩) 0 0) [] := by
    rw [← hsz.out]; exact own_new0 wb wb.heap.size (Nat.le_refl _)
  have hka : Kp wb (wb.alloc (.cells #[] 3)) := (Kp.refl _).alloc _
  replace hkb := hkb.trans hka
  have CC := Lib.hid (l8Gain_any _ F worth A0 S n c0 _ (hFA.kp hka) (hS0.kp hka) Hn.out HG.out HS.out hw0 hw1)
  with_reducible refine Calls.mono CC.out ?_
  rintro e w1 ⟨rfl, hk1⟩
  clear CC
  replace hkb := hkb.trans hk1
  replace ho := ho.kp hk1
  have q_d0 := hkb.get d0
  have q_d1 := hkb.get d1
  go_wp2_with fail
  go_loopw [9, 11] (fun lv iv wr => ∃ (a : Nat) (L : List Int) (n9 c9 g9 : Nat), a ≤ F.op.length ∧ n9 ≤ a ∧ iv = .int .i64 a ∧ lv = .slice (some ⟨g9, 0, none⟩) n9 c9 ∧ L.length = n9 ∧ Hid (L = desc (margsTo F worth S a)) ∧ Own wr wb.heap.size lv L ∧ Kp wb wr) (fun _ iv _ => F.op.length - (intOf iv).toNat)
  case atStart => exact ⟨0, [], 0, 0, _, by omega, by omega, rfl, rfl, rfl, rfl, ho, hkb⟩
  case round =>
    obtain ⟨a, L, n9, c9, g9, ha, hna, rfl, rfl, hn9, HL, hown, hkb⟩ := hrel
    have Hn9 := Lib.hid hn9
    by_cases hlt : a < F.op.length
    · clear q_d0 q_d1
      have q_d0 := hkb.get d0
      have q_d1 := hkb.get d1
      go_wp2_with fail
      have CC := Lib.hid (l1Has_any A0 S n c0 (a : Int) _ (hS0.kp hkb) Hn.out)
      with_reducible refine Calls.mono CC.out ?_
      rintro e w2 ⟨rfl, hw⟩
      obtain rfl := hw
      clear CC q_d0 q_d1
      cases hh : (S.any fun x => x == (a : Int))
      · have HL2 : Hid (desc (margsTo F worth S (a + 1)) = insD (moreF F worth S a) (desc (margsTo F worth S a))) := by show _ = _; rw [margs_yes hh, desc_snoc]
        clear hh
        have q_d0 := hkb.get d0
        have q_d1 := hkb.get d1
        go_wp2_with fail
        have CC := Lib.hid (l8More_any _ F worth A0 S n c0 (a : Int) _ (hFA.kp hkb) (hS0.kp hkb) Hn.out hc HG.out HS.out hw0 hw1 (by omega) (by omega))
        with_reducible refine Calls.mono CC.out ?_
        rintro e w3 ⟨rfl, hk3⟩
        clear CC q_d0 q_d1
        replace hkb := hkb.trans hk3
        replace hown := hown.kp hk3
        have hmb := moreF_bd HG.out hw0 hw1 S a
        obtain ⟨m, Hm⟩ : ∃ m, Hid (m = moreF F worth S a) := ⟨_, rfl⟩
        rw [← Hm.out] at hmb ⊢
        have Hmy : Hid (insD m L = desc (margsTo F worth S (a + 1))) := by show _ = _; rw [HL2.out, Hm.out, HL.out]
        have Hil : Hid ((insD m L).length = n9 + 1) := by show _ = _; rw [insD_len, Hn9.out]
        obtain ⟨wr, rfl⟩ : ∃ wr : World, wr = w3 := ⟨_, rfl⟩
        have hS := hown.intsOf (by omega)
        have hnc : L.length ≤ c9 := hown.cap rfl
        obtain ⟨ad, had⟩ : ∃ ad : Addr, Hid (ad = ⟨g9, 0, none⟩) := ⟨_, rfl⟩
        rw [← had.out] at hown hS ⊢
        have q_d0 := hkb.get d0
        have q_d1 := hkb.get d1
        go_wp2_with fail
        go_loop [13] (fun iv => ∃ k : Nat, k ≤ n9 ∧ iv = .int .i64 k ∧ Hid (∀ x ∈ L.take k, m ≤ x)) (fun iv => n9 - (intOf iv).toNat)
        case atStart => exact ⟨0, by omega, rfl, by show ∀ x ∈ L.take 0, m ≤ x; simp⟩
        case round =>
          obtain ⟨k, hk, rfl, Hp⟩ := hrel
          have hkc : k ≤ c9 := by omega
          by_cases hltk : k < n9
          · have lx : k < L.length := by rw [Hn9.out]; exact hltk
            have hck := hS.some_ lx
            by_cases h1 : m ≤ L[k]
            · clear q_d0 q_d1
              have q_d0 := hkb.get d0
              have q_d1 := hkb.get d1
              go_wp2_with fail
              go_round
              case rel =>
                refine ⟨k + 1, by omega, by go_num, ?_⟩
                show ∀ x ∈ L.take (k + 1), m ≤ x
                intro x hx
                rw [List.take_succ_eq_append_getElem lx, List.mem_append] at hx
                rcases hx with hx | hx
                · exact Hp.out x hx
                · have : x = L[k] := by simpa using hx
                  omega
              case measure => simp [intOf]; omega
            · have hput := Lib.hid (insD_at (m := m) Hp.out (fun _ => by omega))
              have hlk : (L.take k).length = k := by rw [List.length_take, Hn9.out]; omega
              have hld : (L.drop k).length = n9 - k := by rw [List.length_drop, Hn9.out]
              have hl1 : ([] : List Int).length + (L.take k).length ≤ 4194304 := by rw [hlk]; simp; omega
              have hl2 : (([] : List Int) ++ L.take k).length + [m].length ≤ 4194304 := by rw [List.length_append, hlk]; simp; omega
              have hl3 : (([] : List Int) ++ L.take k).length < 1048576 := by rw [List.length_append, hlk]; simp; omega
              have hl4 : (([] : List Int) ++ L.take k ++ [m]).length + (L.drop k).length ≤ 4194304 := by rw [List.length_append, List.length_append, hlk, hld]; simp; omega
              have hA := Lib.hid ((own_new0 wr _ (Nat.le_refl _)).drew)
              have hAB := Lib.hid ((own_ab wr m).drew)
              have hBA := Lib.hid ((own_ba wr m).drew)
              go_wp2_with fail
              go_region_held3 (fun w' => Kp wr w')
                (first | exact (by repeat (first | with_reducible assumption | with_reducible exact Kp.refl _ | with_reducible refine Kp.drew ?_ | with_reducible refine Kp.alloc ?_ _ | with_reducible refine Kp.drewN ?_ _ | refine Kp.setCell ?_ (by dsimp only; omega) _)) | exact hkA | exact hkA.alloc _ | exact hkB | exact hkC)
                (first
                  | (refine step_app_all (by rfl) (.tmp 49) (.tmp 52) (by rfl) wr.heap.size _ [] (L.take k) (some ad) k c9 (by rfl) (by rfl) hA.out ((hS.take k).kp (by repeat (first | with_reducible assumption | with_reducible exact Kp.refl _ | with_reducible refine Kp.drew ?_ | with_reducible refine Kp.alloc ?_ _ | with_reducible refine Kp.drewN ?_ _ | refine Kp.setCell ?_ (by dsimp only; omega) _))) hlk (by simp) hl1 ?_; intro v1 w1 ho1 ht1 h41; have hkA : Kp wr w1 := hA.out.kp_turn (by repeat (first | with_reducible assumption | with_reducible exact Kp.refl _ | with_reducible refine Kp.drew ?_ | with_reducible refine Kp.alloc ?_ _ | with_reducible refine Kp.drewN ?_ _ | refine Kp.setCell ?_ (by dsimp only; omega) _)) (Nat.le_refl _) ht1)
                  | (refine step_app_all (by rfl) (.tmp 49) (.tmp 52) (by rfl) wr.heap.size _ [] (L.take k) (some ad) k c9 (by rfl) (by rfl) hAB.out ((hS.take k).kp (by repeat (first | with_reducible assumption | with_reducible exact Kp.refl _ | with_reducible refine Kp.drew ?_ | with_reducible refine Kp.alloc ?_ _ | with_reducible refine Kp.drewN ?_ _ | refine Kp.setCell ?_ (by dsimp only; omega) _))) hlk (by simp; omega) hl1 ?_; intro v1 w1 ho1 ht1 h41; have hkA : Kp wr w1 := hAB.out.kp_turn (by repeat (first | with_reducible assumption | with_reducible exact Kp.refl _ | with_reducible refine Kp.drew ?_ | with_reducible refine Kp.alloc ?_ _ | with_reducible refine Kp.drewN ?_ _ | refine Kp.setCell ?_ (by dsimp only; omega) _)) (Nat.le_refl _) ht1; have h1n := one_turn (g := wr.heap.size + 1) ((one_ab wr m).kp (Kp.refl _).drew) ht1 (by simp [Value.ownBlock]) (by simp; try omega))
                  | (refine step_app_all (by rfl) (.tmp 49) (.tmp 52) (by rfl) wr.heap.size _ [] (L.take k) (some ad) k c9 (by rfl) (by rfl) hBA.out ((hS.take k).kp (by repeat (first | with_reducible assumption | with_reducible exact Kp.refl _ | with_reducible refine Kp.drew ?_ | with_reducible refine Kp.alloc ?_ _ | with_reducible refine Kp.drewN ?_ _ | refine Kp.setCell ?_ (by dsimp only; omega) _))) hlk (by simp; omega) hl1 ?_; intro v1 w1 ho1 ht1 h41; have hkA : Kp wr w1 := hBA.out.kp_turn (by repeat (first | with_reducible assumption | with_reducible exact Kp.refl _ | with_reducible refine Kp.drew ?_ | with_reducible refine Kp.alloc ?_ _ | with_reducible refine Kp.drewN ?_ _ | refine Kp.setCell ?_ (by dsimp only; omega) _)) (Nat.le_refl _) ht1; have h1n := one_turn (g := wr.heap.size) ((one_ba wr m).kp (Kp.refl _).drew) ht1 (by simp [Value.ownBlock]) (by simp; try omega))
                  | (refine step_app_all (by rfl) (.tmp 53) (.tmp 55) (by rfl) wr.heap.size v1 ([] ++ L.take k) [m] (some ⟨wr.heap.size + 1, 0, none⟩) 1 1 (by rfl) (by rfl) ho1 h1n rfl hkA.le hl2 ?_; intro v2 w2 ho2 ht2 h42; have hkB : Kp wr w2 := ho1.kp_turn hkA (Nat.le_refl _) ht2)
                  | (refine step_app_all (by rfl) (.tmp 53) (.tmp 55) (by rfl) wr.heap.size v1 ([] ++ L.take k) [m] (some ⟨wr.heap.size, 0, none⟩) 1 1 (by rfl) (by rfl) ho1 h1n rfl hkA.le hl2 ?_; intro v2 w2 ho2 ht2 h42; have hkB : Kp wr w2 := ho1.kp_turn hkA (Nat.le_refl _) ht2)
                  | (refine step_app (by rfl) (.tmp 53) (.tmp 55) (by rfl) wr.heap.size v1 ([] ++ L.take k) m _ (by rfl) (by rfl) (by rfl) ho1 hkA.le hl3 ?_; intro v2 w2 ho2 ht2 h42; have hkB : Kp wr w2 := ho1.kp_turn hkA (Nat.le_refl _) ht2)
                  | (refine step_app_all (by rfl) (.tmp 56) (.tmp 59) (by rfl) wr.heap.size v2 ([] ++ L.take k ++ [m]) (L.drop k) (if c9 = k then some ad else some (ad.add k)) (n9 - k) (c9 - k) (by rfl) (by rfl) ho2 ((hS.tail hnc k).kp hkB) hld hkB.le hl4 ?_; intro v3 w3 ho3 ht3 h43; have hkC : Kp wr w3 := ho2.kp_turn hkB (Nat.le_refl _) ht3))
              all_goals
                have e4 : [] ++ L.take k ++ [m] ++ L.drop k = insD m L := by rw [hput.out]; simp
                rw [e4] at ho3
                obtain ⟨g3, c3, e3⟩ := ho3.at0 (Hil.out ▸ rfl) (Nat.succ_pos n9)
                subst e3
                go_wp2_with fail
                go_roundw
                case rel => exact ⟨a + 1, insD m L, n9 + 1, c3, g3, by omega, by omega, by go_num, rfl, Hil.out, Hmy, ho3.mono hkb.le, hkb.trans hkC⟩
                case measure => simp [intOf]; omega
          · have hput := Lib.hid (insD_at (m := m) Hp.out (fun h => absurd h (by rw [Hn9.out]; omega)))
            have hlk : (L.take k).length = k := by rw [List.length_take, Hn9.out]; omega
            have hld : (L.drop k).length = n9 - k := by rw [List.length_drop, Hn9.out]
            have hl1 : ([] : List Int).length + (L.take k).length ≤ 4194304 := by rw [hlk]; simp; omega
            have hl2 : (([] : List Int) ++ L.take k).length + [m].length ≤ 4194304 := by rw [List.length_append, hlk]; simp; omega
            have hl3 : (([] : List Int) ++ L.take k).length < 1048576 := by rw [List.length_append, hlk]; simp; omega
            have hl4 : (([] : List Int) ++ L.take k ++ [m]).length + (L.drop k).length ≤ 4194304 := by rw [List.length_append, List.length_append, hlk, hld]; simp; omega
            have hA := Lib.hid ((own_new0 wr _ (Nat.le_refl _)).drew)
            have hAB := Lib.hid ((own_ab wr m).drew)
            have hBA := Lib.hid ((own_ba wr m).drew)
            go_wp2_with fail
            go_region_held3 (fun w' => Kp wr w')
              (first | exact (by repeat (first | with_reducible assumption | with_reducible exact Kp.refl _ | with_reducible refine Kp.drew ?_ | with_reducible refine Kp.alloc ?_ _ | with_reducible refine Kp.drewN ?_ _ | refine Kp.setCell ?_ (by dsimp only; omega) _)) | exact hkA | exact hkA.alloc _ | exact hkB | exact hkC)
              (first
                | (refine step_app_all (by rfl) (.tmp 49) (.tmp 52) (by rfl) wr.heap.size _ [] (L.take k) (some ad) k c9 (by rfl) (by rfl) hA.out ((hS.take k).kp (by repeat (first | with_reducible assumption | with_reducible exact Kp.refl _ | with_reducible refine Kp.drew ?_ | with_reducible refine Kp.alloc ?_ _ | with_reducible refine Kp.drewN ?_ _ | refine Kp.setCell ?_ (by dsimp only; omega) _))) hlk (by simp) hl1 ?_; intro v1 w1 ho1 ht1 h41; have hkA : Kp wr w1 := hA.out.kp_turn (by repeat (first | with_reducible assumption | with_reducible exact Kp.refl _ | with_reducible refine Kp.drew ?_ | with_reducible refine Kp.alloc ?_ _ | with_reducible refine Kp.drewN ?_ _ | refine Kp.setCell ?_ (by dsimp only; omega) _)) (Nat.le_refl _) ht1)
                | (refine step_app_all (by rfl) (.tmp 49) (.tmp 52) (by rfl) wr.heap.size _ [] (L.take k) (some ad) k c9 (by rfl) (by rfl) hAB.out ((hS.take k).kp (by repeat (first | with_reducible assumption | with_reducible exact Kp.refl _ | with_reducible refine Kp.drew ?_ | with_reducible refine Kp.alloc ?_ _ | with_reducible refine Kp.drewN ?_ _ | refine Kp.setCell ?_ (by dsimp only; omega) _))) hlk (by simp; omega) hl1 ?_; intro v1 w1 ho1 ht1 h41; have hkA : Kp wr w1 := hAB.out.kp_turn (by repeat (first | with_reducible assumption | with_reducible exact Kp.refl _ | with_reducible refine Kp.drew ?_ | with_reducible refine Kp.alloc ?_ _ | with_reducible refine Kp.drewN ?_ _ | refine Kp.setCell ?_ (by dsimp only; omega) _)) (Nat.le_refl _) ht1; have h1n := one_turn (g := wr.heap.size + 1) ((one_ab wr m).kp (Kp.refl _).drew) ht1 (by simp [Value.ownBlock]) (by simp; try omega))
                | (refine step_app_all (by rfl) (.tmp 49) (.tmp 52) (by rfl) wr.heap.size _ [] (L.take k) (some ad) k c9 (by rfl) (by rfl) hBA.out ((hS.take k).kp (by repeat (first | with_reducible assumption | with_reducible exact Kp.refl _ | with_reducible refine Kp.drew ?_ | with_reducible refine Kp.alloc ?_ _ | with_reducible refine Kp.drewN ?_ _ | refine Kp.setCell ?_ (by dsimp only; omega) _))) hlk (by simp; omega) hl1 ?_; intro v1 w1 ho1 ht1 h41; have hkA : Kp wr w1 := hBA.out.kp_turn (by repeat (first | with_reducible assumption | with_reducible exact Kp.refl _ | with_reducible refine Kp.drew ?_ | with_reducible refine Kp.alloc ?_ _ | with_reducible refine Kp.drewN ?_ _ | refine Kp.setCell ?_ (by dsimp only; omega) _)) (Nat.le_refl _) ht1; have h1n := one_turn (g := wr.heap.size) ((one_ba wr m).kp (Kp.refl _).drew) ht1 (by simp [Value.ownBlock]) (by simp; try omega))
                | (refine step_app_all (by rfl) (.tmp 53) (.tmp 55) (by rfl) wr.heap.size v1 ([] ++ L.take k) [m] (some ⟨wr.heap.size + 1, 0, none⟩) 1 1 (by rfl) (by rfl) ho1 h1n rfl hkA.le hl2 ?_; intro v2 w2 ho2 ht2 h42; have hkB : Kp wr w2 := ho1.kp_turn hkA (Nat.le_refl _) ht2)
                | (refine step_app_all (by rfl) (.tmp 53) (.tmp 55) (by rfl) wr.heap.size v1 ([] ++ L.take k) [m] (some ⟨wr.heap.size, 0, none⟩) 1 1 (by rfl) (by rfl) ho1 h1n rfl hkA.le hl2 ?_; intro v2 w2 ho2 ht2 h42; have hkB : Kp wr w2 := ho1.kp_turn hkA (Nat.le_refl _) ht2)
                | (refine step_app (by rfl) (.tmp 53) (.tmp 55) (by rfl) wr.heap.size v1 ([] ++ L.take k) m _ (by rfl) (by rfl) (by rfl) ho1 hkA.le hl3 ?_; intro v2 w2 ho2 ht2 h42; have hkB : Kp wr w2 := ho1.kp_turn hkA (Nat.le_refl _) ht2)
                | (refine step_app_all (by rfl) (.tmp 56) (.tmp 59) (by rfl) wr.heap.size v2 ([] ++ L.take k ++ [m]) (L.drop k) (if c9 = k then some ad else some (ad.add k)) (n9 - k) (c9 - k) (by rfl) (by rfl) ho2 ((hS.tail hnc k).kp hkB) hld hkB.le hl4 ?_; intro v3 w3 ho3 ht3 h43; have hkC : Kp wr w3 := ho2.kp_turn hkB (Nat.le_refl _) ht3))
            all_goals
              have e4 : [] ++ L.take k ++ [m] ++ L.drop k = insD m L := by rw [hput.out]; simp
              rw [e4] at ho3
              obtain ⟨g3, c3, e3⟩ := ho3.at0 (Hil.out ▸ rfl) (Nat.succ_pos n9)
              subst e3
              go_wp2_with fail
              go_roundw
              case rel => exact ⟨a + 1, insD m L, n9 + 1, c3, g3, by omega, by omega, by go_num, rfl, Hil.out, Hmy, ho3.mono hkb.le, hkb.trans hkC⟩
              case measure => simp [intOf]; omega
      · have HL2 := Lib.hid (margs_no (F := F) (worth := worth) hh)
        clear hh
        have q_d0 := hkb.get d0
        have q_d1 := hkb.get d1
        go_wp2_with fail
        go_roundw
        case rel => exact ⟨a + 1, L, n9, c9, g9, by omega, by omega, by go_num, rfl, hn9, by show _ = _; rw [HL2.out]; exact HL.out, hown, hkb⟩
        case measure => simp [intOf]; omega
    · obtain rfl : a = F.op.length := by omega
      have HL3 : Hid (L = allM F worth S) := HL.out
      have hS9 := hown.intsOf (by omega)
      have hAL := hAM.out
      rw [← HL3.out] at hAL
      have hAq := Lib.hid hAL.2.2
      have hAe := Lib.hid hAL.2.1
      clear hAL
      obtain ⟨ad, had⟩ : ∃ ad : Addr, Hid (ad = ⟨g9, 0, none⟩) := ⟨_, rfl⟩
      rw [← had.out] at hS9 ⊢
      clear q_d0 q_d1
      have q_d0 := hkb.get d0
      have q_d1 := hkb.get d1
      go_wp2_with fail
      go_loop [10, 14] (fun sv iv => ∃ q : Nat, q ≤ K ∧ q ≤ n9 ∧ iv = .int .i64 q ∧ sv = .int .i64 (gainF F worth S + (L.take q).sum)) (fun _ iv => n9 - (intOf iv).toNat)
      case atStart => exact ⟨0, by omega, by omega, rfl, by simp⟩
      case round =>
        obtain ⟨q, hq, hq2, rfl, rfl⟩ := hrel
        by_cases hlq : q < K ∧ q < n9
        · obtain ⟨hl1, hl2⟩ := hlq
          have lx : q < L.length := by rw [Hn9.out]; exact hl2
          have hck := hS9.some_ lx
          have b1 := hAq.out q
          have b2 := hAq.out (q + 1)
          have hsu : Hid ((L.take (q + 1)).sum = (L.take q).sum + L[q]) := by show _ = _; rw [List.take_succ_eq_append_getElem lx, List.sum_append]; simp
          rw [hsu.out] at b2
          have hsu2 : Hid (gainF F worth S + (L.take (q + 1)).sum = gainF F worth S + (L.take q).sum + L[q]) := by show _ = _; rw [hsu.out]; omega
          generalize (L.take q).sum = sq at *
          generalize gainF F worth S = gg at *
          clear q_d0 q_d1
          have q_d0 := hkb.get d0
          have q_d1 := hkb.get d1
          go_wp2_with fail
          go_round
          case rel => exact ⟨q + 1, by omega, by omega, by go_num, by rw [hsu2.out]⟩
          case measure => simp [intOf]; omega
        · have hfin : Hid (gainF F worth S + (L.take q).sum = upF F worth S K) := by
            show _ = _
            rw [upF, ← HL3.out]
            by_cases h : q < K
            · rw [show q = n9 from by omega, List.take_of_length_le (by rw [Hn9.out]; omega), List.take_of_length_le (by rw [Hn9.out]; omega)]
            · rw [show q = K from by omega]
          rw [hfin.out]
          by_cases hK2 : q < K
          · have hK3 : ¬ q < n9 := fun h => hlq ⟨hK2, h⟩
            clear q_d0 q_d1
            have q_d0 := hkb.get d0
            have q_d1 := hkb.get d1
            go_wp2_with fail
            go_ret
            exact ⟨rfl, hkw.trans hkb⟩
          · clear q_d0 q_d1
            have q_d0 := hkb.get d0
            have q_d1 := hkb.get d1
            go_wp2_with fail
            go_ret
            exact ⟨rfl, hkw.trans hkb⟩
end Go.Proofs.YtgfbjgdofhcmaaaGreat

namespace Go.Proofs.YtgfbjgdofhcmaaaGreat
open Go.RowKit Go.Sort Go.Shelf

def sortI_ren : Go.Shelf.Ren := ⟨fun | 189 => 62 | 125 => 81 | 257 => 80 | 128 => 104 | 129 => 105 | 294 => 95 | 295 => 96 | 296 => 97 | 297 => 98 | 298 => 99 | 299 => 100 | 216 => 101 | 300 => 102 | 301 => 103 | 328 => 121 | 329 => 122 | 330 => 123 | 331 => 124 | 332 => 125 | 215 => 120 | 343 => 129 | n => n, fun | 28 => 24 | 3 => 3 | 46 => 49 | 0 => 0 | 51 => 101 | 53 => 62 | 4 => 4 | 183 => 95 | 182 => 94 | 131 => 35 | 5 => 5 | 9 => 9 | 218 => 109 | 222 => 113 | 228 => 117 | 229 => 72 | n => n, fun | n => n⟩
theorem sortI : Go.Proofs.Lays.n189 Tryz.prog sortI_ren := {
  mixed := by kernel_rfl
  f125 := Tryz.func81.trans (congrArg some (by kernel_rfl))
  f128 := Tryz.func104.trans (congrArg some (by kernel_rfl))
  f129 := Tryz.func105.trans (congrArg some (by kernel_rfl))
  f189 := Tryz.func62.trans (congrArg some (by kernel_rfl))
  f215 := Tryz.func120.trans (congrArg some (by kernel_rfl))
  f216 := Tryz.func101.trans (congrArg some (by kernel_rfl))
  f257 := Tryz.func80.trans (congrArg some (by kernel_rfl))
  f294 := Tryz.func95.trans (congrArg some (by kernel_rfl))
  f295 := Tryz.func96.trans (congrArg some (by kernel_rfl))
  f296 := Tryz.func97.trans (congrArg some (by kernel_rfl))
  f297 := Tryz.func98.trans (congrArg some (by kernel_rfl))
  f298 := Tryz.func99.trans (congrArg some (by kernel_rfl))
  f299 := Tryz.func100.trans (congrArg some (by kernel_rfl))
  f300 := Tryz.func102.trans (congrArg some (by kernel_rfl))
  f301 := Tryz.func103.trans (congrArg some (by kernel_rfl))
  f328 := Tryz.func121.trans (congrArg some (by kernel_rfl))
  f329 := Tryz.func122.trans (congrArg some (by kernel_rfl))
  f330 := Tryz.func123.trans (congrArg some (by kernel_rfl))
  f331 := Tryz.func124.trans (congrArg some (by kernel_rfl))
  f332 := Tryz.func125.trans (congrArg some (by kernel_rfl))
  f343 := Tryz.func129.trans (congrArg some (by kernel_rfl))
  t0 := Tryz.underlying0
  a0 := Tryz.isAgg0
  z0 := Tryz.sizeOf0
  v0 := Tryz.zeroValue0
  t3 := Tryz.underlying3
  a3 := Tryz.isAgg3
  z3 := Tryz.sizeOf3
  v3 := Tryz.zeroValue3
  t4 := Tryz.underlying4
  a4 := Tryz.isAgg4
  z4 := Tryz.sizeOf4
  v4 := Tryz.zeroValue4
  t5 := Tryz.underlying5
  a5 := Tryz.isAgg5
  z5 := Tryz.sizeOf5
  v5 := Tryz.zeroValue5
  t9 := Tryz.underlying9
  a9 := Tryz.isAgg9
  z9 := Tryz.sizeOf9
  v9 := Tryz.zeroValue9
  t28 := Tryz.underlying24
  a28 := Tryz.isAgg24
  z28 := Tryz.sizeOf24
  v28 := Tryz.zeroValue24
  t46 := Tryz.underlying49
  a46 := Tryz.isAgg49
  z46 := Tryz.sizeOf49
  v46 := Tryz.zeroValue49
  t51 := Tryz.underlying101
  a51 := Tryz.isAgg101
  z51 := Tryz.sizeOf101
  v51 := Tryz.zeroValue101
  t53 := Tryz.underlying62
  a53 := Tryz.isAgg62
  z53 := Tryz.sizeOf62
  v53 := Tryz.zeroValue62
  t131 := Tryz.underlying35
  a131 := Tryz.isAgg35
  z131 := Tryz.sizeOf35
  v131 := Tryz.zeroValue35
  t182 := Tryz.underlying94
  a182 := Tryz.isAgg94
  z182 := Tryz.sizeOf94
  v182 := Tryz.zeroValue94
  t183 := Tryz.underlying95
  a183 := Tryz.isAgg95
  z183 := Tryz.sizeOf95
  v183 := Tryz.zeroValue95
  t218 := Tryz.underlying109
  a218 := Tryz.isAgg109
  z218 := Tryz.sizeOf109
  v218 := Tryz.zeroValue109
  t222 := Tryz.underlying113
  a222 := Tryz.isAgg113
  z222 := Tryz.sizeOf113
  v222 := Tryz.zeroValue113
  t228 := Tryz.underlying117
  a228 := Tryz.isAgg117
  z228 := Tryz.sizeOf117
  v228 := Tryz.zeroValue117
  t229 := Tryz.underlying72
  a229 := Tryz.isAgg72
  z229 := Tryz.sizeOf72
  v229 := Tryz.zeroValue72 }
def revI_ren : Go.Shelf.Ren := ⟨fun | 112 => 63 | n => n, fun | 28 => 24 | 3 => 3 | 4 => 4 | 0 => 0 | n => n, fun | n => n⟩
theorem revI : Go.Proofs.Lays.n112 Tryz.prog revI_ren := {
  mixed := by kernel_rfl
  f112 := Tryz.func63.trans (congrArg some (by kernel_rfl))
  t0 := Tryz.underlying0
  a0 := Tryz.isAgg0
  z0 := Tryz.sizeOf0
  v0 := Tryz.zeroValue0
  t3 := Tryz.underlying3
  a3 := Tryz.isAgg3
  z3 := Tryz.sizeOf3
  v3 := Tryz.zeroValue3
  t4 := Tryz.underlying4
  a4 := Tryz.isAgg4
  z4 := Tryz.sizeOf4
  v4 := Tryz.zeroValue4
  t28 := Tryz.underlying24
  a28 := Tryz.isAgg24
  z28 := Tryz.sizeOf24
  v28 := Tryz.zeroValue24 }
theorem turn_put {w : World} {g q : Nat} (d : Array Int) (os : Array Obj) : Turn (fun i => i = g) w (grow (putRow (Value.int .i64) (Sort.ahead w q) g 0 d) os) :=
  ⟨rfl, rfl, rfl, by simp, fun i hi hn => by
    rw [heap_grow_old _ _ (by simpa using hi)]
    simp [putRow, mapBlock, Sort.ahead, Array.getElem?_modify, Ne.symm hn]⟩
theorem own_put {w : World} {base g cap q : Nat} {xs ys : List Int} (h : Own w base (.slice (some ⟨g, 0, none⟩) xs.length cap) xs) (hy : ys.length = xs.length) (os : Array Obj) :
    Own (grow (putRow (Value.int .i64) (Sort.ahead w q) g 0 ys.toArray) os) base (.slice (some ⟨g, 0, none⟩) xs.length cap) ys := by
  have h3 := Lib.ownsRow_putRow (q := q) (k := xs.length) (ys := ys) h hy (Nat.le_refl _)
  rw [List.take_of_length_le (by omega)] at h3
  have h4 := Lib.ownsRow_grow h3 0 os
  unfold Own
  rw [hy]
  exact h4
theorem own_holds {w : World} {base g cap : Nat} {xs : List Int} (h : Own w base (.slice (some ⟨g, 0, none⟩) xs.length cap) xs) : Holds (Value.int .i64) w g 0 xs.toArray ∧ g < w.heap.size := by
  obtain ⟨g2, cap2, e2, _, hlt, _, _, _, hH⟩ := Lib.holds_of_ownsRow h (by simp)
  simp only [Value.slice.injEq, Option.some.injEq, Addr.mk.injEq] at e2
  obtain ⟨⟨rfl, _, _⟩, _, rfl⟩ := e2
  exact ⟨hH, hlt⟩
theorem sortInts_any (base g cap n : Nat) (xs : List Int) (w : World) (h : Own w base (.slice (some ⟨g, 0, none⟩) n cap) xs) (hn : xs.length = n) (hl : n ≤ 1000000) :
    Calls Tryz.prog 62 #[.slice (some ⟨g, 0, none⟩) n cap] w fun e w' => e = .returned (.tuple #[]) ∧ Own w' base (.slice (some ⟨g, 0, none⟩) n cap) (xs.mergeSort fun x y => decide (x ≤ y)) ∧ Turn (fun i => i = g) w w' := by
  subst hn
  obtain ⟨hH, hlt⟩ := own_holds h
  refine Calls.mono (Any.slices_Sort_int sortI g 0 cap xs w hH hlt (by omega)) ?_
  rintro e w' ⟨rfl, q, os, rfl⟩
  exact ⟨rfl, own_put h (by simp) os, turn_put _ os⟩
theorem revInts_any (base g cap n : Nat) (xs : List Int) (w : World) (h : Own w base (.slice (some ⟨g, 0, none⟩) n cap) xs) (hn : xs.length = n) (hl : n ≤ 1000000) :
    Calls Tryz.prog 63 #[.slice (some ⟨g, 0, none⟩) n cap] w fun e w' => e = .returned (.tuple #[]) ∧ Own w' base (.slice (some ⟨g, 0, none⟩) n cap) xs.reverse ∧ Turn (fun i => i = g) w w' := by
  subst hn
  obtain ⟨hH, hlt⟩ := own_holds h
  refine Calls.mono (Any.slices_Reverse_int revI g 0 cap xs w hH (by omega)) ?_
  rintro e w' ⟨rfl, q, rfl⟩
  have e0 := grow_empty (putRow (Value.int .i64) (Sort.ahead w q) g 0 xs.reverse.toArray)
  rw [← e0]
  exact ⟨rfl, own_put h (by simp) #[], turn_put _ #[]⟩
end Go.Proofs.YtgfbjgdofhcmaaaGreat

/- BestFollower: reference and program; BestFollower: reference and program. No condition. -/
import Derived.Test.YtblebedejddefaaGreatQAk
import Derived.Test.YtblebedejddefaaGreatQAe
namespace Go.Proofs.YtblebedejddefaaGreat
open Go.RowKit Go.Sort

set_option maxHeartbeats 400000 in
theorem l9Meet_any (A0 : Option Addr) (S : List Int) (n0 c0 : Nat) (A1 : Option Addr) (L : List Int) (n1 c1 : Nat) (w : World) (hS : IntsAt w A0 S) (hn0 : S.length = n0) (hL : IntsAt w A1 L) (hn1 : L.length = n1) :
    Calls Tryz.prog 82 #[.slice A0 n0 c0, .slice A1 n1 c1] w fun e w' => e = .returned (.bool (meetB L S)) ∧ w = w' := by
  have hm : n0 ≤ 9223372036854775807 := hn0 ▸ hS.1
  have Hn0 := Lib.hid hn0; have Hn1 := Lib.hid hn1
  have HB : Hid (meetB L S = S.any fun x => L.any fun y => y == x) := rfl
  clear hn0 hn1
  go_enter Tryz.func82, Tryz.ntmps82
  go_wp2_with fail
  go_loop [5] (fun iv => ∃ k : Nat, k ≤ n0 ∧ iv = .int .i64 k ∧ Hid ((S.take k).any (fun x => L.any fun y => y == x) = false)) (fun iv => n0 - (intOf iv).toNat)
  case atStart => exact ⟨0, by omega, rfl, rfl⟩
  case round =>
    obtain ⟨k, hk, rfl, Hp⟩ := hrel
    by_cases hlt : k < n0
    · have lx : k < S.length := by rw [Hn0.out]; exact hlt
      obtain ⟨ad, rfl, hc⟩ := hS.at_ lx
      go_wp2_with fail
      have CC := Lib.hid (l1Has_any A1 L n1 c1 S[k] w hL Hn1.out)
      with_reducible refine Calls.mono CC.out ?_
      rintro e w3 ⟨rfl, hw⟩
      obtain rfl := hw
      clear CC
      cases ht : L.any (fun y => y == S[k])
      · have Ht := Lib.hid ht; clear ht
        go_wp2_with fail
        go_round
        case rel => exact ⟨k + 1, by omega, by go_num, any_take_succ Hp.out lx Ht.out⟩
        case measure => simp [intOf]; omega
      · have Ht := Lib.hid ht; clear ht
        go_wp2_with fail
        go_ret
        exact ⟨by rw [HB.out, any_of (p := fun x => L.any fun y => y == x) lx Ht.out]; rfl, rfl⟩
    · go_wp2_with fail
      go_ret
      have hp := Hp.out
      rw [List.take_of_length_le (by rw [Hn0.out]; omega)] at hp
      exact ⟨by rw [HB.out, hp]; rfl, rfl⟩
theorem RowP.some_addr {w : World} {lo : Option Nat} {A : Option Addr} {n c : Nat} {xs : List Int} (h : RowP w lo (.slice A n c) xs) (hne : xs ≠ []) : ∃ ad, A = some ad ∧ n = xs.length ∧ IntsAt w (some ad) xs := by
  obtain ⟨A', c', e, _, hi⟩ := h.read
  simp only [Value.slice.injEq] at e
  obtain ⟨rfl, rfl, rfl⟩ := e
  obtain ⟨ad, rfl, _⟩ := hi.at_ (List.length_pos_iff.2 hne)
  exact ⟨ad, rfl, rfl, hi⟩
set_option maxRecDepth 100000 in
set_option maxHeartbeats 2000000 in
theorem l9Follow_any (f : Value) (F : Fld) (A0 : Option Addr) (L : List Int) (n0 c0 : Nat) (k : Int) (w : World) (hf : FldAt w f F) (hL : IntsAt w A0 L) (hn0 : L.length = n0) (hg : goodF F = true) (hl : setB F L = true) (hne : L ≠ []) :
    Calls Tryz.prog 45 #[f, .slice A0 n0 c0, .int .i64 k] w fun e w' => ∃ u, e = .returned u ∧ RowP w' (some w.heap.size) u (folF F L k) ∧ Kp w w' := by
  obtain ⟨A, c, B, d, rfl, hA, hB⟩ := hf
  have hk0 : Kp w (w.alloc (.cells #[.slice A F.op.length c, .slice B F.di.length d] 27)) := (Kp.refl w).alloc _
  obtain ⟨d0, d1⟩ := box2 w (.slice A F.op.length c) (.slice B F.di.length d) 27
  have hFA := FldAt.kp (show FldAt w (.agg #[.slice A F.op.length c, .slice B F.di.length d]) F from ⟨A, c, B, d, rfl, hA, hB⟩) hk0
  have hL0 := hL.kp hk0
  have Hn0 := Lib.hid hn0; have HG := Lib.hid hg; have HL := Lib.hid hl; have HE := Lib.hid hne
  have hg7 := (goodF_iff.1 hg).1.2
  clear hA hB hL hn0 hg hl hne
  go_enter Tryz.func45, Tryz.ntmps45
  go_wp2_with fail
  have hsz : Hid ((w.alloc (.cells #[.slice A F.op.length c, .slice B F.di.length d] 27)).heap.size = w.heap.size + 1) := by show _ = _; simp
  generalize w.alloc (.cells #[.slice A F.op.length c, .slice B F.di.length d] 27) = wb at *
  have hkb : Kp wb wb := Kp.refl _
  have hkw := hk0
  have ho0 := own_new0 wb w.heap.size (by rw [hsz.out]; exact Nat.le_succ _)
  have hkn := (Kp.refl wb).alloc (.cells #[] 3)
  rw [hsz.out] at ho0
  have q_0 := hkn.get d0
  have q_1 := hkn.get d1
  have CC := Lib.hid (l2Sets_any F.op.length (wb.alloc (.cells #[] 3)) hg7)
  go_wp2_with fail
  with_reducible refine Calls.mono CC.out ?_
  rintro e w1 ⟨v, rfl, hvn, hgo, hk1⟩
  clear CC q_0 q_1
  replace hkb := hkn.trans hk1
  have hsl : (setsL F.op.length).length ≤ 127 := by rw [setsL_len]; have h128 : 2 ^ F.op.length ≤ 2 ^ 7 := Nat.pow_le_pow_right (by omega) hg7; omega
  obtain ⟨ad, cx, hve, hcx, hrows⟩ := hgo.rows_some (by omega) hvn
  subst hve
  have hwle : w.heap.size ≤ (wb.alloc (.cells #[] 3)).heap.size := (hkw.trans hkn).le
  replace hrows := hrows.mono hwle
  clear hgo hvn hwle
  obtain ⟨rows, hre⟩ : ∃ rows, rows = setsL F.op.length := ⟨_, rfl⟩
  rw [← hre] at hrows hcx hsl ⊢
  have Hpk : Hid (pk0 (fp L k) (negT F L) rows rows.length = folF F L k) := by show _ = _; rw [hre]; exact fol_pick
  have Hset : Hid (∀ S ∈ rows, S ≠ [] ∧ setB F S = true) := by show ∀ S ∈ rows, _; rw [hre]; exact fun S hS => mem_setsL.1 hS
  obtain ⟨m, hml⟩ : ∃ m, m = rows.length := ⟨_, rfl⟩
  rw [← hml] at hsl ⊢
  replace hml := Lib.hid hml
  clear hre
  have g0 := hkb.get d0
  have g1 := hkb.get d1
  have hFl := hFA.kp hkb
  have hLl := hL0.kp hkb
  have hkl := hkw.trans hkb
  obtain ⟨wl, rfl⟩ : ∃ wl : World, wl = w1 := ⟨_, rfl⟩
  have ho2 := RowP.of_own (ho0.kp hk1) (by simp)
  clear ho0 hkn hk1 hkb d0 d1
  go_wp2_with fail
  go_loopw [7, 9] (fun bv iv wr => ∃ (k' : Nat) (Ab : Option Addr) (cb : Nat), k' ≤ m ∧ iv = .int .i64 k' ∧ bv = .slice Ab (pk0 (fp L k) (negT F L) rows k').length cb ∧ RowP wr (some w.heap.size) (.slice Ab (pk0 (fp L k) (negT F L) rows k').length cb) (pk0 (fp L k) (negT F L) rows k') ∧ Kp wl wr) (fun _ iv _ => m - (intOf iv).toNat)
  case atStart => exact ⟨0, _, _, by omega, rfl, rfl, ho2, Kp.refl _⟩
  case round =>
    clear ho2
    obtain ⟨j, Ab, cb, hj, rfl, rfl, hb, hkr⟩ := hrel
    by_cases hlt : j < m
    · have lx : j < rows.length := by rw [← hml.out]; exact hlt
      obtain ⟨A3, c3, hcl, hc3, hri, hrq⟩ := (hrows.kp hkr).some_ lx
      obtain ⟨Ab', cb', eb, hcb, hbi⟩ := hb.read
      simp only [Value.slice.injEq] at eb
      obtain ⟨rfl, _, rfl⟩ := eb
      have q1 := Lib.hid (Hset.out _ (List.getElem_mem lx))
      have z0 := hkr.get g0
      have z1 := hkr.get g1
      have hkz : Kp wr wr := Kp.refl _
      by_cases hlen : (rows[j].length : Int) = k
      · have hdec : ((rows[j].length : Int) == k) = true := by simp [hlen]
        have hdec2 : ((rows[j].length : Int) != k) = false := by simp [hlen]
        have q_z0 := hkz.get z0
        have q_z1 := hkz.get z1
        have q_hcl := hkz.get hcl
        go_wp2_with fail
        with_reducible refine Calls.mono (l9Meet_any A3 rows[j] _ c3 A0 L n0 c0 _ hri rfl (hLl.kp hkr) Hn0.out) ?_
        rintro e w1 ⟨rfl, hw⟩
        obtain rfl := hw
        clear q_z0 q_z1 q_hcl
        cases hmt : meetB L rows[j]
        · have Hp : Hid (fp L k rows[j] = true) := fp_yes hlen hmt
          clear hmt
          have q_z0 := hkz.get z0
          have q_z1 := hkz.get z1
          have q_hcl := hkz.get hcl
          go_wp2_with fail
          by_cases hbe : pk0 (fp L k) (negT F L) rows j = []
          · have Hy : Hid (pk0 (fp L k) (negT F L) rows (j + 1) = rows[j]) := pk0_yes lx Hp.out (by rw [hbe]; exact negT_less q1.out.1)
            have hb0 : (pk0 (fp L k) (negT F L) rows j).length = 0 := by rw [hbe]; rfl
            clear hbe hb
            go_wp2_with fail
            go_quiet (fail)
            have hc4 := ((Kp.refl wr).drewN nq).get hcl
            go_wp2_with fail
            go_roundw
            case rel => exact ⟨j + 1, A3, c3, by omega, by go_num, by rw [Hy.out], by rw [Hy.out]; exact hrq.kp ((Kp.refl _).drewN nq), hkr.drewN nq⟩
            case measure => simp [intOf]; omega
          · have q2 := Lib.hid ((pk0_mem (p := fp L k) (v := negT F L) j (Nat.le_of_lt lx)).resolve_left hbe)
            have hdec3 : (((pk0 (fp L k) (negT F L) rows j).length : Int) == 0) = false := by
              have := List.length_pos_iff.2 hbe
              simp; exact hbe
            have hv1 := Lib.hid (negT_not (F := F) (L := L) q1.out.1)
            have hv2 := Lib.hid (negT_not (F := F) (L := L) hbe)
            have C1 := Lib.hid (fun (wx : World) (hx : Kp wr wx) => l9Taken_any _ F A0 L n0 c0 A3 rows[j] _ c3 wx (hFl.kp (hkr.trans hx)) (hLl.kp (hkr.trans hx)) Hn0.out (hri.kp hx) rfl HG.out HL.out HE.out q1.out.2)
            have C2 := Lib.hid (fun (wx : World) (hx : Kp wr wx) => l9Taken_any _ F A0 L n0 c0 Ab (pk0 (fp L k) (negT F L) rows j) _ cb wx (hFl.kp (hkr.trans hx)) (hLl.kp (hkr.trans hx)) Hn0.out (hbi.kp hx) rfl HG.out HL.out HE.out (Hset.out _ q2.out).2)
            clear hbe
            by_cases hgt : (takenTo F L (pk0 (fp L k) (negT F L) rows j) F.di.length).length < (takenTo F L rows[j] F.di.length).length
            · have Hy : Hid (pk0 (fp L k) (negT F L) rows (j + 1) = rows[j]) := pk0_yes lx Hp.out (by rw [hv1.out, hv2.out]; omega)
              clear q_z0 q_z1 q_hcl
              have q_z0 := hkz.get z0
              have q_z1 := hkz.get z1
              have q_hcl := hkz.get hcl
              have tok1 : True := trivial
              go_wp2_with fail
              go_region_held3 (fun w' => w'.cell? ⟨w.heap.size, 0, none⟩ = some (.slice A F.op.length c) ∧ w'.cell? ⟨w.heap.size, 1, none⟩ = some (.slice B F.di.length d) ∧ w'.cell? (ad.add j) = some (.slice A3 rows[j].length c3) ∧ Kp wr w')
                (first | (refine keepc3 z0 z1 hcl ?_; exact (by repeat (first | with_reducible assumption | with_reducible exact Kp.refl _ | with_reducible refine Kp.drew ?_ | with_reducible refine Kp.alloc ?_ _ | with_reducible refine Kp.drewN ?_ _ | refine Kp.setCell ?_ (by dsimp only; omega) _))) | fail)
                (first
                  | (have _t := tok1; go_at_call 44; with_reducible refine Calls.mono (C1.out _ (by repeat (first | with_reducible assumption | with_reducible exact Kp.refl _ | with_reducible refine Kp.drew ?_ | with_reducible refine Kp.alloc ?_ _ | with_reducible refine Kp.drewN ?_ _ | refine Kp.setCell ?_ (by dsimp only; omega) _))) ?_; rintro e wr1 ⟨v1, rfl, ho1, hka⟩; have hr1 : Kp wr wr1 := Kp.trans (by repeat (first | with_reducible assumption | with_reducible exact Kp.refl _ | with_reducible refine Kp.drew ?_ | with_reducible refine Kp.alloc ?_ _ | with_reducible refine Kp.drewN ?_ _ | refine Kp.setCell ?_ (by dsimp only; omega) _)) hka; obtain ⟨At1, ct1, hve1⟩ := ho1.shape; subst hve1; have tok2 : True := trivial; clear tok1 _t)
                  | (have _t := tok2; go_at_call 44; with_reducible refine Calls.mono (C2.out _ (by repeat (first | with_reducible assumption | with_reducible exact Kp.refl _ | with_reducible refine Kp.drew ?_ | with_reducible refine Kp.alloc ?_ _ | with_reducible refine Kp.drewN ?_ _ | refine Kp.setCell ?_ (by dsimp only; omega) _))) ?_; rintro e wr2 ⟨v2, rfl, ho2, hka⟩; have hr2 : Kp wr wr2 := Kp.trans (by repeat (first | with_reducible assumption | with_reducible exact Kp.refl _ | with_reducible refine Kp.drew ?_ | with_reducible refine Kp.alloc ?_ _ | with_reducible refine Kp.drewN ?_ _ | refine Kp.setCell ?_ (by dsimp only; omega) _)) hka; obtain ⟨At2, ct2, hve2⟩ := ho2.shape; subst hve2; have tok3 : True := trivial; clear tok2 _t)
                  | fail)
              have hc4 := hr2.get hcl
              go_wp2_with fail
              go_roundw
              case rel => exact ⟨j + 1, A3, c3, by omega, by go_num, by rw [Hy.out], by rw [Hy.out]; exact hrq.kp hr2, hkr.trans hr2⟩
              case measure => simp [intOf]; omega
            · have Hy : Hid (pk0 (fp L k) (negT F L) rows (j + 1) = pk0 (fp L k) (negT F L) rows j) := pk0_no lx (fun h => hgt (by have h3 := h.2; rw [hv1.out, hv2.out] at h3; omega))
              clear q_z0 q_z1 q_hcl
              have q_z0 := hkz.get z0
              have q_z1 := hkz.get z1
              have q_hcl := hkz.get hcl
              have tok1 : True := trivial
              go_wp2_with fail
              go_region_held3 (fun w' => w'.cell? ⟨w.heap.size, 0, none⟩ = some (.slice A F.op.length c) ∧ w'.cell? ⟨w.heap.size, 1, none⟩ = some (.slice B F.di.length d) ∧ w'.cell? (ad.add j) = some (.slice A3 rows[j].length c3) ∧ Kp wr w')
                (first | (refine keepc3 z0 z1 hcl ?_; exact (by repeat (first | with_reducible assumption | with_reducible exact Kp.refl _ | with_reducible refine Kp.drew ?_ | with_reducible refine Kp.alloc ?_ _ | with_reducible refine Kp.drewN ?_ _ | refine Kp.setCell ?_ (by dsimp only; omega) _))) | fail)
                (first
                  | (have _t := tok1; go_at_call 44; with_reducible refine Calls.mono (C1.out _ (by repeat (first | with_reducible assumption | with_reducible exact Kp.refl _ | with_reducible refine Kp.drew ?_ | with_reducible refine Kp.alloc ?_ _ | with_reducible refine Kp.drewN ?_ _ | refine Kp.setCell ?_ (by dsimp only; omega) _))) ?_; rintro e wr1 ⟨v1, rfl, ho1, hka⟩; have hr1 : Kp wr wr1 := Kp.trans (by repeat (first | with_reducible assumption | with_reducible exact Kp.refl _ | with_reducible refine Kp.drew ?_ | with_reducible refine Kp.alloc ?_ _ | with_reducible refine Kp.drewN ?_ _ | refine Kp.setCell ?_ (by dsimp only; omega) _)) hka; obtain ⟨At1, ct1, hve1⟩ := ho1.shape; subst hve1; have tok2 : True := trivial; clear tok1 _t)
                  | (have _t := tok2; go_at_call 44; with_reducible refine Calls.mono (C2.out _ (by repeat (first | with_reducible assumption | with_reducible exact Kp.refl _ | with_reducible refine Kp.drew ?_ | with_reducible refine Kp.alloc ?_ _ | with_reducible refine Kp.drewN ?_ _ | refine Kp.setCell ?_ (by dsimp only; omega) _))) ?_; rintro e wr2 ⟨v2, rfl, ho2, hka⟩; have hr2 : Kp wr wr2 := Kp.trans (by repeat (first | with_reducible assumption | with_reducible exact Kp.refl _ | with_reducible refine Kp.drew ?_ | with_reducible refine Kp.alloc ?_ _ | with_reducible refine Kp.drewN ?_ _ | refine Kp.setCell ?_ (by dsimp only; omega) _)) hka; obtain ⟨At2, ct2, hve2⟩ := ho2.shape; subst hve2; have tok3 : True := trivial; clear tok2 _t)
                  | fail)
              go_wp2_with fail
              go_roundw
              case rel => exact ⟨j + 1, Ab, cb, by omega, by go_num, by rw [Hy.out], by rw [Hy.out]; exact hb.kp hr2, hkr.trans hr2⟩
              case measure => simp [intOf]; omega
        · have Hy : Hid (pk0 (fp L k) (negT F L) rows (j + 1) = pk0 (fp L k) (negT F L) rows j) := pk0_no lx (fun h => by rw [fp_meet hmt] at h; exact absurd h.1 (by simp))
          clear hmt
          have q_z0 := hkz.get z0
          have q_z1 := hkz.get z1
          have q_hcl := hkz.get hcl
          go_wp2_with fail
          go_roundw
          case rel => exact ⟨j + 1, Ab, cb, by omega, by go_num, by rw [Hy.out], by rw [Hy.out]; exact hb, hkr⟩
          case measure => simp [intOf]; omega
      · have hdec : ((rows[j].length : Int) == k) = false := by simp [hlen]
        have hdec2 : ((rows[j].length : Int) != k) = true := by simp [hlen]
        have Hy : Hid (pk0 (fp L k) (negT F L) rows (j + 1) = pk0 (fp L k) (negT F L) rows j) := pk0_no lx (fun h => by rw [fp_len hlen] at h; exact absurd h.1 (by simp))
        have q_z0 := hkz.get z0
        have q_z1 := hkz.get z1
        have q_hcl := hkz.get hcl
        go_wp2_with fail
        go_roundw
        case rel => exact ⟨j + 1, Ab, cb, by omega, by go_num, by rw [Hy.out], by rw [Hy.out]; exact hb, hkr⟩
        case measure => simp [intOf]; omega
    · obtain rfl : j = m := by omega
      have Hy : Hid (pk0 (fp L k) (negT F L) rows j = folF F L k) := by show _ = _; rw [hml.out]; exact Hpk.out
      go_wp2_with fail
      go_ret
      exact ⟨_, rfl, by rw [← Hy.out]; exact hb, hkl.trans hkr⟩
end Go.Proofs.YtblebedejddefaaGreat

namespace Go.Proofs.YtblebedejddefaaGreat
open Go.RowKit Go.Sort

set_option maxRecDepth 100000 in
set_option maxHeartbeats 1000000 in
theorem specBf_any (f : Value) (F : Fld) (A0 : Option Addr) (L : List Int) (n0 c0 : Nat) (k : Int) (w : World) (hf : FldAt w f F) (hL : IntsAt w A0 L) (hn0 : L.length = n0) :
    Calls Tryz.prog 16 #[f, .slice A0 n0 c0, .int .i64 k] w fun e w' => ∃ v, e = .returned (.tuple #[v, .bool (folOk F L k)]) ∧ Own w' w.heap.size v (folL F L k) ∧ Kp w w' := by
  obtain ⟨A, c, B, d, rfl, hA, hB⟩ := hf
  have hk0 : Kp w (w.alloc (.cells #[.slice A F.op.length c, .slice B F.di.length d] 27)) := (Kp.refl w).alloc _
  obtain ⟨d0, d1⟩ := box2 w (.slice A F.op.length c) (.slice B F.di.length d) 27
  have hFA := FldAt.kp (show FldAt w (.agg #[.slice A F.op.length c, .slice B F.di.length d]) F from ⟨A, c, B, d, rfl, hA, hB⟩) hk0
  have hLA := hL.kp hk0
  have Hn0 := Lib.hid hn0
  clear hA hB hL hn0
  go_enter Tryz.func16, Tryz.ntmps16
  go_wp2_with fail
  have hsz : Hid ((w.alloc (.cells #[.slice A F.op.length c, .slice B F.di.length d] 27)).heap.size = w.heap.size + 1) := by show _ = _; simp
  generalize w.alloc (.cells #[.slice A F.op.length c, .slice B F.di.length d] 27) = wb at *
  have hkb : Kp wb wb := Kp.refl _
  have hkw := hk0
  have CC := Lib.hid (l2Two_any _ F A0 L n0 c0 _ (hFA.kp hkb) (hLA.kp hkb) Hn0.out)
  with_reducible refine Calls.mono CC.out ?_
  rintro e w1 ⟨rfl, hk1⟩
  clear CC
  replace hkb := hkb.trans hk1
  have hwl := Lib.hid (hkw.trans hkb).le
  cases hg_ : openedB F L
  · have Hno : Hid (folOk F L k = false) := by show _ = _; rw [folOk, hg_]; rfl
    clear hg_
    have q_d0 := hkb.get d0
    have q_d1 := hkb.get d1
    go_wp2_with fail
    go_ret2
    exact ⟨_, by rw [Hno.out]; rfl, by rw [folL_no Hno.out]; exact own_new0 _ _ hwl.out, (hkw.trans hkb).alloc _⟩
  have Ho := Lib.hid hg_; clear hg_
  have HO := Lib.hid (openedB_parts Ho.out)
  have hg7 := (goodF_iff.1 HO.out.1).1.2
  have HL7 := risB_len HO.out.2.1
  rw [Hn0.out] at HL7
  have hwr : IntKind.i64.wrap ((F.op.length : Int) - (n0 : Int)) = (F.op.length : Int) - (n0 : Int) := IntWalk.i64_in _ (by omega)
  have q_d0 := hkb.get d0
  have q_d1 := hkb.get d1
  go_wp2_with fail
  with_reducible refine Calls.mono (l1In_any _ _ _ _) ?_
  rintro e w2 ⟨rfl, hw⟩
  obtain rfl := hw
  clear q_d0 q_d1
  cases hk_ : inB k 1 ((F.op.length : Int) - (n0 : Int))
  · have Hno : Hid (folOk F L k = false) := by show _ = _; rw [folOk, Ho.out, Hn0.out, hk_]; rfl
    clear hk_
    have q_d0 := hkb.get d0
    have q_d1 := hkb.get d1
    go_wp2_with fail
    go_ret2
    exact ⟨_, by rw [Hno.out]; rfl, by rw [folL_no Hno.out]; exact own_new0 _ _ hwl.out, (hkw.trans hkb).alloc _⟩
  have Hok : Hid (folOk F L k = true) := by show _ = _; rw [folOk, Ho.out, Hn0.out, hk_]; rfl
  clear hk_ hwr
  have HP := Lib.hid (folOk_parts Hok.out)
  have HS := Lib.hid (fol_set (F := F) HP.out.2.1 HP.out.2.2)
  have HS7 := Lib.hid (risB_len HS.out.2)
  have q_d0 := hkb.get d0
  have q_d1 := hkb.get d1
  go_wp2_with fail
  have CC := Lib.hid (l9Follow_any _ F A0 L n0 c0 k _ (hFA.kp hkb) (hLA.kp hkb) Hn0.out HO.out.1 HO.out.2.1 HO.out.2.2)
  with_reducible refine Calls.mono CC.out ?_
  rintro e w3 ⟨u, rfl, hu, hk3⟩
  clear CC q_d0 q_d1
  replace hkb := hkb.trans hk3
  obtain ⟨Au, cu, hve, hcu, hui⟩ := hu.read
  subst hve
  obtain ⟨adu, rfl, _, _⟩ := hu.some_addr HS.out.1
  clear hu
  have hwl2 := Lib.hid (hkw.trans hkb).le
  have q_d0 := hkb.get d0
  have q_d1 := hkb.get d1
  go_wp2_with fail
  have CC := Lib.hid (l1Own_any adu (folF F L k) _ cu _ hui rfl (by have := HS7.out; omega))
  with_reducible refine Calls.mono CC.out ?_
  rintro e w4 ⟨v, rfl, hov, hk4⟩
  clear CC q_d0 q_d1
  replace hkb := hkb.trans hk4
  have q_d0 := hkb.get d0
  have q_d1 := hkb.get d1
  go_wp2_with fail
  go_ret2
  exact ⟨_, by rw [Hok.out]; rfl, by rw [folL_yes Hok.out]; exact hov.mono hwl2.out, hkw.trans hkb⟩
set_option maxRecDepth 100000 in
set_option maxHeartbeats 1000000 in
theorem implBf_any (f : Value) (F : Fld) (A0 : Option Addr) (L : List Int) (n0 c0 : Nat) (k : Int) (w : World) (hf : FldAt w f F) (hL : IntsAt w A0 L) (hn0 : L.length = n0) :
    Calls Tryz.prog 15 #[f, .slice A0 n0 c0, .int .i64 k] w fun e w' => ∃ v, e = .returned (.tuple #[v, .bool (folOk F L k)]) ∧ Own w' w.heap.size v (folL F L k) ∧ Kp w w' := by
  obtain ⟨A, c, B, d, rfl, hA, hB⟩ := hf
  have hk0 : Kp w (w.alloc (.cells #[.slice A F.op.length c, .slice B F.di.length d] 27)) := (Kp.refl w).alloc _
  obtain ⟨d0, d1⟩ := box2 w (.slice A F.op.length c) (.slice B F.di.length d) 27
  have hFA := FldAt.kp (show FldAt w (.agg #[.slice A F.op.length c, .slice B F.di.length d]) F from ⟨A, c, B, d, rfl, hA, hB⟩) hk0
  have hLA := hL.kp hk0
  have Hn0 := Lib.hid hn0
  clear hA hB hL hn0
  go_enter Tryz.func15, Tryz.ntmps15
  go_wp2_with fail
  have hsz : Hid ((w.alloc (.cells #[.slice A F.op.length c, .slice B F.di.length d] 27)).heap.size = w.heap.size + 1) := by show _ = _; simp
  generalize w.alloc (.cells #[.slice A F.op.length c, .slice B F.di.length d] 27) = wb at *
  have hkb : Kp wb wb := Kp.refl _
  have hkw := hk0
  have CC := Lib.hid (isOpened_any _ F A0 L n0 c0 _ (hFA.kp hkb) (hLA.kp hkb) Hn0.out)
  with_reducible refine Calls.mono CC.out ?_
  rintro e w1 ⟨rfl, hk1⟩
  clear CC
  replace hkb := hkb.trans hk1
  have hwl := Lib.hid (hkw.trans hkb).le
  cases hg_ : openedB F L
  · have Hno : Hid (folOk F L k = false) := by show _ = _; rw [folOk, hg_]; rfl
    clear hg_
    have q_d0 := hkb.get d0
    have q_d1 := hkb.get d1
    go_wp2_with fail
    go_ret2
    exact ⟨_, by rw [Hno.out]; rfl, by rw [folL_no Hno.out]; exact Own.nil _ _, hkw.trans hkb⟩
  have Ho := Lib.hid hg_; clear hg_
  have HO := Lib.hid (openedB_parts Ho.out)
  have hg7 := (goodF_iff.1 HO.out.1).1.2
  have HL7 := risB_len HO.out.2.1
  rw [Hn0.out] at HL7
  have hwr : IntKind.i64.wrap ((F.op.length : Int) - (n0 : Int)) = (F.op.length : Int) - (n0 : Int) := IntWalk.i64_in _ (by omega)
  have q_d0 := hkb.get d0
  have q_d1 := hkb.get d1
  go_wp2_with fail
  with_reducible refine Calls.mono (between_any _ _ _ _) ?_
  rintro e w2 ⟨rfl, hw⟩
  obtain rfl := hw
  clear q_d0 q_d1
  cases hk_ : inB k 1 ((F.op.length : Int) - (n0 : Int))
  · have Hno : Hid (folOk F L k = false) := by show _ = _; rw [folOk, Ho.out, Hn0.out, hk_]; rfl
    clear hk_
    have q_d0 := hkb.get d0
    have q_d1 := hkb.get d1
    go_wp2_with fail
    go_ret2
    exact ⟨_, by rw [Hno.out]; rfl, by rw [folL_no Hno.out]; exact Own.nil _ _, hkw.trans hkb⟩
  have Hok : Hid (folOk F L k = true) := by show _ = _; rw [folOk, Ho.out, Hn0.out, hk_]; rfl
  clear hk_ hwr
  have HP := Lib.hid (folOk_parts Hok.out)
  have q_d0 := hkb.get d0
  have q_d1 := hkb.get d1
  go_wp2_with fail
  have CC := Lib.hid (follower_any _ F A0 L n0 c0 k _ (hFA.kp hkb) (hLA.kp hkb) Hn0.out HO.out.1 HO.out.2.1 HO.out.2.2 HP.out.2.1 HP.out.2.2)
  with_reducible refine Calls.mono CC.out ?_
  rintro e w3 ⟨u, rfl, hu, hk3⟩
  clear CC q_d0 q_d1
  replace hkb := hkb.trans hk3
  have q_d0 := hkb.get d0
  have q_d1 := hkb.get d1
  go_wp2_with fail
  go_ret2
  exact ⟨_, by rw [Hok.out]; rfl, by rw [folL_yes Hok.out]; exact (hu.2 _ rfl).mono hwl.out, hkw.trans hkb⟩
end Go.Proofs.YtblebedejddefaaGreat

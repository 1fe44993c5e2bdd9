/- least and lists: the first row with the least value; the rows of which something is so. No condition. -/
import Derived.Test.YtbefnhagmejpcaaSets2
namespace Go.Proofs.Ytbefnhagmejpcaa
open Go.RowKit Go.Sort

def bestTo (v : List Int → Int) (rows : List (List Int)) (k : Nat) : List Int := (rows.take k).foldl (bestStep v) (rows.getD 0 [])
theorem bestTo_succ {v : List Int → Int} {rows : List (List Int)} {k : Nat} (hk : k < rows.length) : bestTo v rows (k + 1) = bestStep v (bestTo v rows k) rows[k] := by
  unfold bestTo
  rw [List.take_succ_eq_append_getElem hk, List.foldl_append]; rfl
theorem bestTo_all (v : List Int → Int) (rows : List (List Int)) : bestTo v rows rows.length = bestL v rows := by
  unfold bestTo bestL
  rw [List.take_length]
theorem bestTo_mem {v : List Int → Int} {rows : List (List Int)} (h0 : 0 < rows.length) : ∀ k, k ≤ rows.length → bestTo v rows k ∈ rows
  | 0, _ => by
    have e : rows.getD 0 [] = rows[0] := by simp [List.getD, h0]
    unfold bestTo
    rw [List.take_zero, List.foldl_nil, e]
    exact List.getElem_mem h0
  | k + 1, hk => by
    rw [bestTo_succ (by omega)]
    unfold bestStep
    by_cases h : v rows[k] < v (bestTo v rows k)
    · rw [if_pos h]; exact List.getElem_mem _
    · rw [if_neg h]; exact bestTo_mem h0 k (by omega)
theorem bestL_mem {v : List Int → Int} {rows : List (List Int)} (h0 : 0 < rows.length) : bestL v rows ∈ rows := by
  rw [← bestTo_all]; exact bestTo_mem h0 _ (Nat.le_refl _)
/-- A function value that tells a number of a row. -/
def Val (FN : FuncId) (pre caps : Array Value) (v : List Int → Int) (Q : List Int → Prop) (w : World) : Prop :=
  (∀ (args : Array Value) (w : World), Sem.run Try.prog (callFunc FN args) w = .ok (.enter FN args) w) ∧
  ∀ (S : List Int) (Av : Option Addr) (cv : Nat) (w' : World), Kp w w' → Q S → IntsAt w' Av S → S.length ≤ cv → Calls Try.prog FN (pre.push (.slice Av S.length cv) ++ caps) w' fun e w'' => e = .returned (.int .i64 (v S)) ∧ Kp w' w''
theorem Val.kp {FN : FuncId} {pre caps : Array Value} {v : List Int → Int} {Q : List Int → Prop} {w w' : World} (h : Val FN pre caps v Q w) (hk : Kp w w') : Val FN pre caps v Q w' :=
  ⟨h.1, fun S Av cv w2 h2 => h.2 S Av cv w2 (hk.trans h2)⟩
/-- A function value that tells whether something is so of a row. -/
def Tells (FN : FuncId) (pre caps : Array Value) (p : List Int → Bool) (Q : List Int → Prop) (w : World) : Prop :=
  (∀ (args : Array Value) (w : World), Sem.run Try.prog (callFunc FN args) w = .ok (.enter FN args) w) ∧
  ∀ (S : List Int) (Av : Option Addr) (cv : Nat) (w' : World), Kp w w' → Q S → IntsAt w' Av S → S.length ≤ cv → Calls Try.prog FN (pre.push (.slice Av S.length cv) ++ caps) w' fun e w'' => e = .returned (.bool (p S)) ∧ Kp w' w''
theorem Tells.kp {FN : FuncId} {pre caps : Array Value} {p : List Int → Bool} {Q : List Int → Prop} {w w' : World} (h : Tells FN pre caps p Q w) (hk : Kp w w') : Tells FN pre caps p Q w' :=
  ⟨h.1, fun S Av cv w2 h2 => h.2 S Av cv w2 (hk.trans h2)⟩
set_option maxHeartbeats 1000000 in
theorem least_any (FN : FuncId) (pre caps : Array Value) (v : List Int → Int) (Q : List Int → Prop) (lo : Option Nat) (A0 : Option Addr) (rows : List (List Int)) (n c0 : Nat) (w : World) (h : RowsAt w lo A0 rows) (hn : rows.length = n) (h0 : 0 < n) (hv : Val FN pre caps v Q w) (hq : ∀ S ∈ rows, Q S) :
    Calls Try.prog 71 #[.slice A0 n c0, .func (.func FN) pre caps] w fun e w' => ∃ u, e = .returned u ∧ RowP w' lo u (bestL v rows) ∧ Kp w w' := by
  have hm : n ≤ 9223372036854775807 := hn ▸ h.1
  have Hn := Lib.hid hn
  have HM := Lib.hid hv
  have HF := hv.1
  have HQ := Lib.hid hq
  have HB := Lib.hid (fun k (hk : k ≤ rows.length) => hq _ (bestTo_mem (v := v) (by omega) k hk))
  have HE := Lib.hid (bestTo_all v rows)
  clear hn hv hq
  have l0 : 0 < rows.length := by rw [Hn.out]; exact h0
  obtain ⟨ad, A2, c2, rfl, hcl, hc2, hri, hrp⟩ := h.at_ l0
  have hz : ad.add 0 = ad := by unfold Addr.add; simp
  rw [hz] at hcl
  have Hs := Lib.hid hrp
  have hst : Hid (bestTo v rows 0 = rows[0]) := by show _ = _; unfold bestTo; simp [List.getD, l0]
  clear hrp hri hz
  go_enter Try.func71, Try.ntmps71
  go_wp2_with fail
  clear hcl
  go_loopw [5, 13] (fun bv iv wr => ∃ (k : Nat) (Ab : Option Addr) (cb : Nat), k ≤ n ∧ iv = .int .i64 k ∧ bv = .slice Ab (bestTo v rows k).length cb ∧ RowP wr lo (.slice Ab (bestTo v rows k).length cb) (bestTo v rows k) ∧ Kp w wr) (fun _ iv _ => n - (intOf iv).toNat)
  case atStart => exact ⟨0, A2, c2, by omega, rfl, by rw [hst.out], by rw [hst.out]; exact Hs.out, Kp.refl _⟩
  case round =>
    obtain ⟨k, Ab, cb, hk, rfl, rfl, hb, hkb⟩ := hrel
    by_cases hlt : k < n
    · have lx : k < rows.length := by rw [Hn.out]; exact hlt
      obtain ⟨A3, c3, hcl, hc3, hri, hrp⟩ := (h.kp hkb).some_ lx
      obtain ⟨Ab', cb', eb, hcb, hbi⟩ := hb.read
      simp only [Value.slice.injEq] at eb
      obtain ⟨rfl, _, rfl⟩ := eb
      have q1 := Lib.hid (HQ.out _ (List.getElem_mem lx))
      have q2 := Lib.hid (HB.out k (Nat.le_of_lt lx))
      have hstep := Lib.hid (bestTo_succ (v := v) lx)
      go_wp2_with fail
      have CC := Lib.hid (HM.out.2 rows[k] A3 c3 _ hkb q1.out hri hc3)
      with_reducible refine Calls.mono CC.out ?_
      rintro e w1 ⟨rfl, hk1⟩
      clear CC
      replace hkb := hkb.trans hk1
      replace hb := hb.kp hk1
      replace hrp := hrp.kp hk1
      go_wp2_with fail
      have CC := Lib.hid (HM.out.2 (bestTo v rows k) Ab cb _ hkb q2.out (hbi.kp hk1) hcb)
      with_reducible refine Calls.mono CC.out ?_
      rintro e w2 ⟨rfl, hk2⟩
      clear CC
      replace hkb := hkb.trans hk2
      replace hb := hb.kp hk2
      replace hrp := hrp.kp hk2
      by_cases hlt2 : v rows[k] < v (bestTo v rows k)
      · have Hy : Hid (bestTo v rows (k + 1) = rows[k]) := by show _ = _; rw [hstep.out]; exact if_pos hlt2
        go_wp2_with fail
        go_roundw
        case rel => exact ⟨k + 1, A3, c3, by omega, by go_num, by rw [Hy.out], by rw [Hy.out]; exact hrp, hkb⟩
        case measure => simp [intOf]; omega
      · have Hy : Hid (bestTo v rows (k + 1) = bestTo v rows k) := by show _ = _; rw [hstep.out]; exact if_neg hlt2
        go_wp2_with fail
        go_roundw
        case rel => exact ⟨k + 1, Ab, cb, by omega, by go_num, by rw [Hy.out], by rw [Hy.out]; exact hb, hkb⟩
        case measure => simp [intOf]; omega
    · obtain rfl : k = n := by omega
      have Hy : Hid (bestTo v rows k = bestL v rows) := by show _ = _; rw [← HE.out, Hn.out]
      go_wp2_with fail
      go_ret
      exact ⟨_, rfl, by rw [← Hy.out]; exact hb, hkb⟩
end Go.Proofs.Ytbefnhagmejpcaa

/- least and lists: the first row with the least value; the rows of which something is so; A number of a list, 0 behind its end; The program's sum of a list; The service of a set: reference and program; Cells that are kept; The payment and the total of a set: reference and program; The best set of a field and its total: reference and program; The field with some clients alone: reference and program. No condition. -/
import Derived.Test.YtggkhieepjnmdaaQAe
import Derived.Test.YtggkhieepjnmdaaQAa
import Derived.IntWalk
import Derived.Test.YtggkhieepjnmdaaQAc
import Derived.Deep.RegionHeld3
import Derived.Test.YtggkhieepjnmdaaQAd
namespace Go.Proofs.Ytggkhieepjnmdaa
open Go.RowKit Go.Sort

def bestTo (v : List Int → Int) (rows : List (List Int)) (k : Nat) : List Int := (rows.take k).foldl (bestStep v) (rows.getD 0 [])
theorem bestTo_succ {v : List Int → Int} {rows : List (List Int)} {k : Nat} (hk : k < rows.length) : bestTo v rows (k + 1) = bestStep v (bestTo v rows k) rows[k] := by
  unfold bestTo
  rw [List.take_succ_eq_append_getElem hk, List.foldl_append]; rfl
theorem bestTo_all (v : List Int → Int) (rows : List (List Int)) : bestTo v rows rows.length = bestL v rows := by
  unfold bestTo bestL
  rw [List.take_length]
theorem bestTo_mem {v : List Int → Int} {rows : List (List Int)} (h0 : 0 < rows.length) : ∀ k, k ≤ rows.length → bestTo v rows k ∈ rows
  | 0, _ => by
    have e : rows.getD 0 [] = rows[0] := by simp [List.getD, h0]
    unfold bestTo
    rw [List.take_zero, List.foldl_nil, e]
    exact List.getElem_mem h0
  | k + 1, hk => by
    rw [bestTo_succ (by omega)]
    unfold bestStep
    by_cases h : v rows[k] < v (bestTo v rows k)
    · rw [if_pos h]; exact List.getElem_mem _
    · rw [if_neg h]; exact bestTo_mem h0 k (by omega)
theorem bestL_mem {v : List Int → Int} {rows : List (List Int)} (h0 : 0 < rows.length) : bestL v rows ∈ rows := by
  rw [← bestTo_all]; exact bestTo_mem h0 _ (Nat.le_refl _)
/-- A function value that tells a number of a row. -/
def Val (FN : FuncId) (pre caps : Array Value) (v : List Int → Int) (Q : List Int → Prop) (w : World) : Prop :=
  (∀ (args : Array Value) (w : World), Sem.run Try.prog (callFunc FN args) w = .ok (.enter FN args) w) ∧
  ∀ (S : List Int) (Av : Option Addr) (cv : Nat) (w' : World), Kp w w' → Q S → IntsAt w' Av S → S.length ≤ cv → Calls Try.prog FN (pre.push (.slice Av S.length cv) ++ caps) w' fun e w'' => e = .returned (.int .i64 (v S)) ∧ Kp w' w''
theorem Val.kp {FN : FuncId} {pre caps : Array Value} {v : List Int → Int} {Q : List Int → Prop} {w w' : World} (h : Val FN pre caps v Q w) (hk : Kp w w') : Val FN pre caps v Q w' :=
  ⟨h.1, fun S Av cv w2 h2 => h.2 S Av cv w2 (hk.trans h2)⟩
/-- A function value that tells whether something is so of a row. -/
def Tells (FN : FuncId) (pre caps : Array Value) (p : List Int → Bool) (Q : List Int → Prop) (w : World) : Prop :=
  (∀ (args : Array Value) (w : World), Sem.run Try.prog (callFunc FN args) w = .ok (.enter FN args) w) ∧
  ∀ (S : List Int) (Av : Option Addr) (cv : Nat) (w' : World), Kp w w' → Q S → IntsAt w' Av S → S.length ≤ cv → Calls Try.prog FN (pre.push (.slice Av S.length cv) ++ caps) w' fun e w'' => e = .returned (.bool (p S)) ∧ Kp w' w''
theorem Tells.kp {FN : FuncId} {pre caps : Array Value} {p : List Int → Bool} {Q : List Int → Prop} {w w' : World} (h : Tells FN pre caps p Q w) (hk : Kp w w') : Tells FN pre caps p Q w' :=
  ⟨h.1, fun S Av cv w2 h2 => h.2 S Av cv w2 (hk.trans h2)⟩
set_option maxHeartbeats 1000000 in
theorem least_any (FN : FuncId) (pre caps : Array Value) (v : List Int → Int) (Q : List Int → Prop) (lo : Option Nat) (A0 : Option Addr) (rows : List (List Int)) (n c0 : Nat) (w : World) (h : RowsAt w lo A0 rows) (hn : rows.length = n) (h0 : 0 < n) (hv : Val FN pre caps v Q w) (hq : ∀ S ∈ rows, Q S) :
    Calls Try.prog 56 #[.slice A0 n c0, .func (.func FN) pre caps] w fun e w' => ∃ u, e = .returned u ∧ RowP w' lo u (bestL v rows) ∧ Kp w w' := by
  have hm : n ≤ 9223372036854775807 := hn ▸ h.1
  have Hn := Lib.hid hn
  have HM := Lib.hid hv
  have HF := hv.1
  have HQ := Lib.hid hq
  have HB := Lib.hid (fun k (hk : k ≤ rows.length) => hq _ (bestTo_mem (v := v) (by omega) k hk))
  have HE := Lib.hid (bestTo_all v rows)
  clear hn hv hq
  have l0 : 0 < rows.length := by rw [Hn.out]; exact h0
  obtain ⟨ad, A2, c2, rfl, hcl, hc2, hri, hrp⟩ := h.at_ l0
  have hz : ad.add 0 = ad := by unfold Addr.add; simp
  rw [hz] at hcl
  have Hs := Lib.hid hrp
  have hst : Hid (bestTo v rows 0 = rows[0]) := by show _ = _; unfold bestTo; simp [List.getD, l0]
  clear hrp hri hz
  go_enter Try.func56, Try.ntmps56
  go_wp2_with fail
  clear hcl
  go_loopw [5, 13] (fun bv iv wr => ∃ (k : Nat) (Ab : Option Addr) (cb : Nat), k ≤ n ∧ iv = .int .i64 k ∧ bv = .slice Ab (bestTo v rows k).length cb ∧ RowP wr lo (.slice Ab (bestTo v rows k).length cb) (bestTo v rows k) ∧ Kp w wr) (fun _ iv _ => n - (intOf iv).toNat)
  case atStart => exact ⟨0, A2, c2, by omega, rfl, by rw [hst.out], by rw [hst.out]; exact Hs.out, Kp.refl _⟩
  case round =>
    obtain ⟨k, Ab, cb, hk, rfl, rfl, hb, hkb⟩ := hrel
    by_cases hlt : k < n
    · have lx : k < rows.length := by rw [Hn.out]; exact hlt
      obtain ⟨A3, c3, hcl, hc3, hri, hrp⟩ := (h.kp hkb).some_ lx
      obtain ⟨Ab', cb', eb, hcb, hbi⟩ := hb.read
      simp only [Value.slice.injEq] at eb
      obtain ⟨rfl, _, rfl⟩ := eb
      have q1 := Lib.hid (HQ.out _ (List.getElem_mem lx))
      have q2 := Lib.hid (HB.out k (Nat.le_of_lt lx))
      have hstep := Lib.hid (bestTo_succ (v := v) lx)
      go_wp2_with fail
      have CC := Lib.hid (HM.out.2 rows[k] A3 c3 _ hkb q1.out hri hc3)
      with_reducible refine Calls.mono CC.out ?_
      rintro e w1 ⟨rfl, hk1⟩
      clear CC
      replace hkb := hkb.trans hk1
      replace hb := hb.kp hk1
      replace hrp := hrp.kp hk1
      go_wp2_with fail
      have CC := Lib.hid (HM.out.2 (bestTo v rows k) Ab cb _ hkb q2.out (hbi.kp hk1) hcb)
      with_reducible refine Calls.mono CC.out ?_
      rintro e w2 ⟨rfl, hk2⟩
      clear CC
      replace hkb := hkb.trans hk2
      replace hb := hb.kp hk2
      replace hrp := hrp.kp hk2
      by_cases hlt2 : v rows[k] < v (bestTo v rows k)
      · have Hy : Hid (bestTo v rows (k + 1) = rows[k]) := by show _ = _; rw [hstep.out]; exact if_pos hlt2
        go_wp2_with fail
        go_roundw
        case rel => exact ⟨k + 1, A3, c3, by omega, by go_num, by rw [Hy.out], by rw [Hy.out]; exact hrp, hkb⟩
        case measure => simp [intOf]; omega
      · have Hy : Hid (bestTo v rows (k + 1) = bestTo v rows k) := by show _ = _; rw [hstep.out]; exact if_neg hlt2
        go_wp2_with fail
        go_roundw
        case rel => exact ⟨k + 1, Ab, cb, by omega, by go_num, by rw [Hy.out], by rw [Hy.out]; exact hb, hkb⟩
        case measure => simp [intOf]; omega
    · obtain rfl : k = n := by omega
      have Hy : Hid (bestTo v rows k = bestL v rows) := by show _ = _; rw [← HE.out, Hn.out]
      go_wp2_with fail
      go_ret
      exact ⟨_, rfl, by rw [← Hy.out]; exact hb, hkb⟩
end Go.Proofs.Ytggkhieepjnmdaa

namespace Go.Proofs.Ytggkhieepjnmdaa
def lget (xs : List Int) (k : Nat) : Int := xs.getD k 0
theorem lget_at {xs : List Int} {k : Nat} (h : k < xs.length) : lget xs k = xs[k] := by simp [lget, List.getD, h]
end Go.Proofs.Ytggkhieepjnmdaa

namespace Go.Proofs.Ytggkhieepjnmdaa
open Go.RowKit Go.Sort

set_option maxHeartbeats 400000 in
theorem sumL_any (A0 : Option Addr) (L : List Int) (n c0 : Nat) (w : World) (hL : IntsAt w A0 L) (hn : L.length = n) (hb : ∀ k, k ≤ n → -1000000000 ≤ (L.take k).sum ∧ (L.take k).sum ≤ 1000000000) (he : ∀ x ∈ L, -1000000000 ≤ x ∧ x ≤ 1000000000) :
    Calls Try.prog 63 #[.slice A0 n c0] w fun e w' => e = .returned (.int .i64 L.sum) ∧ w = w' := by
  have hm : n ≤ 9223372036854775807 := hn ▸ hL.1
  have Hn := Lib.hid hn; have Hb := Lib.hid hb; have He := Lib.hid he
  clear hn hb he
  go_enter Try.func63, Try.ntmps63
  go_wp2_with fail
  go_loop [3, 8] (fun sv iv => ∃ k : Nat, k ≤ n ∧ iv = .int .i64 k ∧ sv = .int .i64 (L.take k).sum) (fun _ iv => n - (intOf iv).toNat)
  case atStart => exact ⟨0, by omega, rfl, rfl⟩
  case round =>
    obtain ⟨k, hk, rfl, rfl⟩ := hrel
    by_cases hlt : k < n
    · have lx : k < L.length := by rw [Hn.out]; exact hlt
      obtain ⟨ad, rfl, hc⟩ := hL.at_ lx
      obtain ⟨b1, b2⟩ := Hb.out k hk
      obtain ⟨b3, b4⟩ := He.out _ (List.getElem_mem lx)
      have hsu : Hid ((L.take (k + 1)).sum = (L.take k).sum + L[k]) := by show _ = _; rw [List.take_succ_eq_append_getElem lx, List.sum_append]; simp
      generalize (L.take k).sum = q at *
      go_wp2_with fail
      go_round
      case rel => exact ⟨k + 1, by omega, by go_num, by rw [hsu.out]⟩
      case measure => simp [intOf]; omega
    · have htk := Lib.hid (show (L.take k).sum = L.sum from by rw [List.take_of_length_le (by rw [Hn.out]; omega)])
      go_wp2_with fail
      go_ret
      exact ⟨ret_int htk.out, rfl⟩
end Go.Proofs.Ytggkhieepjnmdaa

namespace Go.Proofs.Ytggkhieepjnmdaa
open Go.RowKit Go.Sort

/-- The service of a set. -/
def serveF (F : Fld) (T : List Int) : Int := sumTo (fun i => nearF F i T) F.di.length
theorem serveF_bd {F : Fld} (h : goodF F = true) (T : List Int) : 0 ≤ serveF F T ∧ serveF F T ≤ 693 := by
  have h1 := sumTo_bd (g := fun i => nearF F i T) (b := 99) (fun i => nearF_bd h T i) F.di.length
  have h7 := (goodF_iff.1 h).2.2.1
  unfold serveF; omega
set_option maxRecDepth 100000 in
set_option maxHeartbeats 400000 in
theorem l2Serve_any (f : Value) (F : Fld) (A0 : Option Addr) (T : List Int) (n c0 : Nat) (w : World) (hf : FldAt w f F) (hT : IntsAt w A0 T) (hn : T.length = n) (hg : goodF F = true) (hs : setB F T = true) (hne : T ≠ [] ∨ F.di.length = 0) :
    Calls Try.prog 48 #[f, .slice A0 n c0] w fun e w' => e = .returned (.int .i64 (serveF F T)) ∧ Kp w w' := by
  have h7 := (goodF_iff.1 hg).2.2.1
  obtain ⟨A, c, B, d, rfl, hA, hB⟩ := hf
  have hk0 : Kp w (w.alloc (.cells #[.slice A F.op.length c, .slice B F.di.length d] 29)) := (Kp.refl w).alloc _
  obtain ⟨d0, d1⟩ := box2 w (.slice A F.op.length c) (.slice B F.di.length d) 29
  have hFA := FldAt.kp (show FldAt w (.agg #[.slice A F.op.length c, .slice B F.di.length d]) F from ⟨A, c, B, d, rfl, hA, hB⟩) hk0
  replace hT := hT.kp hk0
  have HG := Lib.hid hg; have HS := Lib.hid hs; have HE := Lib.hid hne; have Hn := Lib.hid hn
  clear hA hB hg hs hne hn
  go_enter Try.func48, Try.ntmps48
  go_wp2_with fail
  have hsz : Hid ((w.alloc (.cells #[.slice A F.op.length c, .slice B F.di.length d] 29)).heap.size = w.heap.size + 1) := by show _ = _; simp
  generalize w.alloc (.cells #[.slice A F.op.length c, .slice B F.di.length d] 29) = wb at *
  have hkb : Kp wb wb := Kp.refl _
  have hkw := hk0
  go_loopw [5, 6] (fun sv iv wr => ∃ k : Nat, k ≤ F.di.length ∧ iv = .int .i64 k ∧ sv = .int .i64 (sumTo (fun i => nearF F i T) k) ∧ Kp wb wr) (fun _ iv _ => F.di.length - (intOf iv).toNat)
  case atStart => exact ⟨0, by omega, rfl, rfl, Kp.refl _⟩
  case round =>
    obtain ⟨k, hk, rfl, rfl, hkb⟩ := hrel
    by_cases hlt : k < F.di.length
    · have hne : T ≠ [] := by
        rcases HE.out with h | h
        · exact h
        · omega
      have HN := Lib.hid hne
      clear hne
      have hs1 := sumTo_bd (g := fun i => nearF F i T) (b := 99) (fun i => nearF_bd HG.out T i) k
      obtain ⟨b1, b2⟩ := hs1
      obtain ⟨b3, b4⟩ := nearF_bd HG.out T k
      have b5 : (k : Int) * 99 ≤ 693 := by omega
      have hsu := Lib.hid (sumTo_succ (fun i => nearF F i T) k)
      have q_d0 := hkb.get d0
      have q_d1 := hkb.get d1
      go_wp2_with fail
      have CC := Lib.hid (l2Nearest_any _ F k A0 T n c0 _ (hFA.kp hkb) (hT.kp hkb) Hn.out HG.out HS.out HN.out hlt)
      with_reducible refine Calls.mono CC.out ?_
      rintro e w1 ⟨rfl, hk1⟩
      clear CC q_d0 q_d1
      replace hkb := hkb.trans hk1
      have q_d0 := hkb.get d0
      have q_d1 := hkb.get d1
      go_wp2_with fail
      go_roundw
      case rel => exact ⟨k + 1, by omega, by go_num, by rw [hsu.out], hkb⟩
      case measure => simp [intOf]; omega
    · obtain rfl : k = F.di.length := by omega
      have q_d0 := hkb.get d0
      have q_d1 := hkb.get d1
      go_wp2_with fail
      go_ret
      exact ⟨rfl, hkw.trans hkb⟩
theorem mapTo_take (g : Nat → Int) (n k : Nat) (h : k ≤ n) : (mapTo g n).take k = mapTo g k := by
  induction n with
  | zero => obtain rfl : k = 0 := by omega
            rfl
  | succ n ih =>
    by_cases e : k = n + 1
    · subst e; rw [List.take_of_length_le (by rw [mapTo_len]; omega)]
    · rw [mapTo_succ, List.take_append_of_le_length (by rw [mapTo_len]; omega)]
      exact ih (by omega)
theorem mem_mapTo {g : Nat → Int} {x : Int} : ∀ {n : Nat}, x ∈ mapTo g n → ∃ i, i < n ∧ x = g i
  | 0, h => by cases h
  | n + 1, h => by
    rw [mapTo_succ, List.mem_append] at h
    rcases h with h | h
    · obtain ⟨i, hi, e⟩ := mem_mapTo h
      exact ⟨i, by omega, e⟩
    · exact ⟨n, by omega, by simpa using h⟩
set_option maxHeartbeats 400000 in
theorem service_any (f : Value) (F : Fld) (A0 : Option Addr) (T : List Int) (n c0 : Nat) (w : World) (hf : FldAt w f F) (hT : IntsAt w A0 T) (hn : T.length = n) (hg : goodF F = true) (hs : setB F T = true) (hne : T ≠ []) :
    Calls Try.prog 59 #[f, .slice A0 n c0] w fun e w' => e = .returned (.int .i64 (serveF F T)) ∧ Kp w w' := by
  have h7 := (goodF_iff.1 hg).2.2.1
  obtain ⟨A, c, B, d, rfl, hA, hB⟩ := hf
  have hk0 : Kp w (w.alloc (.cells #[.slice A F.op.length c, .slice B F.di.length d] 29)) := (Kp.refl w).alloc _
  obtain ⟨d0, d1⟩ := box2 w (.slice A F.op.length c) (.slice B F.di.length d) 29
  have hFA := FldAt.kp (show FldAt w (.agg #[.slice A F.op.length c, .slice B F.di.length d]) F from ⟨A, c, B, d, rfl, hA, hB⟩) hk0
  replace hT := hT.kp hk0
  have HG := Lib.hid hg; have HS := Lib.hid hs; have HE := Lib.hid hne; have Hn := Lib.hid hn
  clear hA hB hg hs hne hn
  go_enter Try.func59, Try.ntmps59
  go_wp2_with fail
  have hsz : Hid ((w.alloc (.cells #[.slice A F.op.length c, .slice B F.di.length d] 29)).heap.size = w.heap.size + 1) := by show _ = _; simp
  generalize w.alloc (.cells #[.slice A F.op.length c, .slice B F.di.length d] 29) = wb at *
  have hkb : Kp wb wb := Kp.refl _
  have hkw := hk0
  have CC := Lib.hid (lengths_any _ F A0 T n c0 _ (hFA.kp hkb) (hT.kp hkb) Hn.out HG.out HS.out HE.out)
  with_reducible refine Calls.mono CC.out ?_
  rintro e w1 ⟨v, rfl, ho, hk1⟩
  clear CC
  replace hkb := hkb.trans hk1
  obtain ⟨Av, cv, hve, hiv⟩ := ho.ints (by rw [mapTo_len]; omega)
  subst hve
  have CC := Lib.hid (sumL_any Av _ _ cv w1 hiv rfl (fun k hk => by
    rw [mapTo_len] at hk
    rw [mapTo_take _ _ _ hk]
    have h1 := sumTo_bd (g := fun i => nearF F i T) (b := 99) (fun i => nearF_bd HG.out T i) k
    unfold sumTo at h1
    omega) (fun x hx => by
    obtain ⟨i, _, rfl⟩ := mem_mapTo hx
    have := nearF_bd HG.out T i
    omega))
  have q_d0 := hkb.get d0
  have q_d1 := hkb.get d1
  go_wp2_with fail
  with_reducible refine Calls.mono CC.out ?_
  rintro e w2 ⟨rfl, hw⟩
  obtain rfl := hw
  clear CC
  go_wp2_with fail
  go_ret
  exact ⟨rfl, hkw.trans hkb⟩

end Go.Proofs.Ytggkhieepjnmdaa

namespace Go.Proofs.Ytggkhieepjnmdaa
open Go.RowKit

theorem keepc1 {wv w' : World} {p : Addr} {a : Value} (h1 : wv.cell? p = some a) (h : Kp wv w') : w'.cell? p = some a ∧ Kp wv w' := ⟨h.get h1, h⟩
theorem keepc2 {wv w' : World} {p q : Addr} {a b : Value} (h1 : wv.cell? p = some a) (h2 : wv.cell? q = some b) (h : Kp wv w') : w'.cell? p = some a ∧ w'.cell? q = some b ∧ Kp wv w' := ⟨h.get h1, h.get h2, h⟩
theorem keepc3 {wv w' : World} {p q r : Addr} {a b c : Value} (h1 : wv.cell? p = some a) (h2 : wv.cell? q = some b) (h3 : wv.cell? r = some c) (h : Kp wv w') : w'.cell? p = some a ∧ w'.cell? q = some b ∧ w'.cell? r = some c ∧ Kp wv w' := ⟨h.get h1, h.get h2, h.get h3, h⟩
theorem keepc4 {wv w' : World} {p q r s : Addr} {a b c d : Value} (h1 : wv.cell? p = some a) (h2 : wv.cell? q = some b) (h3 : wv.cell? r = some c) (h4 : wv.cell? s = some d) (h : Kp wv w') : w'.cell? p = some a ∧ w'.cell? q = some b ∧ w'.cell? r = some c ∧ w'.cell? s = some d ∧ Kp wv w' := ⟨h.get h1, h.get h2, h.get h3, h.get h4, h⟩
theorem keepc5 {wv w' : World} {p q r s t : Addr} {a b c d e : Value} (h1 : wv.cell? p = some a) (h2 : wv.cell? q = some b) (h3 : wv.cell? r = some c) (h4 : wv.cell? s = some d) (h5 : wv.cell? t = some e) (h : Kp wv w') : w'.cell? p = some a ∧ w'.cell? q = some b ∧ w'.cell? r = some c ∧ w'.cell? s = some d ∧ w'.cell? t = some e ∧ Kp wv w' := ⟨h.get h1, h.get h2, h.get h3, h.get h4, h.get h5, h⟩
theorem keepc6 {wv w' : World} {p q r s t u : Addr} {a b c d e f : Value} (h1 : wv.cell? p = some a) (h2 : wv.cell? q = some b) (h3 : wv.cell? r = some c) (h4 : wv.cell? s = some d) (h5 : wv.cell? t = some e) (h6 : wv.cell? u = some f) (h : Kp wv w') : w'.cell? p = some a ∧ w'.cell? q = some b ∧ w'.cell? r = some c ∧ w'.cell? s = some d ∧ w'.cell? t = some e ∧ w'.cell? u = some f ∧ Kp wv w' := ⟨h.get h1, h.get h2, h.get h3, h.get h4, h.get h5, h.get h6, h⟩
theorem keepc7 {wv w' : World} {p0 p1 p2 p3 p4 p5 p6 : Addr} {v0 v1 v2 v3 v4 v5 v6 : Value} (h0 : wv.cell? p0 = some v0) (h1 : wv.cell? p1 = some v1) (h2 : wv.cell? p2 = some v2) (h3 : wv.cell? p3 = some v3) (h4 : wv.cell? p4 = some v4) (h5 : wv.cell? p5 = some v5) (h6 : wv.cell? p6 = some v6) (h : Kp wv w') : w'.cell? p0 = some v0 ∧ w'.cell? p1 = some v1 ∧ w'.cell? p2 = some v2 ∧ w'.cell? p3 = some v3 ∧ w'.cell? p4 = some v4 ∧ w'.cell? p5 = some v5 ∧ w'.cell? p6 = some v6 ∧ Kp wv w' := ⟨h.get h0, h.get h1, h.get h2, h.get h3, h.get h4, h.get h5, h.get h6, h⟩
theorem keepc8 {wv w' : World} {p0 p1 p2 p3 p4 p5 p6 p7 : Addr} {v0 v1 v2 v3 v4 v5 v6 v7 : Value} (h0 : wv.cell? p0 = some v0) (h1 : wv.cell? p1 = some v1) (h2 : wv.cell? p2 = some v2) (h3 : wv.cell? p3 = some v3) (h4 : wv.cell? p4 = some v4) (h5 : wv.cell? p5 = some v5) (h6 : wv.cell? p6 = some v6) (h7 : wv.cell? p7 = some v7) (h : Kp wv w') : w'.cell? p0 = some v0 ∧ w'.cell? p1 = some v1 ∧ w'.cell? p2 = some v2 ∧ w'.cell? p3 = some v3 ∧ w'.cell? p4 = some v4 ∧ w'.cell? p5 = some v5 ∧ w'.cell? p6 = some v6 ∧ w'.cell? p7 = some v7 ∧ Kp wv w' := ⟨h.get h0, h.get h1, h.get h2, h.get h3, h.get h4, h.get h5, h.get h6, h.get h7, h⟩
theorem keepc9 {wv w' : World} {p0 p1 p2 p3 p4 p5 p6 p7 p8 : Addr} {v0 v1 v2 v3 v4 v5 v6 v7 v8 : Value} (h0 : wv.cell? p0 = some v0) (h1 : wv.cell? p1 = some v1) (h2 : wv.cell? p2 = some v2) (h3 : wv.cell? p3 = some v3) (h4 : wv.cell? p4 = some v4) (h5 : wv.cell? p5 = some v5) (h6 : wv.cell? p6 = some v6) (h7 : wv.cell? p7 = some v7) (h8 : wv.cell? p8 = some v8) (h : Kp wv w') : w'.cell? p0 = some v0 ∧ w'.cell? p1 = some v1 ∧ w'.cell? p2 = some v2 ∧ w'.cell? p3 = some v3 ∧ w'.cell? p4 = some v4 ∧ w'.cell? p5 = some v5 ∧ w'.cell? p6 = some v6 ∧ w'.cell? p7 = some v7 ∧ w'.cell? p8 = some v8 ∧ Kp wv w' := ⟨h.get h0, h.get h1, h.get h2, h.get h3, h.get h4, h.get h5, h.get h6, h.get h7, h.get h8, h⟩
theorem keepc10 {wv w' : World} {p0 p1 p2 p3 p4 p5 p6 p7 p8 p9 : Addr} {v0 v1 v2 v3 v4 v5 v6 v7 v8 v9 : Value} (h0 : wv.cell? p0 = some v0) (h1 : wv.cell? p1 = some v1) (h2 : wv.cell? p2 = some v2) (h3 : wv.cell? p3 = some v3) (h4 : wv.cell? p4 = some v4) (h5 : wv.cell? p5 = some v5) (h6 : wv.cell? p6 = some v6) (h7 : wv.cell? p7 = some v7) (h8 : wv.cell? p8 = some v8) (h9 : wv.cell? p9 = some v9) (h : Kp wv w') : w'.cell? p0 = some v0 ∧ w'.cell? p1 = some v1 ∧ w'.cell? p2 = some v2 ∧ w'.cell? p3 = some v3 ∧ w'.cell? p4 = some v4 ∧ w'.cell? p5 = some v5 ∧ w'.cell? p6 = some v6 ∧ w'.cell? p7 = some v7 ∧ w'.cell? p8 = some v8 ∧ w'.cell? p9 = some v9 ∧ Kp wv w' := ⟨h.get h0, h.get h1, h.get h2, h.get h3, h.get h4, h.get h5, h.get h6, h.get h7, h.get h8, h.get h9, h⟩
end Go.Proofs.Ytggkhieepjnmdaa

namespace Go.Proofs.Ytggkhieepjnmdaa
open Go.RowKit Go.Sort

def opAt (F : Fld) (a : Int) : Int := F.op.getD a.toNat 0
def payTo (F : Fld) (S : List Int) (k : Nat) : Int := ((S.take k).map (opAt F)).sum
def payF (F : Fld) (S : List Int) : Int := (S.map (opAt F)).sum
theorem payTo_succ {F : Fld} {S : List Int} {k : Nat} (hk : k < S.length) : payTo F S (k + 1) = payTo F S k + opAt F S[k] := by
  unfold payTo
  rw [List.take_succ_eq_append_getElem hk, List.map_append, List.sum_append]; simp
theorem payTo_all {F : Fld} {S : List Int} {k : Nat} (hk : S.length ≤ k) : payTo F S k = payF F S := by
  unfold payTo payF
  rw [List.take_of_length_le hk]
theorem opAt_bd {F : Fld} (h : goodF F = true) (a : Int) : 0 ≤ opAt F a ∧ opAt F a ≤ 99 := by
  unfold opAt
  by_cases hk : a.toNat < F.op.length
  · have e : F.op.getD a.toNat 0 = F.op[a.toNat] := by simp [List.getD, hk]
    rw [e]; exact (goodF_iff.1 h).2.1 _ (List.getElem_mem hk)
  · rw [List.getD_eq_getElem?_getD, List.getElem?_eq_none (by omega)]; simp
theorem payTo_bd {F : Fld} (h : goodF F = true) (S : List Int) : ∀ k, k ≤ S.length → 0 ≤ payTo F S k ∧ payTo F S k ≤ k * 99
  | 0, _ => by simp [payTo]
  | k + 1, hk => by
    have h1 := payTo_bd h S k (by omega)
    have h2 := opAt_bd h (S[k]'(by omega))
    rw [payTo_succ (by omega)]; omega
theorem set_len {F : Fld} {S : List Int} (h : setB F S = true) : S.length ≤ F.op.length := by
  have hr := ris_iff.1 h
  have hm := set_mem h
  have := bitsL_len F.op.length (bagN S)
  rwa [set_bits h] at this
theorem payF_bd {F : Fld} (h : goodF F = true) {S : List Int} (hs : setB F S = true) : 0 ≤ payF F S ∧ payF F S ≤ 693 := by
  have h1 := payTo_bd h S S.length (Nat.le_refl _)
  rw [payTo_all (Nat.le_refl _)] at h1
  have := set_len hs
  have := (goodF_iff.1 h).1.2
  omega
theorem opCell {w : World} {ad : Addr} {F : Fld} {a : Int} (h : IntsAt w (some ad) F.op) (h0 : 0 ≤ a) (h1 : a < F.op.length) : w.cell? (ad.add a.toNat) = some (.int .i64 (opAt F a)) := by
  have hk : a.toNat < F.op.length := by omega
  rw [h.some_ hk]
  simp [opAt, List.getD, hk]
set_option maxRecDepth 100000 in
set_option maxHeartbeats 400000 in
theorem payment_any (f : Value) (F : Fld) (A0 : Option Addr) (S : List Int) (n c0 : Nat) (w : World) (hf : FldAt w f F) (hS : IntsAt w A0 S) (hn : S.length = n) (hg : goodF F = true) (hs : setB F S = true) :
    Calls Try.prog 58 #[f, .slice A0 n c0] w fun e w' => e = .returned (.int .i64 (payF F S)) ∧ Kp w w' := by
  have hl1 : 0 < F.op.length := by have := (goodF_iff.1 hg).1.1; omega
  have h7 := (goodF_iff.1 hg).1.2
  obtain ⟨A, c, B, d, rfl, hA, hB⟩ := hf
  obtain ⟨od, rfl, _⟩ := hA.at_ (k := 0) hl1
  have hk0 : Kp w (w.alloc (.cells #[.slice (some od) F.op.length c, .slice B F.di.length d] 29)) := (Kp.refl w).alloc _
  obtain ⟨d0, d1⟩ := box2 w (.slice (some od) F.op.length c) (.slice B F.di.length d) 29
  replace hA := hA.kp hk0
  replace hS := hS.kp hk0
  have hm : n ≤ 9223372036854775807 := hn ▸ hS.1
  have hn7 : n ≤ 7 := by have := set_len hs; omega
  have Hn := Lib.hid hn; clear hn
  have Hm := Lib.hid (set_mem hs)
  have HG := Lib.hid hg
  have HB := Lib.hid (fun k (hk : k ≤ S.length) => payTo_bd hg S k hk)
  clear hs hg hB
  go_enter Try.func58, Try.ntmps58
  go_wp2_with fail
  generalize w.alloc (.cells #[.slice (some od) F.op.length c, .slice B F.di.length d] 29) = wb at *
  go_loopw [5, 10] (fun sv iv wr => ∃ k : Nat, k ≤ n ∧ iv = .int .i64 k ∧ sv = .int .i64 (payTo F S k) ∧ Dr wb wr) (fun _ iv _ => n - (intOf iv).toNat)
  case atStart => exact ⟨0, by omega, rfl, rfl, Dr.refl _⟩
  case round =>
    obtain ⟨k, hk, rfl, rfl, hdr⟩ := hrel
    have e0 := hdr.kp.get d0
    by_cases hlt : k < n
    · have lx : k < S.length := by rw [Hn.out]; exact hlt
      obtain ⟨sd, rfl, hck⟩ := (hS.kp hdr.kp).at_ lx
      obtain ⟨ha0, ha1⟩ := Hm.out _ (List.getElem_mem lx)
      have hoc := opCell (hA.kp hdr.kp) ha0 ha1
      have hsu := Lib.hid (payTo_succ (F := F) lx)
      obtain ⟨b1, b2⟩ := HB.out k (Nat.le_of_lt lx)
      obtain ⟨b3, b4⟩ := opAt_bd HG.out S[k]
      go_wp2_with fail
      go_roundw
      case rel => exact ⟨k + 1, by omega, by go_num, by rw [hsu.out] <;> go_num, hdr⟩
      case measure => simp [intOf]; omega
    · go_wp2_with fail
      go_ret
      exact ⟨ret_int (by rw [payTo_all (by rw [Hn.out]; omega)]), hk0.trans hdr.kp⟩
set_option maxRecDepth 100000 in
set_option maxHeartbeats 400000 in
theorem l2Pay_any (f : Value) (F : Fld) (A0 : Option Addr) (S : List Int) (n c0 : Nat) (w : World) (hf : FldAt w f F) (hS : IntsAt w A0 S) (hn : S.length = n) (hg : goodF F = true) (hs : setB F S = true) :
    Calls Try.prog 49 #[f, .slice A0 n c0] w fun e w' => e = .returned (.int .i64 (payF F S)) ∧ Kp w w' := by
  have hl1 : 0 < F.op.length := by have := (goodF_iff.1 hg).1.1; omega
  have h7 := (goodF_iff.1 hg).1.2
  obtain ⟨A, c, B, d, rfl, hA, hB⟩ := hf
  obtain ⟨od, rfl, _⟩ := hA.at_ (k := 0) hl1
  have hk0 : Kp w (w.alloc (.cells #[.slice (some od) F.op.length c, .slice B F.di.length d] 29)) := (Kp.refl w).alloc _
  obtain ⟨d0, d1⟩ := box2 w (.slice (some od) F.op.length c) (.slice B F.di.length d) 29
  replace hA := hA.kp hk0
  replace hS := hS.kp hk0
  have hm : n ≤ 9223372036854775807 := hn ▸ hS.1
  have hn7 : n ≤ 7 := by have := set_len hs; omega
  have Hn := Lib.hid hn; clear hn
  have Hm := Lib.hid (set_mem hs)
  have HG := Lib.hid hg
  have HB := Lib.hid (fun k (hk : k ≤ S.length) => payTo_bd hg S k hk)
  clear hs hg hB
  go_enter Try.func49, Try.ntmps49
  go_wp2_with fail
  generalize w.alloc (.cells #[.slice (some od) F.op.length c, .slice B F.di.length d] 29) = wb at *
  go_loopw [5, 6] (fun sv iv wr => ∃ k : Nat, k ≤ n ∧ iv = .int .i64 k ∧ sv = .int .i64 (payTo F S k) ∧ Dr wb wr) (fun _ iv _ => n - (intOf iv).toNat)
  case atStart => exact ⟨0, by omega, rfl, rfl, Dr.refl _⟩
  case round =>
    obtain ⟨k, hk, rfl, rfl, hdr⟩ := hrel
    have e0 := hdr.kp.get d0
    by_cases hlt : k < n
    · have lx : k < S.length := by rw [Hn.out]; exact hlt
      obtain ⟨sd, rfl, hck⟩ := (hS.kp hdr.kp).at_ lx
      obtain ⟨ha0, ha1⟩ := Hm.out _ (List.getElem_mem lx)
      have hoc := opCell (hA.kp hdr.kp) ha0 ha1
      have hsu := Lib.hid (payTo_succ (F := F) lx)
      obtain ⟨b1, b2⟩ := HB.out k (Nat.le_of_lt lx)
      obtain ⟨b3, b4⟩ := opAt_bd HG.out S[k]
      go_wp2_with fail
      go_quiet (fail)
      go_wp2_with fail
      go_roundw
      case rel => exact ⟨k + 1, by omega, by go_num, by rw [hsu.out] <;> go_num, hdr.drewN nq⟩
      case measure => simp [intOf]; omega
    · go_wp2_with fail
      go_ret
      exact ⟨ret_int (by rw [payTo_all (by rw [Hn.out]; omega)]), hk0.trans hdr.kp⟩
def totF (F : Fld) (S : List Int) : Int := serveF F S + payF F S
set_option maxRecDepth 100000 in
set_option maxHeartbeats 400000 in
theorem total_any (f : Value) (F : Fld) (A0 : Option Addr) (S : List Int) (n c0 : Nat) (w : World) (hf : FldAt w f F) (hS : IntsAt w A0 S) (hn : S.length = n) (hg : goodF F = true) (hs : setB F S = true) (hne : S ≠ []) :
    Calls Try.prog 53 #[f, .slice A0 n c0] w fun e w' => e = .returned (.int .i64 (totF F S)) ∧ Kp w w' := by
  obtain ⟨A, c, B, d, rfl, hA, hB⟩ := hf
  have hk0 : Kp w (w.alloc (.cells #[.slice A F.op.length c, .slice B F.di.length d] 29)) := (Kp.refl w).alloc _
  obtain ⟨d0, d1⟩ := box2 w (.slice A F.op.length c) (.slice B F.di.length d) 29
  have hFA := FldAt.kp (show FldAt w (.agg #[.slice A F.op.length c, .slice B F.di.length d]) F from ⟨A, c, B, d, rfl, hA, hB⟩) hk0
  replace hS := hS.kp hk0
  have HG := Lib.hid hg; have HS := Lib.hid hs; have HE := Lib.hid hne; have Hn := Lib.hid hn
  obtain ⟨p1, p2⟩ := payF_bd hg hs
  obtain ⟨q1, q2⟩ := serveF_bd hg S
  have hsm : Hid (totF F S = serveF F S + payF F S) := rfl
  clear hA hB hg hs hne hn
  go_enter Try.func53, Try.ntmps53
  go_wp2_with fail
  have hsz : Hid ((w.alloc (.cells #[.slice A F.op.length c, .slice B F.di.length d] 29)).heap.size = w.heap.size + 1) := by show _ = _; simp
  generalize w.alloc (.cells #[.slice A F.op.length c, .slice B F.di.length d] 29) = wb at *
  have hkb : Kp wb wb := Kp.refl _
  have hkw := hk0
  have C1 := Lib.hid (fun (wx : World) (hx : Kp wb wx) => payment_any _ F A0 S n c0 wx (hFA.kp hx) (hS.kp hx) Hn.out HG.out HS.out)
  have C2 := Lib.hid (fun (wx : World) (hx : Kp wb wx) => service_any _ F A0 S n c0 wx (hFA.kp hx) (hS.kp hx) Hn.out HG.out HS.out HE.out)
  generalize payF F S = p at *
  generalize serveF F S = q at *
  have q_d0 := hkb.get d0
  have q_d1 := hkb.get d1
  have tok1 : True := trivial
  go_wp2_with fail
  go_region_held3 (fun w' => w'.cell? ⟨w.heap.size, 0, none⟩ = some (.slice A F.op.length c) ∧ w'.cell? ⟨w.heap.size, 1, none⟩ = some (.slice B F.di.length d) ∧ Kp wb w')
    (first | (refine keepc2 d0 d1 ?_; exact (by repeat (first | with_reducible assumption | with_reducible exact Kp.refl _ | with_reducible refine Kp.drew ?_ | with_reducible refine Kp.alloc ?_ _ | with_reducible refine Kp.drewN ?_ _ | refine Kp.setCell ?_ (by dsimp only; omega) _))) | fail)
    (first
      | (have _t := tok1; go_at_call 58; with_reducible refine Calls.mono (C1.out _ (by repeat (first | with_reducible assumption | with_reducible exact Kp.refl _ | with_reducible refine Kp.drew ?_ | with_reducible refine Kp.alloc ?_ _ | with_reducible refine Kp.drewN ?_ _ | refine Kp.setCell ?_ (by dsimp only; omega) _))) ?_; rintro e wr1 ⟨rfl, hka⟩; have hr1 : Kp wb wr1 := Kp.trans (by repeat (first | with_reducible assumption | with_reducible exact Kp.refl _ | with_reducible refine Kp.drew ?_ | with_reducible refine Kp.alloc ?_ _ | with_reducible refine Kp.drewN ?_ _ | refine Kp.setCell ?_ (by dsimp only; omega) _)) hka; have tok2 : True := trivial; clear tok1 _t)
      | (have _t := tok2; go_at_call 59; with_reducible refine Calls.mono (C2.out _ (by repeat (first | with_reducible assumption | with_reducible exact Kp.refl _ | with_reducible refine Kp.drew ?_ | with_reducible refine Kp.alloc ?_ _ | with_reducible refine Kp.drewN ?_ _ | refine Kp.setCell ?_ (by dsimp only; omega) _))) ?_; rintro e wr2 ⟨rfl, hka⟩; have hr2 : Kp wb wr2 := Kp.trans (by repeat (first | with_reducible assumption | with_reducible exact Kp.refl _ | with_reducible refine Kp.drew ?_ | with_reducible refine Kp.alloc ?_ _ | with_reducible refine Kp.drewN ?_ _ | refine Kp.setCell ?_ (by dsimp only; omega) _)) hka; have tok3 : True := trivial; clear tok2 _t)
      | fail)
  go_wp2_with fail
  go_ret
  exact ⟨ret_int (by rw [hsm.out] <;> first | omega | (rw [IntWalk.i64_in _ (by omega)] <;> omega)), hkw.trans hr2⟩
set_option maxRecDepth 100000 in
set_option maxHeartbeats 400000 in
theorem l2Total_any (f : Value) (F : Fld) (A0 : Option Addr) (S : List Int) (n c0 : Nat) (w : World) (hf : FldAt w f F) (hS : IntsAt w A0 S) (hn : S.length = n) (hg : goodF F = true) (hs : setB F S = true) (hne : S ≠ []) :
    Calls Try.prog 40 #[f, .slice A0 n c0] w fun e w' => e = .returned (.int .i64 (totF F S)) ∧ Kp w w' := by
  obtain ⟨A, c, B, d, rfl, hA, hB⟩ := hf
  have hk0 : Kp w (w.alloc (.cells #[.slice A F.op.length c, .slice B F.di.length d] 29)) := (Kp.refl w).alloc _
  obtain ⟨d0, d1⟩ := box2 w (.slice A F.op.length c) (.slice B F.di.length d) 29
  have hFA := FldAt.kp (show FldAt w (.agg #[.slice A F.op.length c, .slice B F.di.length d]) F from ⟨A, c, B, d, rfl, hA, hB⟩) hk0
  replace hS := hS.kp hk0
  have HG := Lib.hid hg; have HS := Lib.hid hs; have HE := Lib.hid hne; have Hn := Lib.hid hn
  obtain ⟨p1, p2⟩ := payF_bd hg hs
  obtain ⟨q1, q2⟩ := serveF_bd hg S
  have hsm : Hid (totF F S = serveF F S + payF F S) := rfl
  clear hA hB hg hs hne hn
  go_enter Try.func40, Try.ntmps40
  go_wp2_with fail
  have hsz : Hid ((w.alloc (.cells #[.slice A F.op.length c, .slice B F.di.length d] 29)).heap.size = w.heap.size + 1) := by show _ = _; simp
  generalize w.alloc (.cells #[.slice A F.op.length c, .slice B F.di.length d] 29) = wb at *
  have hkb : Kp wb wb := Kp.refl _
  have hkw := hk0
  have C1 := Lib.hid (fun (wx : World) (hx : Kp wb wx) => l2Serve_any _ F A0 S n c0 wx (hFA.kp hx) (hS.kp hx) Hn.out HG.out HS.out (.inl HE.out))
  have C2 := Lib.hid (fun (wx : World) (hx : Kp wb wx) => l2Pay_any _ F A0 S n c0 wx (hFA.kp hx) (hS.kp hx) Hn.out HG.out HS.out)
  generalize payF F S = p at *
  generalize serveF F S = q at *
  have q_d0 := hkb.get d0
  have q_d1 := hkb.get d1
  have tok1 : True := trivial
  go_wp2_with fail
  go_region_held3 (fun w' => w'.cell? ⟨w.heap.size, 0, none⟩ = some (.slice A F.op.length c) ∧ w'.cell? ⟨w.heap.size, 1, none⟩ = some (.slice B F.di.length d) ∧ Kp wb w')
    (first | (refine keepc2 d0 d1 ?_; exact (by repeat (first | with_reducible assumption | with_reducible exact Kp.refl _ | with_reducible refine Kp.drew ?_ | with_reducible refine Kp.alloc ?_ _ | with_reducible refine Kp.drewN ?_ _ | refine Kp.setCell ?_ (by dsimp only; omega) _))) | fail)
    (first
      | (have _t := tok1; go_at_call 48; with_reducible refine Calls.mono (C1.out _ (by repeat (first | with_reducible assumption | with_reducible exact Kp.refl _ | with_reducible refine Kp.drew ?_ | with_reducible refine Kp.alloc ?_ _ | with_reducible refine Kp.drewN ?_ _ | refine Kp.setCell ?_ (by dsimp only; omega) _))) ?_; rintro e wr1 ⟨rfl, hka⟩; have hr1 : Kp wb wr1 := Kp.trans (by repeat (first | with_reducible assumption | with_reducible exact Kp.refl _ | with_reducible refine Kp.drew ?_ | with_reducible refine Kp.alloc ?_ _ | with_reducible refine Kp.drewN ?_ _ | refine Kp.setCell ?_ (by dsimp only; omega) _)) hka; have tok2 : True := trivial; clear tok1 _t)
      | (have _t := tok2; go_at_call 49; with_reducible refine Calls.mono (C2.out _ (by repeat (first | with_reducible assumption | with_reducible exact Kp.refl _ | with_reducible refine Kp.drew ?_ | with_reducible refine Kp.alloc ?_ _ | with_reducible refine Kp.drewN ?_ _ | refine Kp.setCell ?_ (by dsimp only; omega) _))) ?_; rintro e wr2 ⟨rfl, hka⟩; have hr2 : Kp wb wr2 := Kp.trans (by repeat (first | with_reducible assumption | with_reducible exact Kp.refl _ | with_reducible refine Kp.drew ?_ | with_reducible refine Kp.alloc ?_ _ | with_reducible refine Kp.drewN ?_ _ | refine Kp.setCell ?_ (by dsimp only; omega) _)) hka; have tok3 : True := trivial; clear tok2 _t)
      | fail)
  go_wp2_with fail
  go_ret
  exact ⟨ret_int (by rw [hsm.out] <;> first | omega | (rw [IntWalk.i64_in _ (by omega)] <;> omega)), hkw.trans hr2⟩
end Go.Proofs.Ytggkhieepjnmdaa

namespace Go.Proofs.Ytggkhieepjnmdaa
open Go.RowKit Go.Sort

def bestF (F : Fld) : List Int := bestL (totF F) (setsL F.op.length)
theorem sets_pos {F : Fld} (h : goodF F = true) : 0 < (setsL F.op.length).length := by
  have h1 := (goodF_iff.1 h).1.1
  rw [setsL_len]
  have : 2 ^ 1 ≤ 2 ^ F.op.length := Nat.pow_le_pow_right (by omega) h1
  omega
theorem sets_most {F : Fld} (h : goodF F = true) : (setsL F.op.length).length ≤ 127 := by
  have h1 := (goodF_iff.1 h).1.2
  rw [setsL_len]
  have : 2 ^ F.op.length ≤ 2 ^ 7 := Nat.pow_le_pow_right (by omega) h1
  omega
/-- What every one of the sets is. -/
def isSet (F : Fld) (S : List Int) : Prop := setB F S = true ∧ S ≠ []
theorem sets_set {F : Fld} : ∀ S ∈ setsL F.op.length, isSet F S := fun S h => by
  have := mem_setsL.1 h
  exact ⟨this.2, this.1⟩
theorem best_set {F : Fld} (h : goodF F = true) : isSet F (bestF F) := sets_set _ (bestL_mem (sets_pos h))
theorem total_val {f : Value} {F : Fld} {w : World} (hf : FldAt w f F) (hg : goodF F = true) : Val 53 #[f] #[] (totF F) (isSet F) w :=
  ⟨callFunc_of Try.func53 (by kernel_rfl) (by kernel_rfl), fun S Av cv w' hk hq hi _ => total_any f F Av S S.length cv w' (hf.kp hk) hi rfl hg hq.1 hq.2⟩
set_option maxRecDepth 100000 in
set_option maxHeartbeats 1000000 in
theorem bestSet_any (f : Value) (F : Fld) (w : World) (hf : FldAt w f F) (hg : goodF F = true) :
    Calls Try.prog 52 #[f] w fun e w' => ∃ u, e = .returned (.tuple #[u, .bool true]) ∧ RowP w' (some w.heap.size) u (bestF F) ∧ Kp w w' := by
  obtain ⟨A, c, B, d, rfl, hA, hB⟩ := hf
  have hk0 : Kp w (w.alloc (.cells #[.slice A F.op.length c, .slice B F.di.length d] 29)) := (Kp.refl w).alloc _
  obtain ⟨d0, d1⟩ := box2 w (.slice A F.op.length c) (.slice B F.di.length d) 29
  have hFA := FldAt.kp (show FldAt w (.agg #[.slice A F.op.length c, .slice B F.di.length d]) F from ⟨A, c, B, d, rfl, hA, hB⟩) hk0
  have hn7 := (goodF_iff.1 hg).1.2
  have HG := Lib.hid hg
  have HL0 := Lib.hid (sets_pos hg)
  have HL1 := Lib.hid (sets_most hg)
  clear hA hB hg
  go_enter Try.func52, Try.ntmps52
  go_wp2_with fail
  have hsz : Hid ((w.alloc (.cells #[.slice A F.op.length c, .slice B F.di.length d] 29)).heap.size = w.heap.size + 1) := by show _ = _; simp
  generalize w.alloc (.cells #[.slice A F.op.length c, .slice B F.di.length d] 29) = wb at *
  have hkb : Kp wb wb := Kp.refl _
  have hkw := hk0
  have CC := Lib.hid (isField_any _ F _ (hFA.kp hkb))
  with_reducible refine Calls.mono CC.out ?_
  rintro e w1 ⟨rfl, hk1⟩
  clear CC
  replace hkb := hkb.trans hk1
  rw [HG.out]
  obtain ⟨w5, rfl⟩ : ∃ w5 : World, w5 = w1 := ⟨_, rfl⟩
  have hkw5 := hkw.trans hkb
  have C1 := Lib.hid (fun (wx : World) (_ : Kp w5 wx) => sets_any F.op.length wx hn7)
  have C2 := Lib.hid (fun (wx : World) (hx : Kp w5 wx) (Ax : Option Addr) (cx m lo : Nat) (hm : (setsL F.op.length).length = m) (hr : RowsAt wx (some lo) Ax (setsL F.op.length)) => least_any 53 #[.agg #[.slice A F.op.length c, .slice B F.di.length d]] #[] (totF F) (isSet F) (some lo) Ax (setsL F.op.length) m cx wx hr hm (by have := HL0.out; omega) (total_val (hFA.kp (hkb.trans hx)) HG.out) sets_set)
  have hk5 : Kp w5 w5 := Kp.refl _
  have g0 := hkb.get d0
  have g1 := hkb.get d1
  clear hkb
  have q_g0 := hk5.get g0
  have q_g1 := hk5.get g1
  have tok1 : True := trivial
  go_wp2_with fail
  go_region_held3 (fun w' => w'.cell? ⟨w.heap.size, 0, none⟩ = some (.slice A F.op.length c) ∧ w'.cell? ⟨w.heap.size, 1, none⟩ = some (.slice B F.di.length d) ∧ Kp w5 w')
    (first | (refine keepc2 g0 g1 ?_; exact (by repeat (first | with_reducible assumption | with_reducible exact Kp.refl _ | with_reducible refine Kp.drew ?_ | with_reducible refine Kp.alloc ?_ _ | with_reducible refine Kp.drewN ?_ _ | refine Kp.setCell ?_ (by dsimp only; omega) _))) | fail)
    (first
      | (have _t := tok1; go_at_call 57; with_reducible refine Calls.mono (C1.out _ (by repeat (first | with_reducible assumption | with_reducible exact Kp.refl _ | with_reducible refine Kp.drew ?_ | with_reducible refine Kp.alloc ?_ _ | with_reducible refine Kp.drewN ?_ _ | refine Kp.setCell ?_ (by dsimp only; omega) _))) ?_; rintro e wr1 ⟨v, rfl, hvn, hgo, hka⟩; have hr1 : Kp w5 wr1 := Kp.trans (by repeat (first | with_reducible assumption | with_reducible exact Kp.refl _ | with_reducible refine Kp.drew ?_ | with_reducible refine Kp.alloc ?_ _ | with_reducible refine Kp.drewN ?_ _ | refine Kp.setCell ?_ (by dsimp only; omega) _)) hka; obtain ⟨Ax, cx, hve, hcx, hrows⟩ := hgo.rows (by have := HL1.out; omega); subst hve; have tok2 : True := trivial; clear tok1 _t)
      | (have _t := tok2; go_at_call 56; with_reducible refine Calls.mono (C2.out _ (by repeat (first | with_reducible assumption | with_reducible exact Kp.refl _ | with_reducible refine Kp.drew ?_ | with_reducible refine Kp.alloc ?_ _ | with_reducible refine Kp.drewN ?_ _ | refine Kp.setCell ?_ (by dsimp only; omega) _)) Ax cx _ _ rfl (hrows.kp (by repeat (first | with_reducible assumption | with_reducible exact Kp.refl _ | with_reducible refine Kp.drew ?_ | with_reducible refine Kp.alloc ?_ _ | with_reducible refine Kp.drewN ?_ _ | refine Kp.setCell ?_ (by dsimp only; omega) _)))) ?_; rintro e wr2 ⟨u, rfl, hu, hka⟩; have hr2 : Kp w5 wr2 := Kp.trans (by repeat (first | with_reducible assumption | with_reducible exact Kp.refl _ | with_reducible refine Kp.drew ?_ | with_reducible refine Kp.alloc ?_ _ | with_reducible refine Kp.drewN ?_ _ | refine Kp.setCell ?_ (by dsimp only; omega) _)) hka; have tok3 : True := trivial; clear tok2 _t)
      | fail)
  all_goals
    go_wp2_with fail
    go_ret2
    exact ⟨u, rfl, hu.mono (by have h1 := hkw5.le; simpa using h1), hkw5.trans hr2⟩
theorem bestTotal_any (f : Value) (F : Fld) (w : World) (hf : FldAt w f F) (hg : goodF F = true) :
    Calls Try.prog 45 #[f] w fun e w' => e = .returned (.tuple #[.int .i64 (totF F (bestF F)), .bool true]) ∧ Kp w w' := by
  have hbs := best_set hg
  obtain ⟨A, c, B, d, rfl, hA, hB⟩ := hf
  have hk0 : Kp w (w.alloc (.cells #[.slice A F.op.length c, .slice B F.di.length d] 29)) := (Kp.refl w).alloc _
  obtain ⟨d0, d1⟩ := box2 w (.slice A F.op.length c) (.slice B F.di.length d) 29
  have hFA := FldAt.kp (show FldAt w (.agg #[.slice A F.op.length c, .slice B F.di.length d]) F from ⟨A, c, B, d, rfl, hA, hB⟩) hk0
  have HG := Lib.hid hg
  have HS := Lib.hid hbs
  clear hA hB hg hbs
  go_enter Try.func45, Try.ntmps45
  go_wp2_with fail
  have hsz : Hid ((w.alloc (.cells #[.slice A F.op.length c, .slice B F.di.length d] 29)).heap.size = w.heap.size + 1) := by show _ = _; simp
  generalize w.alloc (.cells #[.slice A F.op.length c, .slice B F.di.length d] 29) = wb at *
  have hkb : Kp wb wb := Kp.refl _
  have hkw := hk0
  have CC := Lib.hid (bestSet_any _ F _ (hFA.kp hkb) HG.out)
  with_reducible refine Calls.mono CC.out ?_
  rintro e w1 ⟨u, rfl, hu, hk1⟩
  clear CC
  replace hkb := hkb.trans hk1
  obtain ⟨Av, cv, rfl, hcv, hiv⟩ := hu.read
  have q_d0 := hkb.get d0
  have q_d1 := hkb.get d1
  go_wp2_with fail
  have CC := Lib.hid (total_any _ F Av (bestF F) _ cv _ (hFA.kp hkb) hiv rfl HG.out HS.out.1 HS.out.2)
  with_reducible refine Calls.mono CC.out ?_
  rintro e w2 ⟨rfl, hk2⟩
  clear CC q_d0 q_d1
  replace hkb := hkb.trans hk2
  have q_d0 := hkb.get d0
  have q_d1 := hkb.get d1
  go_wp2_with fail
  go_ret2
  exact ⟨rfl, hkw.trans hkb⟩
set_option maxRecDepth 100000 in
set_option maxHeartbeats 1000000 in
theorem l2Best_any (f : Value) (F : Fld) (w : World) (hf : FldAt w f F) (hg : goodF F = true) :
    Calls Try.prog 41 #[f] w fun e w' => ∃ u, e = .returned u ∧ RowP w' (some w.heap.size) u (bestF F) ∧ Kp w w' := by
  obtain ⟨A, c, B, d, rfl, hA, hB⟩ := hf
  have hk0 : Kp w (w.alloc (.cells #[.slice A F.op.length c, .slice B F.di.length d] 29)) := (Kp.refl w).alloc _
  obtain ⟨d0, d1⟩ := box2 w (.slice A F.op.length c) (.slice B F.di.length d) 29
  have hFA := FldAt.kp (show FldAt w (.agg #[.slice A F.op.length c, .slice B F.di.length d]) F from ⟨A, c, B, d, rfl, hA, hB⟩) hk0
  have hn7 := (goodF_iff.1 hg).1.2
  have HG := Lib.hid hg
  have HL0 := Lib.hid (sets_pos hg)
  have HL1 := Lib.hid (sets_most hg)
  clear hA hB hg
  go_enter Try.func41, Try.ntmps41
  go_wp2_with fail
  have hsz : Hid ((w.alloc (.cells #[.slice A F.op.length c, .slice B F.di.length d] 29)).heap.size = w.heap.size + 1) := by show _ = _; simp
  generalize w.alloc (.cells #[.slice A F.op.length c, .slice B F.di.length d] 29) = wb at *
  have hkb : Kp wb wb := Kp.refl _
  have hkw := hk0
  have CC := Lib.hid (l2Sets_any F.op.length wb hn7)
  with_reducible refine Calls.mono CC.out ?_
  rintro e w1 ⟨v, rfl, hvn, hgo, hk1⟩
  clear CC
  replace hkb := hkb.trans hk1
  obtain ⟨ad, cx, hve, hcx, hrows⟩ := hgo.rows_some (by have := HL1.out; omega) hvn
  subst hve
  clear hgo hvn
  obtain ⟨rows, hre⟩ : ∃ rows, rows = setsL F.op.length := ⟨_, rfl⟩
  rw [← hre] at hrows hcx ⊢
  have HR := Lib.hid hre
  have Hbe : Hid (bestF F = bestL (totF F) rows) := by show _ = _; rw [hre]; rfl
  have Hset : Hid (∀ S ∈ rows, isSet F S) := by show ∀ S ∈ rows, _; rw [hre]; exact sets_set
  have l0 : 0 < rows.length := by rw [hre]; exact HL0.out
  have l1 : rows.length ≤ 127 := by rw [hre]; exact HL1.out
  clear hre
  have HB := Lib.hid (fun k (hk : k ≤ rows.length) => Hset.out _ (bestTo_mem (v := totF F) l0 k hk))
  obtain ⟨A2, c2, hcl, hc2, hri, hrp⟩ := hrows.some_ l0
  have hz : ad.add 0 = ad := by unfold Addr.add; simp
  rw [hz] at hcl
  have hst : Hid (bestTo (totF F) rows 1 = rows[0]) := by
    show _ = _
    rw [bestTo_succ l0]
    have e0 : bestTo (totF F) rows 0 = rows[0] := by unfold bestTo; simp [List.getD, l0]
    rw [e0]; unfold bestStep; simp
  obtain ⟨wl, rfl⟩ : ∃ wl : World, wl = w1 := ⟨_, rfl⟩
  have hkl := hkw.trans hkb
  have g0 := hkb.get d0
  have g1 := hkb.get d1
  replace hFA := hFA.kp hkb
  clear hkb d0 d1
  obtain ⟨m, hml⟩ : ∃ m, m = rows.length := ⟨_, rfl⟩
  rw [← hml] at l0 l1 ⊢
  replace hml := Lib.hid hml
  go_wp2_with fail
  clear hcl
  go_loopw [4, 5] (fun bv iv wr => ∃ (k : Nat) (Ab : Option Addr) (cb : Nat), 1 ≤ k ∧ k ≤ m ∧ iv = .int .i64 k ∧ bv = .slice Ab (bestTo (totF F) rows k).length cb ∧ RowP wr (some w.heap.size) (.slice Ab (bestTo (totF F) rows k).length cb) (bestTo (totF F) rows k) ∧ Kp wl wr) (fun _ iv _ => m - (intOf iv).toNat)
  case atStart => exact ⟨1, A2, c2, by omega, by omega, rfl, by rw [hst.out], by rw [hst.out]; exact hrp.mono hkw.le, Kp.refl _⟩
  case round =>
    obtain ⟨k, Ab, cb, hk1, hk, rfl, rfl, hb, hkr⟩ := hrel
    by_cases hlt : k < m
    · have lx : k < rows.length := by rw [← hml.out]; exact hlt
      obtain ⟨A3, c3, hcl, hc3, hri, hrq⟩ := (hrows.kp hkr).some_ lx
      obtain ⟨Ab', cb', eb, hcb, hbi⟩ := hb.read
      simp only [Value.slice.injEq] at eb
      obtain ⟨rfl, _, rfl⟩ := eb
      have q1 := Lib.hid (Hset.out _ (List.getElem_mem lx))
      have q2 := Lib.hid (HB.out k (Nat.le_of_lt lx))
      have hstep := Lib.hid (bestTo_succ (v := totF F) lx)
      have hkz : Kp wr wr := Kp.refl _
      have z0 := hkr.get g0
      have z1 := hkr.get g1
      have C1 := Lib.hid (fun (wx : World) (hx : Kp wr wx) => l2Total_any _ F A3 rows[k] _ c3 wx (hFA.kp (hkr.trans hx)) (hri.kp hx) rfl HG.out q1.out.1 q1.out.2)
      have C2 := Lib.hid (fun (wx : World) (hx : Kp wr wx) => l2Total_any _ F Ab (bestTo (totF F) rows k) _ cb wx (hFA.kp (hkr.trans hx)) (hbi.kp hx) rfl HG.out q2.out.1 q2.out.2)
      have q_z0 := hkz.get z0
      have q_z1 := hkz.get z1
      have q_hcl := hkz.get hcl
      have tok1 : True := trivial
      go_wp2_with fail
      go_region_held3 (fun w' => w'.cell? ⟨w.heap.size, 0, none⟩ = some (.slice A F.op.length c) ∧ w'.cell? ⟨w.heap.size, 1, none⟩ = some (.slice B F.di.length d) ∧ w'.cell? (ad.add k) = some (.slice A3 rows[k].length c3) ∧ Kp wr w')
        (first | (refine keepc3 z0 z1 hcl ?_; exact (by repeat (first | with_reducible assumption | with_reducible exact Kp.refl _ | with_reducible refine Kp.drew ?_ | with_reducible refine Kp.alloc ?_ _ | with_reducible refine Kp.drewN ?_ _ | refine Kp.setCell ?_ (by dsimp only; omega) _))) | fail)
        (first
          | (have _t := tok1; go_at_call 40; with_reducible refine Calls.mono (C1.out _ (by repeat (first | with_reducible assumption | with_reducible exact Kp.refl _ | with_reducible refine Kp.drew ?_ | with_reducible refine Kp.alloc ?_ _ | with_reducible refine Kp.drewN ?_ _ | refine Kp.setCell ?_ (by dsimp only; omega) _))) ?_; rintro e wr1 ⟨rfl, hka⟩; have hr1 : Kp wr wr1 := Kp.trans (by repeat (first | with_reducible assumption | with_reducible exact Kp.refl _ | with_reducible refine Kp.drew ?_ | with_reducible refine Kp.alloc ?_ _ | with_reducible refine Kp.drewN ?_ _ | refine Kp.setCell ?_ (by dsimp only; omega) _)) hka; have tok2 : True := trivial; clear tok1 _t)
          | (have _t := tok2; go_at_call 40; with_reducible refine Calls.mono (C2.out _ (by repeat (first | with_reducible assumption | with_reducible exact Kp.refl _ | with_reducible refine Kp.drew ?_ | with_reducible refine Kp.alloc ?_ _ | with_reducible refine Kp.drewN ?_ _ | refine Kp.setCell ?_ (by dsimp only; omega) _))) ?_; rintro e wr2 ⟨rfl, hka⟩; have hr2 : Kp wr wr2 := Kp.trans (by repeat (first | with_reducible assumption | with_reducible exact Kp.refl _ | with_reducible refine Kp.drew ?_ | with_reducible refine Kp.alloc ?_ _ | with_reducible refine Kp.drewN ?_ _ | refine Kp.setCell ?_ (by dsimp only; omega) _)) hka; have tok3 : True := trivial; clear tok2 _t)
          | fail)
      have hc4 := hr2.get hcl
      by_cases hlt2 : totF F rows[k] < totF F (bestTo (totF F) rows k)
      · have Hy : Hid (bestTo (totF F) rows (k + 1) = rows[k]) := by show _ = _; rw [hstep.out]; exact if_pos hlt2
        go_wp2_with fail
        go_roundw
        case rel => exact ⟨k + 1, A3, c3, by omega, by omega, by go_num, by rw [Hy.out], by rw [Hy.out]; exact (hrq.mono hkw.le).kp hr2, hkr.trans hr2⟩
        case measure => simp [intOf]; omega
      · have Hy : Hid (bestTo (totF F) rows (k + 1) = bestTo (totF F) rows k) := by show _ = _; rw [hstep.out]; exact if_neg hlt2
        go_wp2_with fail
        go_roundw
        case rel => exact ⟨k + 1, Ab, cb, by omega, by omega, by go_num, by rw [Hy.out], by rw [Hy.out]; exact hb.kp hr2, hkr.trans hr2⟩
        case measure => simp [intOf]; omega
    · obtain rfl : k = m := by omega
      have Hy : Hid (bestTo (totF F) rows k = bestF F) := by show _ = _; rw [Hbe.out, hml.out]; exact bestTo_all _ _
      go_wp2_with fail
      go_ret
      exact ⟨_, rfl, by rw [← Hy.out]; exact hb, hkl.trans hkr⟩
end Go.Proofs.Ytggkhieepjnmdaa

namespace Go.Proofs.Ytggkhieepjnmdaa
open Go.RowKit Go.Sort

def partF (F : Fld) (C : List Int) : Fld := ⟨F.op, C.map fun i => F.di.getD i.toNat []⟩
/-- A set of clients. -/
def crowdB (F : Fld) (C : List Int) : Bool := risB C 0 ((F.di.length : Int) - 1)
theorem crowd_mem {F : Fld} {C : List Int} (h : crowdB F C = true) : ∀ x ∈ C, 0 ≤ x ∧ x < F.di.length := fun x hx => by
  have := (ris_iff.1 h).2 x hx
  omega
theorem crowd_len {F : Fld} {C : List Int} (h : crowdB F C = true) : C.length ≤ F.di.length := by
  have hr := ris_iff.1 h
  have hm := crowd_mem h
  have := bitsL_len F.di.length (bagN C)
  rwa [bits_bag hr.1 hm] at this
theorem part_good {F : Fld} {C : List Int} (hg : goodF F = true) (hc : crowdB F C = true) : goodF (partF F C) = true := by
  have hp := goodF_iff.1 hg
  have hl := crowd_len hc
  refine goodF_iff.2 ⟨hp.1, hp.2.1, by simp [partF]; omega, fun r hr => ?_⟩
  simp only [partF, List.mem_map] at hr
  obtain ⟨i, hi, rfl⟩ := hr
  have hm := crowd_mem hc i hi
  have hk : i.toNat < F.di.length := by omega
  have e : F.di.getD i.toNat [] = F.di[i.toNat] := by simp [List.getD, hk]
  rw [e]
  exact hp.2.2.2 _ (List.getElem_mem hk)
/-- What stands in a cell. -/
def cvAt (p : Addr) (w : World) : Value := (w.cell? p).getD (.slice none 0 0)
theorem cv_of {p : Addr} {w : World} {u : Value} (h : w.cell? p = some u) : cvAt p w = u := by simp [cvAt, h]
theorem cv_is {p : Addr} {w : World} {u : Value} (h : w.cell? p = some u) : w.cell? p = some (cvAt p w) := by rw [cv_of h]; exact h
theorem run_appv {W : World} (ty : TypeId) (base : Nat) (v : Value) (n : Nat) (hs : List Value) (u : Value) (ad : Addr)
    (h1 : W.ownsRow base 22 1 v n hs) (hu : u.oneCell' = true) (hcell : W.cell? ad = some u) (hbase : base ≤ W.heap.size) (hlen : n < 1048576) :
    ∃ v' w', (Builtin.append_ #[23, 23] ty #[v, .slice (some ad) 1 1]).run Try.prog W = .ok v' w' ∧ w'.ownsRow base 22 1 v' (n + 1) (hs ++ [u]) ∧ W.grownBy w' v.ownBlock ∧ (v'.ownBlock = v.ownBlock ∨ ∀ g, v'.ownBlock = some g → W.heap.size ≤ g) ∧ v'.oneCell' = true := by
  obtain ⟨i0, hi, hz0, hz1, hz2⟩ := info_parts infoIntsG
  obtain ⟨v', w', hrun, g2, g3, _, g5⟩ := run_append_own_at (P := Try.prog) W base 23 ty 22 i0 (.slice none 0 0) 1 24 Try.underlying23 hi hz0 hz1 hz2 rfl (by decide) v n hs h1 ad 1 1 [u] rfl (by
      intro j u2 hj
      cases j with
      | zero =>
        have e : u = u2 := by simpa using hj
        have e2 : ad.add 0 = ad := by unfold Addr.add; simp
        rw [e2, ← e]; exact hcell
      | succ j => simp at hj) (by
      intro u2 hu2
      have e : u2 = u := by simpa using hu2
      rw [e]; exact hu) (by unfold maxLen; omega) (by omega) hbase
  refine ⟨v', w', hrun, g2, g3, ?_, ?_⟩
  · rcases g5 with e | e
    · exact .inl e
    · exact .inr (fun g hg => by rw [e] at hg; simp at hg; omega)
  · rcases g2.2 with ⟨rfl, _⟩ | ⟨g, cap, cur, rfl, _⟩ <;> rfl
theorem step_appv {ops : Array Oper} {o : Oper} {a : Act} {K : Act → World → Prop} {Q : Exit → Act → World → Prop} {E : Prop} {W : World} (hgd : o.guard = none) (s x : Operand)
    (ho : o.op = .call { callee := .builtin .append, args := #[s, x], argTypes := #[23, 23] }) (base : Nat) (v : Value) (n : Nat) (hs : List Value) (u : Value) (ad : Addr)
    (hsv : a.eval s = v) (hx : a.eval x = .slice (some ad) 1 1) (h1 : W.ownsRow base 22 1 v n hs) (hu : u.oneCell' = true) (hcell : W.cell? ad = some u) (hbase : base ≤ W.heap.size) (hlen : n < 1048576)
    (h : ∀ g' c' w', w'.ownsRow base 22 1 (.slice (some ⟨g', 0, none⟩) (n + 1) c') (n + 1) (hs ++ [u]) → Turn (fun i => v.ownBlock = some i) W w' → (v.ownBlock = some g' ∨ W.heap.size ≤ g') → K (a.put o.dst (.slice (some ⟨g', 0, none⟩) (n + 1) c')) w') :
    if Region.wanted o (yielded ops a.tmps) = true then Oper.wp Try.prog o a W K Q else E := by
  have hw : Region.wanted o (yielded ops a.tmps) = true := by simp [Region.wanted, hgd]
  rw [if_pos hw]
  obtain ⟨v', w', hrun, h2, h3, h4, _⟩ := run_appv (W := W) o.type base v n hs u ad h1 hu hcell hbase hlen
  unfold Oper.wp execOp
  simp only [ho, resolve, invoke, builtin, Sem.run_bind, Sem.run_pure, Result.andThen_ok, List.map_toArray, List.map_cons, List.map_nil, hsv, hx, hrun]
  rcases id h2.2 with ⟨_, e0⟩ | ⟨g, cap, cur, rfl, _⟩
  · omega
  · refine h g cap w' h2 (Turn.of_grown h3) ?_
    rcases h4 with e | e
    · exact .inl e.symm
    · exact .inr (e g rfl)
theorem wpl_appv {ops : Array Oper} {rest : List Oper} {o : Oper} {a : Act} {Q : Exit → Act → World → Prop} {W : World} (hgd : o.guard = none) (s x : Operand)
    (ho : o.op = .call { callee := .builtin .append, args := #[s, x], argTypes := #[23, 23] }) (base : Nat) (v : Value) (n : Nat) (hs : List Value) (u : Value)
    (hsv : a.eval s = v) (hx : a.eval x = .slice (some ⟨W.heap.size, 0, none⟩) 1 1) (h1 : W.ownsRow base 22 1 v n hs) (hu : u.oneCell' = true) (hbase : base ≤ W.heap.size) (hlen : n < 1048576)
    (h : ∀ g' c' w', w'.ownsRow base 22 1 (.slice (some ⟨g', 0, none⟩) (n + 1) c') (n + 1) (hs ++ [u]) → Turn (fun i => v.ownBlock = some i) W w' → (v.ownBlock = some g' ∨ W.heap.size ≤ g') → wpList Try.prog ops Q rest (a.put o.dst (.slice (some ⟨g', 0, none⟩) (n + 1) c')) w') :
    wpList Try.prog ops Q (o :: rest) a (W.alloc (.cells #[u] 22)) := by
  have hk : Kp W (W.alloc (.cells #[u] 22)) := (Kp.refl W).alloc _
  obtain ⟨v', w', hrun, h2, h3, h4, _⟩ := run_appv (W := W.alloc (.cells #[u] 22)) o.type base v n hs u ⟨W.heap.size, 0, none⟩ (hk.own h1) hu (by rw [World.cell?_alloc_at _ _ _ _ rfl]; rfl) (by simp; omega) hlen
  refine Lib.wpList_append_run _ hgd s x _ _ ho _ _ hsv hx v' w' hrun ?_
  rcases id h2.2 with ⟨_, e0⟩ | ⟨g, cap, cur, rfl, _⟩
  · omega
  · refine h g cap w' h2 ((Turn.of_kp hk).trans (Turn.of_grown h3)) ?_
    rcases h4 with e | e
    · exact .inl e.symm
    · exact .inr (by have := e g rfl; simp at this; omega)
/-- The headers of the rows of the clients, as they stand in the field. -/
def hdrs (w : World) (bd : Addr) (C : List Int) (k : Nat) : List Value := (C.take k).map fun i => cvAt (bd.add i.toNat) w
theorem hdrs_succ {w : World} {bd : Addr} {C : List Int} {k : Nat} (hk : k < C.length) : hdrs w bd C (k + 1) = hdrs w bd C k ++ [cvAt (bd.add (C[k]).toNat) w] := by
  unfold hdrs
  rw [List.take_succ_eq_append_getElem hk, List.map_append]; rfl
theorem hdrs_len (w : World) (bd : Addr) (C : List Int) (k : Nat) (hk : k ≤ C.length) : (hdrs w bd C k).length = k := by
  unfold hdrs; rw [List.length_map, List.length_take]; omega
/-- Behind the loop the headers are the new field's rows. -/
theorem hdrs_grid {w0 w : World} {bd : Addr} {F : Fld} {C : List Int} {base : Nat} {v : Value} (hB : C ≠ [] → GridAt w0 (some bd) F.di) (hk : Kp w0 w) (hc : ∀ x ∈ C, 0 ≤ x ∧ x < F.di.length) (hl : C.length ≤ 7) (h : w.ownsRow base 22 1 v C.length (hdrs w0 bd C C.length)) :
    ∃ A c, v = .slice A (partF F C).di.length c ∧ GridAt w A (partF F C).di := by
  have hlen : (partF F C).di.length = C.length := by simp [partF]
  rcases id h.2 with ⟨rfl, h0⟩ | ⟨g, cap, cur, rfl, _⟩
  · exact ⟨none, 0, by rw [hlen, h0], by rw [hlen]; omega, fun k hk => by rw [hlen, h0] at hk; omega⟩
  · refine ⟨_, cap, by rw [hlen], by rw [hlen]; omega, fun k hk2 => ?_⟩
    rw [hlen] at hk2
    have hm := hc _ (List.getElem_mem hk2)
    have hi : (C[k]).toNat < F.di.length := by omega
    obtain ⟨A, c, e1, e2⟩ := (hB (fun e => by subst e; simp at hk2)).some_ hi
    have e3 : (partF F C).di.getD k [] = F.di[(C[k]).toNat] := by simp [partF, List.getD, hk2, hi]
    have e4 : (hdrs w0 bd C C.length)[k]? = some (.slice A F.di[(C[k]).toNat].length c) := by
      unfold hdrs
      simp [hk2, cv_of e1]
    rw [e3]
    exact ⟨_, A, c, rfl, World.ownsRow.cells h (g := g) rfl k _ e4, e2.kp hk⟩
end Go.Proofs.Ytggkhieepjnmdaa

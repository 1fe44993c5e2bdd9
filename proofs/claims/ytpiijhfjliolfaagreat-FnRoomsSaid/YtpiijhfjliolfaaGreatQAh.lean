/- least and lists: the first row with the least value; the rows of which something is so; lists and most: the sets of which something is so; the one with the greatest gain; HallClients: the program; What a loop over all rows picks, beginning with none; Flows of needs through sites: what both programs find, in plain words; Sums over the first numbers. No condition. -/
import Derived.Test.YtpiijhfjliolfaaGreatQAe
import Derived.Test.YtpiijhfjliolfaaGreatQAf
import Derived.Test.YtpiijhfjliolfaaGreatQAd
import Derived.Test.YtpiijhfjliolfaaGreatQAa
namespace Go.Proofs.YtpiijhfjliolfaaGreat
open Go.RowKit Go.Sort

def bestTo (v : List Int → Int) (rows : List (List Int)) (k : Nat) : List Int := (rows.take k).foldl (bestStep v) (rows.getD 0 [])
theorem bestTo_succ {v : List Int → Int} {rows : List (List Int)} {k : Nat} (hk : k < rows.length) : bestTo v rows (k + 1) = bestStep v (bestTo v rows k) rows[k] := by
  unfold bestTo
  rw [List.take_succ_eq_append_getElem hk, List.foldl_append]; rfl
theorem bestTo_all (v : List Int → Int) (rows : List (List Int)) : bestTo v rows rows.length = bestL v rows := by
  unfold bestTo bestL
  rw [List.take_length]
theorem bestTo_mem {v : List Int → Int} {rows : List (List Int)} (h0 : 0 < rows.length) : ∀ k, k ≤ rows.length → bestTo v rows k ∈ rows
  | 0, _ => by
    have e : rows.getD 0 [] = rows[0] := by simp [List.getD, h0]
    unfold bestTo
    rw [List.take_zero, List.foldl_nil, e]
    exact List.getElem_mem h0
  | k + 1, hk => by
    rw [bestTo_succ (by omega)]
    unfold bestStep
    by_cases h : v rows[k] < v (bestTo v rows k)
    · rw [if_pos h]; exact List.getElem_mem _
    · rw [if_neg h]; exact bestTo_mem h0 k (by omega)
theorem bestL_mem {v : List Int → Int} {rows : List (List Int)} (h0 : 0 < rows.length) : bestL v rows ∈ rows := by
  rw [← bestTo_all]; exact bestTo_mem h0 _ (Nat.le_refl _)
/-- A function value that tells a number of a row. -/
def Val (FN : FuncId) (pre caps : Array Value) (v : List Int → Int) (Q : List Int → Prop) (w : World) : Prop :=
  (∀ (args : Array Value) (w : World), Sem.run Tryz.prog (callFunc FN args) w = .ok (.enter FN args) w) ∧
  ∀ (S : List Int) (Av : Option Addr) (cv : Nat) (w' : World), Kp w w' → Q S → IntsAt w' Av S → S.length ≤ cv → Calls Tryz.prog FN (pre.push (.slice Av S.length cv) ++ caps) w' fun e w'' => e = .returned (.int .i64 (v S)) ∧ Kp w' w''
theorem Val.kp {FN : FuncId} {pre caps : Array Value} {v : List Int → Int} {Q : List Int → Prop} {w w' : World} (h : Val FN pre caps v Q w) (hk : Kp w w') : Val FN pre caps v Q w' :=
  ⟨h.1, fun S Av cv w2 h2 => h.2 S Av cv w2 (hk.trans h2)⟩
/-- A function value that tells whether something is so of a row. -/
def Tells (FN : FuncId) (pre caps : Array Value) (p : List Int → Bool) (Q : List Int → Prop) (w : World) : Prop :=
  (∀ (args : Array Value) (w : World), Sem.run Tryz.prog (callFunc FN args) w = .ok (.enter FN args) w) ∧
  ∀ (S : List Int) (Av : Option Addr) (cv : Nat) (w' : World), Kp w w' → Q S → IntsAt w' Av S → S.length ≤ cv → Calls Tryz.prog FN (pre.push (.slice Av S.length cv) ++ caps) w' fun e w'' => e = .returned (.bool (p S)) ∧ Kp w' w''
theorem Tells.kp {FN : FuncId} {pre caps : Array Value} {p : List Int → Bool} {Q : List Int → Prop} {w w' : World} (h : Tells FN pre caps p Q w) (hk : Kp w w') : Tells FN pre caps p Q w' :=
  ⟨h.1, fun S Av cv w2 h2 => h.2 S Av cv w2 (hk.trans h2)⟩
set_option maxHeartbeats 1000000 in
theorem least_any (FN : FuncId) (pre caps : Array Value) (v : List Int → Int) (Q : List Int → Prop) (lo : Option Nat) (A0 : Option Addr) (rows : List (List Int)) (n c0 : Nat) (w : World) (h : RowsAt w lo A0 rows) (hn : rows.length = n) (h0 : 0 < n) (hv : Val FN pre caps v Q w) (hq : ∀ S ∈ rows, Q S) :
    Calls Tryz.prog 99 #[.slice A0 n c0, .func (.func FN) pre caps] w fun e w' => ∃ u, e = .returned u ∧ RowP w' lo u (bestL v rows) ∧ Kp w w' := by
  have hm : n ≤ 9223372036854775807 := hn ▸ h.1
  have Hn := Lib.hid hn
  have HM := Lib.hid hv
  have HF := hv.1
  have HQ := Lib.hid hq
  have HB := Lib.hid (fun k (hk : k ≤ rows.length) => hq _ (bestTo_mem (v := v) (by omega) k hk))
  have HE := Lib.hid (bestTo_all v rows)
  clear hn hv hq
  have l0 : 0 < rows.length := by rw [Hn.out]; exact h0
  obtain ⟨ad, A2, c2, rfl, hcl, hc2, hri, hrp⟩ := h.at_ l0
  have hz : ad.add 0 = ad := by unfold Addr.add; simp
  rw [hz] at hcl
  have Hs := Lib.hid hrp
  have hst : Hid (bestTo v rows 0 = rows[0]) := by show _ = _; unfold bestTo; simp [List.getD, l0]
  clear hrp hri hz
  go_enter Tryz.func99, Tryz.ntmps99
  go_wp2_with fail
  clear hcl
  go_loopw [5, 13] (fun bv iv wr => ∃ (k : Nat) (Ab : Option Addr) (cb : Nat), k ≤ n ∧ iv = .int .i64 k ∧ bv = .slice Ab (bestTo v rows k).length cb ∧ RowP wr lo (.slice Ab (bestTo v rows k).length cb) (bestTo v rows k) ∧ Kp w wr) (fun _ iv _ => n - (intOf iv).toNat)
  case atStart => exact ⟨0, A2, c2, by omega, rfl, by rw [hst.out], by rw [hst.out]; exact Hs.out, Kp.refl _⟩
  case round =>
    obtain ⟨k, Ab, cb, hk, rfl, rfl, hb, hkb⟩ := hrel
    by_cases hlt : k < n
    · have lx : k < rows.length := by rw [Hn.out]; exact hlt
      obtain ⟨A3, c3, hcl, hc3, hri, hrp⟩ := (h.kp hkb).some_ lx
      obtain ⟨Ab', cb', eb, hcb, hbi⟩ := hb.read
      simp only [Value.slice.injEq] at eb
      obtain ⟨rfl, _, rfl⟩ := eb
      have q1 := Lib.hid (HQ.out _ (List.getElem_mem lx))
      have q2 := Lib.hid (HB.out k (Nat.le_of_lt lx))
      have hstep := Lib.hid (bestTo_succ (v := v) lx)
      go_wp2_with fail
      have CC := Lib.hid (HM.out.2 rows[k] A3 c3 _ hkb q1.out hri hc3)
      with_reducible refine Calls.mono CC.out ?_
      rintro e w1 ⟨rfl, hk1⟩
      clear CC
      replace hkb := hkb.trans hk1
      replace hb := hb.kp hk1
      replace hrp := hrp.kp hk1
      go_wp2_with fail
      have CC := Lib.hid (HM.out.2 (bestTo v rows k) Ab cb _ hkb q2.out (hbi.kp hk1) hcb)
      with_reducible refine Calls.mono CC.out ?_
      rintro e w2 ⟨rfl, hk2⟩
      clear CC
      replace hkb := hkb.trans hk2
      replace hb := hb.kp hk2
      replace hrp := hrp.kp hk2
      by_cases hlt2 : v rows[k] < v (bestTo v rows k)
      · have Hy : Hid (bestTo v rows (k + 1) = rows[k]) := by show _ = _; rw [hstep.out]; exact if_pos hlt2
        go_wp2_with fail
        go_roundw
        case rel => exact ⟨k + 1, A3, c3, by omega, by go_num, by rw [Hy.out], by rw [Hy.out]; exact hrp, hkb⟩
        case measure => simp [intOf]; omega
      · have Hy : Hid (bestTo v rows (k + 1) = bestTo v rows k) := by show _ = _; rw [hstep.out]; exact if_neg hlt2
        go_wp2_with fail
        go_roundw
        case rel => exact ⟨k + 1, Ab, cb, by omega, by go_num, by rw [Hy.out], by rw [Hy.out]; exact hb, hkb⟩
        case measure => simp [intOf]; omega
    · obtain rfl : k = n := by omega
      have Hy : Hid (bestTo v rows k = bestL v rows) := by show _ = _; rw [← HE.out, Hn.out]
      go_wp2_with fail
      go_ret
      exact ⟨_, rfl, by rw [← Hy.out]; exact hb, hkb⟩
end Go.Proofs.YtpiijhfjliolfaaGreat

namespace Go.Proofs.YtpiijhfjliolfaaGreat
open Go.RowKit Go.Sort

/-- All sets of n sites, that without sites first. -/
def allS (n : Nat) : List (List Int) := [] :: setsL n
theorem allS_len (n : Nat) : (allS n).length = 2 ^ n := by
  have := setsL_len n
  have h1 : 1 ≤ 2 ^ n := Nat.one_le_two_pow
  simp only [allS, List.length_cons]; omega
theorem allS_ris {n : Nat} : ∀ S ∈ allS n, risB S 0 ((n : Int) - 1) = true := fun S h => by
  rcases List.mem_cons.1 h with rfl | h
  · rfl
  · exact (mem_setsL.1 h).2
theorem RowsAt.mono {w : World} {b b' : Nat} {A : Option Addr} {rows : List (List Int)} (h : RowsAt w (some b) A rows) (hb : b' ≤ b) : RowsAt w (some b') A rows :=
  ⟨h.1, fun k hk => by obtain ⟨ad, u, e, hc, hp⟩ := h.2 k hk; exact ⟨ad, u, e, hc, hp.mono hb⟩⟩
theorem GOwn.lo_mono {w : World} {b b' base : Nat} {v : Value} {rows : List (List Int)} (h : GOwn w (some b) base v rows) (hb : b' ≤ b) : GOwn w (some b') base v rows := by
  obtain ⟨hs, h1, h2⟩ := h
  exact ⟨hs, h1, fun j hj => by obtain ⟨u, e1, e2, e3⟩ := h2 j hj; exact ⟨u, e1, e2.mono hb, fun _ => e3 (.inr (by simp))⟩⟩
/-- A literal slice of one row. -/
theorem gown_one {w : World} {lo : Option Nat} {base : Nat} {u : Value} {xs : List Int} (hb : base ≤ w.heap.size) (hu : RowP w lo u xs) (hn : xs ≠ [] ∨ lo ≠ none) :
    GOwn (w.alloc (.cells #[u] 24)) lo base (.slice (some ⟨w.heap.size, 0, none⟩) 1 1) [xs] :=
  ⟨[u], World.ownsRow_lit w #[u] 1 hb (by unfold maxLen; omega) (by simp), fun j hj => by
    obtain rfl : j = 0 := by simpa using hj
    refine ⟨u, rfl, hu.kp ((Kp.refl w).alloc _), fun _ g hg e => ?_⟩
    have := hu.lt hn g hg
    have e2 : w.heap.size = g := by simpa [Value.ownBlock] using e
    omega⟩
theorem own_blk' {g' g n c : Nat} (h : (Value.slice (some ⟨g', 0, none⟩) n c).ownBlock = some g) : g' = g := by simpa [Value.ownBlock] using h
theorem GOwn.nil_turn {S : Nat → Prop} {w w' : World} {lo : Option Nat} {base : Nat} {v : Value} (h : GOwn w lo base v []) (ht : Turn S w w') (hn : ∀ g, v.ownBlock = some g → ¬ S g) : GOwn w' lo base v [] := by
  obtain ⟨hs, h1, _⟩ := h
  exact ⟨hs, own_turn h1 ht hn, fun j hj => by simp at hj⟩
theorem RowsAt.turn {S : Nat → Prop} {w w' : World} {b : Nat} {ad : Addr} {rows : List (List Int)} (h : RowsAt w (some b) (some ad) rows) (ht : Turn S w w') (h1 : ¬ S ad.block) (h2 : ∀ g, b ≤ g → ¬ S g) : RowsAt w' (some b) (some ad) rows :=
  ⟨h.1, fun k hk => by
    obtain ⟨ad', u, e, hc, hp⟩ := h.2 k hk
    cases e
    refine ⟨ad, u, rfl, ?_, hp.turn ht (fun _ g hg => h2 g (((hp.2 b rfl).lt g hg).1))⟩
    have hb : (ad.add k).block < w.heap.size := World.block_lt_of_cell? _ _ hc
    rw [blk_add] at hb
    have hbk : w'.heap[(ad.add k).block]? = w.heap[(ad.add k).block]? := by rw [blk_add]; exact ht.block _ hb h1
    rw [World.cell?_of_block hbk]; exact hc⟩
def filTo (p : List Int → Bool) (rows : List (List Int)) (k : Nat) : List (List Int) := (rows.take k).filter p
theorem filTo_yes {p : List Int → Bool} {rows : List (List Int)} {k : Nat} (hk : k < rows.length) (h : p rows[k] = true) : filTo p rows (k + 1) = filTo p rows k ++ [rows[k]] := by
  unfold filTo
  rw [List.take_succ_eq_append_getElem hk, List.filter_append]
  simp [h]
theorem filTo_no {p : List Int → Bool} {rows : List (List Int)} {k : Nat} (hk : k < rows.length) (h : p rows[k] = false) : filTo p rows (k + 1) = filTo p rows k := by
  unfold filTo
  rw [List.take_succ_eq_append_getElem hk, List.filter_append]
  simp [h]
theorem filTo_len (p : List Int → Bool) (rows : List (List Int)) (k : Nat) : (filTo p rows k).length ≤ rows.length := by
  unfold filTo
  exact Nat.le_trans (List.length_filter_le _ _) (by simp; omega)
/-- The rows of a list that owns them lie behind the list's first block, or ahead of it. -/
theorem apart_out {w wl : World} {lo : Nat} {u : Value} {xs : List Int} (h : RowP wl (some (w.heap.size + 1)) u xs) (hlo : lo = w.heap.size) {v : Value} (hv : ∀ g, v.ownBlock = some g → g = lo ∨ wl.heap.size ≤ g) : (xs ≠ [] ∨ some (w.heap.size + 1) ≠ none) → ∀ g, u.ownBlock = some g → v.ownBlock ≠ some g := by
  intro _ g hg e
  have h1 := (h.2 _ rfl).lt g hg
  rcases hv g e with h2 | h2 <;> omega
end Go.Proofs.YtpiijhfjliolfaaGreat

namespace Go.Proofs.YtpiijhfjliolfaaGreat
open Go.RowKit Go.Sort

def wRoom (F : Fld) (rooms C S : List Int) (r : Int) (k : Nat) : Int := roomS rooms (withinTo F C S r k)
theorem roomS_app (xs C D : List Int) : roomS xs (C ++ D) = roomS xs C + roomS xs D := by unfold roomS; rw [List.map_append, List.sum_append]
theorem wRoom_zero (F : Fld) (rooms C S : List Int) (r : Int) : wRoom F rooms C S r 0 = 0 := rfl
theorem wRoom_yes {F : Fld} {rooms C S : List Int} {r : Int} {k : Nat} (hk : k < S.length) (h : nearB F C r S[k] = true) : wRoom F rooms C S r (k + 1) = wRoom F rooms C S r k + numAt rooms S[k] := by
  unfold wRoom
  rw [within_yes hk h, roomS_app]; simp [roomS]
theorem wRoom_no {F : Fld} {rooms C S : List Int} {r : Int} {k : Nat} (hk : k < S.length) (h : nearB F C r S[k] = false) : wRoom F rooms C S r (k + 1) = wRoom F rooms C S r k := by
  unfold wRoom
  rw [within_no hk h]
theorem wRoom_all {F : Fld} {rooms C S : List Int} {r : Int} {k : Nat} (hk : S.length ≤ k) : wRoom F rooms C S r k = roomS rooms (withinL F C S r) := by unfold wRoom; rw [within_all hk]
set_option maxHeartbeats 400000 in
theorem hallClo_any (F : Fld) (r a : Int) (A : Option Addr) (c : Nat) (B : Option Addr) (d : Nat) (p q t : Nat) (w : World) (hf : FldAt w (.agg #[.slice A F.op.length c, .slice B F.di.length d]) F) (x1 : w.cell? ⟨p, 1, none⟩ = some (.slice B F.di.length d)) (y0 : w.cell? ⟨q, 0, none⟩ = some (.int .i64 a)) (z0 : w.cell? ⟨t, 0, none⟩ = some (.int .i64 r))
    (j : Int) (hg : goodF F = true) (j0 : 0 ≤ j) (j1 : j < F.di.length) (a0 : 0 ≤ a) (a1 : a < F.op.length) :
    Calls Tryz.prog 31 #[.int .i64 j, .pointer (some ⟨p, 0, none⟩), .pointer (some ⟨q, 0, none⟩), .pointer (some ⟨t, 0, none⟩)] w fun e w' => e = .returned (.bool (decide (dAt F j.toNat a ≤ r))) ∧ Kp w w' := by
  obtain ⟨A', c', B', d', e, _, hB⟩ := hf
  simp only [Value.agg.injEq, Array.mk.injEq, List.cons.injEq, Value.slice.injEq] at e
  obtain ⟨_, ⟨rfl, _, rfl⟩, _⟩ := e
  obtain ⟨b, rfl⟩ := Int.eq_ofNat_of_zero_le j0
  have hbl : b < F.di.length := by omega
  obtain ⟨bd, A2, c2, rfl, hcr, hr⟩ := hB.at_ hbl
  have hrl := goodRow hg hbl
  obtain ⟨rd, rfl, _⟩ := hr.at_ (k := 0) (by omega)
  have hdc := dCell hbl hr a0 (by omega)
  have z2 : a.toNat < F.di[b].length := by omega
  have HE : Hid (dAt F ((b : Nat) : Int).toNat a = dAt F b a) := rfl
  replace hrl := Lib.hid hrl
  go_enter Tryz.func31, Tryz.ntmps31
  go_wp2_with fail
  go_quiet (fail)
  go_wp2_with fail
  go_ret
  exact ⟨by rw [HE.out]; rfl, (Kp.refl _).drewN nq⟩
theorem wRoom_bd {F : Fld} {rooms C S : List Int} {r : Int} (h : ∀ x ∈ rooms, -20 ≤ x ∧ x ≤ 20) (k : Nat) (hk : k ≤ 7) : -700000 ≤ wRoom F rooms C S r k ∧ wRoom F rooms C S r k ≤ 700000 := by
  unfold wRoom
  exact roomS_bd (M := 20) (by omega) (by omega) h (by have := within_len F C S r k; omega)
set_option maxRecDepth 100000 in
set_option maxHeartbeats 3000000 in
theorem implHc_any (f : Value) (F : Fld) (A1 : Option Addr) (rooms : List Int) (n1 c1 : Nat) (A2 : Option Addr) (needs : List Int) (n2 c2 : Nat) (A3 : Option Addr) (S : List Int) (n3 c3 : Nat) (r : Int) (w : World) (hf : FldAt w f F) (h1 : IntsAt w A1 rooms) (hn1 : rooms.length = n1) (h2 : IntsAt w A2 needs) (hn2 : needs.length = n2) (h3 : IntsAt w A3 S) (hn3 : S.length = n3) :
    Calls Tryz.prog 8 #[f, .slice A1 n1 c1, .slice A2 n2 c2, .slice A3 n3 c3, .int .i64 r] w fun e w' => ∃ v, e = .returned (.tuple #[v, .bool (hcOk F rooms needs S r)]) ∧ Own w' w.heap.size v (hcL F rooms needs S r) ∧ Kp w w' := by
  obtain ⟨A, c, B, d, rfl, hA, hB⟩ := hf
  have hk0 : Kp w ((w.alloc (.cells #[.slice A F.op.length c, .slice B F.di.length d] 27)).alloc (.cells #[.int .i64 r] 3)) := ((Kp.refl w).alloc _).alloc _
  obtain ⟨d0, d1⟩ := box2 w (.slice A F.op.length c) (.slice B F.di.length d) 27
  have hFA := FldAt.kp (show FldAt w (.agg #[.slice A F.op.length c, .slice B F.di.length d]) F from ⟨A, c, B, d, rfl, hA, hB⟩) hk0
  replace d0 := ((Kp.refl _).alloc (.cells #[.int .i64 r] 3)).get d0
  replace d1 := ((Kp.refl _).alloc (.cells #[.int .i64 r] 3)).get d1
  have d2 : ((w.alloc (.cells #[.slice A F.op.length c, .slice B F.di.length d] 27)).alloc (.cells #[.int .i64 r] 3)).cell? ⟨w.heap.size + 1, 0, none⟩ = some (.int .i64 r) := by
    rw [World.cell?_alloc_at _ _ _ _ (by simp)]; rfl
  replace h1 := h1.kp hk0
  replace h2 := h2.kp hk0
  replace h3 := h3.kp hk0
  have Hn1 := Lib.hid hn1; have Hn2 := Lib.hid hn2; have Hn3 := Lib.hid hn3
  clear hA hB hn1 hn2 hn3
  go_enter Tryz.func8, Tryz.ntmps8
  go_wp2_with fail
  generalize (w.alloc (.cells #[.slice A F.op.length c, .slice B F.di.length d] 27)).alloc (.cells #[.int .i64 r] 3) = wb at *
  have hkb : Kp wb wb := Kp.refl _
  have CC := Lib.hid (isHaul_any _ F A1 rooms n1 c1 A2 needs n2 c2 A3 S n3 c3 wb hFA h1 Hn1.out h2 Hn2.out h3 Hn3.out)
  with_reducible refine Calls.mono CC.out ?_
  rintro e w1 ⟨rfl, hk1⟩
  clear CC
  replace hkb := hkb.trans hk1
  cases hg_ : haulB F rooms needs S
  · have Hno : Hid (hcOk F rooms needs S r = false) := by show _ = _; rw [hcOk, hcIn, hg_]; rfl
    have Hnl : Hid (hcL F rooms needs S r = []) := by show _ = _; rw [hcL, hcIn, hg_]; rfl
    clear hg_
    have q_d0 := hkb.get d0
    have q_d1 := hkb.get d1
    have q_d2 := hkb.get d2
    go_wp2_with fail
    go_ret2
    exact ⟨_, by rw [Hno.out]; rfl, by rw [Hnl.out]; exact Own.nil _ _, hk0.trans hkb⟩
  by_cases hr0 : r < 0
  · have Hno : Hid (hcOk F rooms needs S r = false) := by show _ = _; rw [hcOk, hcIn, decide_eq_false (show ¬ 0 ≤ r by omega), Bool.and_false]; rfl
    have Hnl : Hid (hcL F rooms needs S r = []) := by show _ = _; rw [hcL, hcIn, decide_eq_false (show ¬ 0 ≤ r by omega), Bool.and_false]; rfl
    clear hg_
    have q_d0 := hkb.get d0
    have q_d1 := hkb.get d1
    have q_d2 := hkb.get d2
    go_wp2_with fail
    go_ret2
    exact ⟨_, by rw [Hno.out]; rfl, by rw [Hnl.out]; exact Own.nil _ _, hk0.trans hkb⟩
  have Hin : Hid (hcIn F rooms needs S r = true) := by show _ = _; rw [hcIn, hg_, decide_eq_true (show 0 ≤ r by omega)]; rfl
  have HP := Lib.hid (haulB_iff.1 hg_)
  have HO := Lib.hid (openedB_parts HP.out.1)
  have HG := Lib.hid (goodF_iff.1 HO.out.1)
  have hd7 := HG.out.2.2.1
  have hs7 := HG.out.1.2
  have HS := Lib.hid (set_mem HO.out.2.1)
  have hn3b : n3 ≤ 7 := by have := risB_len HO.out.2.1; have := Hn3.out; omega
  have Hov : Hid (hcL F rooms needs S r = hcV F rooms needs S r) := by show _ = _; rw [hcL, Hin.out, if_pos rfl]
  have Hok : Hid (hcOk F rooms needs S r = !(hcV F rooms needs S r).isEmpty) := by show _ = _; rw [hcOk, Hin.out]; rfl
  clear hg_
  have q_d0 := hkb.get d0
  have q_d1 := hkb.get d1
  have q_d2 := hkb.get d2
  go_wp2_with fail
  have CC := Lib.hid (sets_any F.di.length w1 hd7)
  with_reducible refine Calls.mono CC.out ?_
  rintro e w2 ⟨v, rfl, hvn, hgo, hk2⟩
  clear CC q_d0 q_d1 q_d2
  replace hkb := hkb.trans hk2
  have hsl : (setsL F.di.length).length ≤ 127 := by rw [setsL_len]; have h128 : 2 ^ F.di.length ≤ 2 ^ 7 := Nat.pow_le_pow_right (by omega) hd7; omega
  obtain ⟨ad, cx, hve, hcx, hrows⟩ := hgo.rows_some (by omega) hvn
  subst hve
  clear hgo hvn
  have hw1le := (hk0.trans hk1).le
  obtain ⟨rows, hre⟩ : ∃ rows, rows = setsL F.di.length := ⟨_, rfl⟩
  rw [← hre] at hrows hcx hsl ⊢
  have Hfind : Hid (hcV F rooms needs S r = (rows.find? (hallB F rooms needs S r)).getD []) := by show _ = _; rw [hre]; rfl
  have Hset : Hid (∀ C ∈ rows, (∀ x ∈ C, 0 ≤ x ∧ x < F.di.length) ∧ C ≠ [] ∧ C.length ≤ 7) := by
    show ∀ C ∈ rows, _
    rw [hre]
    intro C hC
    have h := mem_setsL.1 hC
    refine ⟨fun x hx => ?_, h.1, ?_⟩
    · have := (ris_iff.1 h.2).2 x hx; omega
    · have := risB_len h.2; omega
  obtain ⟨m, hml⟩ : ∃ m, m = rows.length := ⟨_, rfl⟩
  rw [← hml] at hsl ⊢
  replace hml := Lib.hid hml
  clear hre
  have g0 := hkb.get d0
  have g1 := hkb.get d1
  have g2 := hkb.get d2
  have hFl := hFA.kp hkb
  have h1l := h1.kp hkb
  have h2l := h2.kp hkb
  have h3l := h3.kp hkb
  have hkl := hk0.trans hkb
  obtain ⟨wl, rfl⟩ : ∃ wl : World, wl = w2 := ⟨_, rfl⟩
  clear hkb d0 d1 d2 hFA h1 h2 h3 hk0 hk1 hk2
  go_wp2_with fail
  go_loopw [34] (fun iv wr => ∃ k : Nat, k ≤ m ∧ iv = .int .i64 k ∧ Hid (∀ x ∈ rows.take k, hallB F rooms needs S r x = false) ∧ Kp wl wr) (fun iv _ => m - (intOf iv).toNat)
  case atStart => exact ⟨0, by omega, rfl, by show ∀ x ∈ rows.take 0, _; simp, Kp.refl _⟩
  case round =>
    obtain ⟨j, hj, rfl, Hp, hkr⟩ := hrel
    obtain ⟨wo, rfl⟩ : ∃ wo : World, wo = wr := ⟨_, rfl⟩
    by_cases hlt : j < m
    · have lx : j < rows.length := by rw [← hml.out]; exact hlt
      obtain ⟨A4, c4, hcl, hc4, hri, hrq⟩ := (hrows.kp hkr).some_ lx
      have q1 := Lib.hid (Hset.out _ (List.getElem_mem lx))
      have HHb : Hid (hallB F rooms needs S r rows[j] = decide (roomS rooms (withinL F rows[j] S r) < roomS needs rows[j])) := rfl
      have Htk : Hid (∀ (hno : hallB F rooms needs S r rows[j] = false), ∀ x ∈ rows.take (j + 1), hallB F rooms needs S r x = false) := by
        show ∀ (hno : _), _
        intro hno x hx
        rw [List.take_succ_eq_append_getElem lx, List.mem_append] at hx
        rcases hx with hx | hx
        · exact Hp.out x hx
        · have e : x = rows[j] := by simpa using hx
          rw [e]; exact hno
      have Hfd : Hid (hallB F rooms needs S r rows[j] = true → hcV F rooms needs S r = rows[j]) := by
        show _ → _
        intro hy
        rw [Hfind.out, find_at lx Hp.out hy]; rfl
      go_wp2_with fail
      clear hcl
      obtain ⟨C, hC⟩ : ∃ C, C = rows[j] := ⟨_, rfl⟩
      rw [← hC] at hc4 hri hrq q1 HHb Htk Hfd ⊢
      obtain ⟨nC, hnC⟩ : ∃ nC, nC = C.length := ⟨_, rfl⟩
      rw [← hnC] at hc4 hrq ⊢
      have hnC7 : nC ≤ 7 := by rw [hnC]; exact q1.out.2.2
      replace hnC := Lib.hid hnC.symm
      have hnd : ∀ x ∈ needs, -5 ≤ x ∧ x ≤ 5 := fun x hx => by have := HP.out.2.2.1 x hx; omega
      have hrd : ∀ x ∈ rooms, -20 ≤ x ∧ x ≤ 20 := fun x hx => by have := HP.out.2.1.1 x hx; omega
      have HB := Lib.hid (fun k (hk : k ≤ C.length) => roomTo_bd (C := C) (M := 5) (by omega) (by omega) hnd k hk)
      have HN := Lib.hid (fun a => numAt_bd (M := 5) (by omega) hnd a)
      have HW := Lib.hid (fun k (hk : k ≤ 7) => wRoom_bd (F := F) (C := C) (S := S) (r := r) hrd k hk)
      have HM := Lib.hid (fun a => numAt_bd (M := 20) (by omega) hrd a)
      clear hnd hrd hC
      go_loop [14, 40] (fun sv iv => ∃ q : Nat, q ≤ nC ∧ iv = .int .i64 q ∧ sv = .int .i64 (roomTo needs C q)) (fun _ iv => nC - (intOf iv).toNat)
      case atStart => exact ⟨0, by omega, rfl, rfl⟩
      case round =>
        obtain ⟨q, hq, rfl, rfl⟩ := hrel
        by_cases hlq : q < nC
        · have lq : q < C.length := by rw [hnC.out]; exact hlq
          obtain ⟨sd, rfl, hck⟩ := hri.at_ lq
          obtain ⟨ha0, ha1⟩ := q1.out.1 _ (List.getElem_mem lq)
          replace ha1 : C[q] < (n2 : Int) := by have := HP.out.2.2.2; have := Hn2.out; omega
          obtain ⟨rd, rfl, _⟩ := (h2l.kp hkr).at_ (k := 0) (by rw [Hn2.out]; omega)
          have hnc := numCell (h2l.kp hkr) ha0 (by rw [Hn2.out]; exact ha1)
          have hsu := Lib.hid (roomTo_succ (xs := needs) lq)
          obtain ⟨b1, b2⟩ := HB.out q (Nat.le_of_lt lq)
          obtain ⟨b3, b4⟩ := HN.out C[q]
          generalize numAt needs C[q] = x at *
          generalize roomTo needs C q = p at *
          go_wp2_with fail
          go_round
          case rel => exact ⟨q + 1, by omega, by go_num, by rw [hsu.out] <;> go_num⟩
          case measure => simp [intOf]; omega
        · have HT : Hid (roomTo needs C q = roomS needs C) := roomTo_all (by rw [hnC.out]; omega)
          obtain ⟨b1, b2⟩ := HB.out q (by rw [hnC.out]; omega)
          generalize roomTo needs C q = T at *
          go_wp2_with fail
          go_loopw [14, 53] (fun sv iv wr => ∃ p : Nat, p ≤ n3 ∧ iv = .int .i64 p ∧ sv = .int .i64 (T - wRoom F rooms C S r p) ∧ Kp wo wr) (fun _ iv _ => n3 - (intOf iv).toNat)
          case atStart => exact ⟨0, by omega, rfl, by rw [wRoom_zero, Int.sub_zero], Kp.refl _⟩
          case round =>
            obtain ⟨p, hp, rfl, rfl, hkp⟩ := hrel
            obtain ⟨u1, u2⟩ := HW.out p (by omega)
            by_cases hlp : p < n3
            · have lp : p < S.length := by rw [Hn3.out]; exact hlp
              obtain ⟨sd, rfl, hsc⟩ := ((h3l.kp hkr).kp hkp).at_ lp
              obtain ⟨z0, z1⟩ := HS.out _ (List.getElem_mem lp)
              obtain ⟨u3, u4⟩ := HM.out S[p]
              have z2 : S[p] < (n1 : Int) := by have := HP.out.2.1.2; have := Hn1.out; omega
              obtain ⟨rd, rfl, _⟩ := ((h1l.kp hkr).kp hkp).at_ (k := 0) (by rw [Hn1.out]; omega)
              have hnr := numCell ((h1l.kp hkr).kp hkp) z0 (by rw [Hn1.out]; exact z2)
              have hka := (Kp.refl wr).alloc (.cells #[.int .i64 S[p]] 3)
              have u9 : (wr.alloc (.cells #[.int .i64 S[p]] 3)).cell? ⟨wr.heap.size, 0, none⟩ = some (.int .i64 S[p]) := by
                rw [World.cell?_alloc_at _ _ _ _ rfl]; rfl
              have hkv := hkr.trans (hkp.trans hka)
              have hrv := hri.kp (hkp.trans hka)
              have hnv := hka.get hnr
              have hcf := callFunc_of Tryz.func31 (by kernel_rfl) (by kernel_rfl)
              go_wp2_with fail
              generalize wr.alloc (.cells #[.int .i64 S[p]] 3) = wv at *
              have C0 := containsFunc_any 31 #[.pointer (some ⟨w.heap.size, 0, none⟩), .pointer (some ⟨wr.heap.size, 0, none⟩), .pointer (some ⟨w.heap.size + 1, 0, none⟩)] (fun x => decide (dAt F x.toNat S[p] ≤ r)) A4 C nC c4 wv hrv hnC.out hcf
                (fun k hk w' hk' => hallClo_any F r S[p] A c B d _ _ _ w' (hFl.kp (hkv.trans hk')) ((hkv.trans hk').get g1) (hk'.get u9) ((hkv.trans hk').get g2) C[k] HO.out.1 (q1.out.1 _ (List.getElem_mem hk)).1 (q1.out.1 _ (List.getElem_mem hk)).2 z0 z1)
              rw [show (C.any fun x => decide (dAt F x.toNat S[p] ≤ r)) = nearB F C r S[p] from rfl] at C0
              have CC := Lib.hid C0
              clear C0
              with_reducible refine Calls.mono CC.out ?_
              rintro e w5 ⟨rfl, hk5⟩
              clear CC hcf hrv
              have v9 := hk5.get u9
              have vr := hk5.get hnv
              have hkn := hkp.trans (hka.trans hk5)
              cases hnb : nearB F C r S[p]
              · have hsu := Lib.hid (wRoom_no (rooms := rooms) lp hnb)
                clear hnb
                go_wp2_with fail
                go_roundw
                case rel => exact ⟨p + 1, by omega, by go_num, by rw [hsu.out], hkn⟩
                case measure => simp [intOf]; omega
              · have hsu := Lib.hid (wRoom_yes (rooms := rooms) lp hnb)
                clear hnb
                generalize numAt rooms S[p] = x at *
                generalize wRoom F rooms C S r p = W at *
                go_wp2_with fail
                go_roundw
                case rel => exact ⟨p + 1, by omega, by go_num, by rw [hsu.out] <;> go_num, hkn⟩
                case measure => simp [intOf]; omega
            · have HWa : Hid (wRoom F rooms C S r p = roomS rooms (withinL F C S r)) := wRoom_all (by rw [Hn3.out]; omega)
              generalize wRoom F rooms C S r p = W at *
              by_cases hgt : 0 < T - W
              · have Hy : Hid (hallB F rooms needs S r C = true) := by show _ = _; rw [HHb.out, ← HWa.out, ← HT.out]; exact decide_eq_true (by omega)
                have He := Lib.hid (Hfd.out Hy.out)
                have He2 : Hid (hcOk F rooms needs S r = true) := by
                  show _ = _
                  rw [Hok.out, He.out]
                  have := q1.out.2.1
                  cases h : C with
                  | nil => exact absurd h this
                  | cons a t => rfl
                go_wp2_with fail
                go_ret2
                exact ⟨_, by rw [He2.out]; rfl, by rw [Hov.out, He.out]; exact (((hrq.kp hkp).2 _ rfl).mono hw1le), hkl.trans (hkr.trans hkp)⟩
              · have Hno : Hid (hallB F rooms needs S r C = false) := by show _ = _; rw [HHb.out, ← HWa.out, ← HT.out]; exact decide_eq_false (by omega)
                have Hy := Lib.hid (Htk.out Hno.out)
                go_wp2_with fail
                go_roundw
                case rel => exact ⟨j + 1, by omega, by go_num, Hy, hkr.trans hkp⟩
                case measure => simp [intOf]; omega
    · have He : Hid (hcV F rooms needs S r = []) := by
        show _ = _
        have h := Hp.out
        rw [List.take_of_length_le (by rw [← hml.out]; omega)] at h
        rw [Hfind.out, find_no h]; rfl
      have He2 : Hid (hcOk F rooms needs S r = false) := by show _ = _; rw [Hok.out, He.out]; rfl
      go_wp2_with fail
      go_ret2
      exact ⟨_, by rw [He2.out]; rfl, by rw [Hov.out, He.out]; exact Own.nil _ _, hkl.trans hkr⟩
end Go.Proofs.YtpiijhfjliolfaaGreat

namespace Go.Proofs.YtpiijhfjliolfaaGreat
open Go.RowKit Go.Sort

/-- What a loop over all rows picks, beginning with none: the best of those that pass, if any passes and every row is less than none. -/
def pk0 (p : List Int → Bool) (v : List Int → Int) (rows : List (List Int)) (k : Nat) : List Int := (rows.take k).foldl (fun b s => if p s = true then bestStep v b s else b) []
theorem pk0_zero (p : List Int → Bool) (v : List Int → Int) (rows : List (List Int)) : pk0 p v rows 0 = [] := rfl
theorem pk0_yes {p : List Int → Bool} {v : List Int → Int} {rows : List (List Int)} {k : Nat} (hk : k < rows.length) (h : p rows[k] = true) (h2 : v rows[k] < v (pk0 p v rows k)) : pk0 p v rows (k + 1) = rows[k] := by
  unfold pk0 at *
  rw [List.take_succ_eq_append_getElem hk, List.foldl_append]
  simp only [List.foldl_cons, List.foldl_nil, h, if_true, bestStep]
  exact if_pos h2
theorem pk0_no {p : List Int → Bool} {v : List Int → Int} {rows : List (List Int)} {k : Nat} (hk : k < rows.length) (h : ¬ (p rows[k] = true ∧ v rows[k] < v (pk0 p v rows k))) : pk0 p v rows (k + 1) = pk0 p v rows k := by
  unfold pk0 at *
  rw [List.take_succ_eq_append_getElem hk, List.foldl_append]
  simp only [List.foldl_cons, List.foldl_nil]
  by_cases hp : p rows[k] = true
  · rw [if_pos hp]; unfold bestStep; exact if_neg (fun h2 => h ⟨hp, h2⟩)
  · rw [if_neg hp]
theorem pk0_fil {p : List Int → Bool} {v : List Int → Int} : ∀ (rows : List (List Int)) (b : List Int), rows.foldl (fun b s => if p s = true then bestStep v b s else b) b = (rows.filter p).foldl (bestStep v) b
  | [], _ => rfl
  | s :: t, b => by
    simp only [List.foldl_cons]
    by_cases hp : p s = true
    · rw [if_pos hp, List.filter_cons_of_pos hp, List.foldl_cons, pk0_fil t]
    · rw [if_neg hp, List.filter_cons_of_neg (by simpa using hp), pk0_fil t]
theorem pk0_all {p : List Int → Bool} {v : List Int → Int} {rows : List (List Int)} (h : ∀ s ∈ rows, v s < v []) : pk0 p v rows rows.length = bestL v (rows.filter p) := by
  unfold pk0 bestL
  rw [List.take_length, pk0_fil]
  cases hf : rows.filter p with
  | nil => rfl
  | cons a t =>
    have ha : a ∈ rows := (List.mem_filter.1 (hf ▸ List.mem_cons_self : a ∈ rows.filter p)).1
    have e1 : bestStep v [] a = a := if_pos (h a ha)
    have e2 : bestStep v a a = a := if_neg (by omega)
    simp only [List.getD_cons_zero, List.foldl_cons, e1, e2]
theorem pk0_mem {p : List Int → Bool} {v : List Int → Int} {rows : List (List Int)} : ∀ k, k ≤ rows.length → pk0 p v rows k = [] ∨ pk0 p v rows k ∈ rows
  | 0, _ => .inl rfl
  | k + 1, hk => by
    by_cases h : p (rows[k]'(by omega)) = true ∧ v (rows[k]'(by omega)) < v (pk0 p v rows k)
    · rw [pk0_yes (by omega) h.1 h.2]; exact .inr (List.getElem_mem _)
    · rw [pk0_no (by omega) h]; exact pk0_mem k (by omega)
end Go.Proofs.YtpiijhfjliolfaaGreat

namespace Go.Proofs.YtpiijhfjliolfaaGreat
open Go.RowKit Go.Sort

theorem sumTo_pos {g : Nat → Int} {K : Nat} (h : ∀ i, i < K → 0 ≤ g i) : ∀ k, k ≤ K → 0 ≤ sumTo g k
  | 0, _ => by simp [sumTo_zero]
  | k + 1, hk => by
    have h1 := sumTo_pos h k (by omega)
    have h2 := h k (by omega)
    rw [sumTo_succ]; omega
theorem sumTo_le {g : Nat → Int} {K : Nat} (h : ∀ i, i < K → 0 ≤ g i) {k : Nat} : ∀ m, k ≤ m → m ≤ K → sumTo g k ≤ sumTo g m
  | 0, hk, _ => by obtain rfl : k = 0 := by omega
                   exact Int.le_refl _
  | m + 1, hk, hm => by
    by_cases e : k = m + 1
    · subst e; exact Int.le_refl _
    · have h1 := sumTo_le (k := k) h m (by omega) (by omega)
      have h2 := h m (by omega)
      rw [sumTo_succ]; omega
theorem sumTo_lget (xs : List Int) : sumTo (lget xs) xs.length = xs.sum := by
  unfold sumTo mapTo
  congr 1
  apply List.ext_getElem
  · simp
  · intro i hi hi2
    simp [lget, List.getD, hi2]
theorem sum_small {xs : List Int} {M : Int} (h : ∀ x ∈ xs, 0 ≤ x ∧ x ≤ M) : ∀ k, k ≤ xs.length → 0 ≤ (xs.take k).sum ∧ (xs.take k).sum ≤ k * M
  | 0, _ => by simp
  | k + 1, hk => by
    have h1 := sum_small h k (by omega)
    have h2 := h _ (List.getElem_mem (show k < xs.length by omega))
    rw [List.take_succ_eq_append_getElem (show k < xs.length by omega), List.sum_append]
    simp only [List.sum_cons, List.sum_nil]
    have h3 : ((k + 1 : Nat) : Int) * M = k * M + M := by rw [Int.natCast_add, Int.add_mul]; simp
    omega

/-- Row j of a flow, its number for site a, and what is sent to site a by the first clients. -/
def flAt (flow : List (List Int)) (j a : Nat) : Int := lget (flow.getD j []) a
def colS (flow : List (List Int)) (a k : Nat) : Int := sumTo (fun j => flAt flow j a) k
def flHas (S : List Int) (a : Nat) : Bool := S.any fun y => y == (a : Int)
def flCell (need : Int) (S : List Int) (x : Int) (a : Nat) : Bool := inB x 0 need && !(decide (0 < x) && !flHas S a)
def flCells (need : Int) (S row : List Int) (k : Nat) : Bool := (List.range k).all fun a => flCell need S (lget row a) a
def flRow (n : Nat) (need : Int) (S row : List Int) : Bool := flCells need S row row.length && (decide (row.length = n) && decide (row.sum = need))
def flRows (n : Nat) (needs S : List Int) (flow : List (List Int)) (k : Nat) : Bool := (List.range k).all fun j => flRow n (lget needs j) S (flow.getD j [])
def flCols (rooms : List Int) (flow : List (List Int)) (k : Nat) : Bool := (List.range k).all fun a => decide (colS flow a flow.length ≤ lget rooms a)
def flowB (F : Fld) (rooms needs S : List Int) (flow : List (List Int)) : Bool :=
  decide (flow.length = F.di.length) && (flRows F.op.length needs S flow flow.length && flCols rooms flow F.op.length)
theorem flCell_iff {need : Int} {S : List Int} {x : Int} {a : Nat} : flCell need S x a = true ↔ 0 ≤ x ∧ x ≤ need ∧ (0 < x → flHas S a = true) := by
  unfold flCell
  rw [Bool.and_eq_true, inB_iff]
  by_cases hx : 0 < x <;> cases hf : flHas S a <;> simp [hx]
theorem flCells_iff {need : Int} {S row : List Int} {k : Nat} : flCells need S row k = true ↔ ∀ a, a < k → 0 ≤ lget row a ∧ lget row a ≤ need ∧ (0 < lget row a → flHas S a = true) := by
  unfold flCells
  rw [List.all_eq_true]
  constructor
  · intro h a ha; exact flCell_iff.1 (h a (List.mem_range.2 ha))
  · intro h a ha; exact flCell_iff.2 (h a (List.mem_range.1 ha))
theorem flRow_iff {n : Nat} {need : Int} {S row : List Int} : flRow n need S row = true ↔ row.length = n ∧ (∀ a, a < n → 0 ≤ lget row a ∧ lget row a ≤ need ∧ (0 < lget row a → flHas S a = true)) ∧ sumTo (lget row) n = need := by
  unfold flRow
  rw [Bool.and_eq_true, Bool.and_eq_true, decide_eq_true_eq, decide_eq_true_eq, flCells_iff, ← sumTo_lget]
  constructor
  · rintro ⟨h1, rfl, h3⟩; exact ⟨rfl, h1, h3⟩
  · rintro ⟨rfl, h1, h3⟩; exact ⟨h1, rfl, h3⟩
theorem flRows_iff {n : Nat} {needs S : List Int} {flow : List (List Int)} {k : Nat} : flRows n needs S flow k = true ↔ ∀ j, j < k → flRow n (lget needs j) S (flow.getD j []) = true := by
  unfold flRows
  rw [List.all_eq_true]
  exact ⟨fun h j hj => h j (List.mem_range.2 hj), fun h j hj => h j (List.mem_range.1 hj)⟩
theorem flRows_succ {n : Nat} {needs S : List Int} {flow : List (List Int)} {k : Nat} : flRows n needs S flow (k + 1) = (flRows n needs S flow k && flRow n (lget needs k) S (flow.getD k [])) := by
  unfold flRows; rw [List.range_succ, List.all_append]; simp
theorem flCols_iff {rooms : List Int} {flow : List (List Int)} {k : Nat} : flCols rooms flow k = true ↔ ∀ a, a < k → colS flow a flow.length ≤ lget rooms a := by
  unfold flCols
  rw [List.all_eq_true]
  exact ⟨fun h j hj => by simpa using h j (List.mem_range.2 hj), fun h j hj => by simpa using h j (List.mem_range.1 hj)⟩
theorem flCols_succ {rooms : List Int} {flow : List (List Int)} {k : Nat} : flCols rooms flow (k + 1) = (flCols rooms flow k && decide (colS flow k flow.length ≤ lget rooms k)) := by
  unfold flCols; rw [List.range_succ, List.all_append]; simp
theorem flCells_succ {need : Int} {S row : List Int} {k : Nat} : flCells need S row (k + 1) = (flCells need S row k && flCell need S (lget row k) k) := by
  unfold flCells; rw [List.range_succ, List.all_append]; simp
theorem colS_succ (flow : List (List Int)) (a k : Nat) : colS flow a (k + 1) = colS flow a k + flAt flow k a := sumTo_succ _ _
/-- The three ways in which lists are no flow. -/
theorem flow_len {F : Fld} {rooms needs S : List Int} {flow : List (List Int)} (h : flow.length ≠ F.di.length) : flowB F rooms needs S flow = false := by simp [flowB, h]
theorem flow_row {F : Fld} {rooms needs S : List Int} {flow : List (List Int)} {j : Nat} (hj : j < flow.length) (h : flRow F.op.length (lget needs j) S (flow.getD j []) = false) : flowB F rooms needs S flow = false := by
  cases hb : flowB F rooms needs S flow
  · rfl
  · simp only [flowB, Bool.and_eq_true, decide_eq_true_eq] at hb
    rw [flRows_iff.1 hb.2.1 j hj] at h; exact absurd h (by simp)
theorem flow_col {F : Fld} {rooms needs S : List Int} {flow : List (List Int)} {a : Nat} (ha : a < F.op.length) (h : ¬ colS flow a flow.length ≤ lget rooms a) : flowB F rooms needs S flow = false := by
  cases hb : flowB F rooms needs S flow
  · rfl
  · simp only [flowB, Bool.and_eq_true, decide_eq_true_eq] at hb
    exact absurd (flCols_iff.1 hb.2.2 a ha) h
theorem flow_yes {F : Fld} {rooms needs S : List Int} {flow : List (List Int)} (h1 : flow.length = F.di.length) (h2 : flRows F.op.length needs S flow flow.length = true) (h3 : flCols rooms flow F.op.length = true) : flowB F rooms needs S flow = true := by
  simp [flowB, h1, h3]; rw [← h1]; exact h2
theorem flow_parts {F : Fld} {rooms needs S : List Int} {flow : List (List Int)} (h : flowB F rooms needs S flow = true) : flow.length = F.di.length ∧ (∀ j, j < flow.length → flRow F.op.length (lget needs j) S (flow.getD j []) = true) ∧ ∀ a, a < F.op.length → colS flow a flow.length ≤ lget rooms a := by
  simp only [flowB, Bool.and_eq_true, decide_eq_true_eq] at h
  exact ⟨h.1, flRows_iff.1 h.2.1, flCols_iff.1 h.2.2⟩
theorem flAt_pos {n : Nat} {needs S : List Int} {flow : List (List Int)} {j a : Nat} (h : flRow n (lget needs j) S (flow.getD j []) = true) (ha : a < n) : 0 ≤ flAt flow j a ∧ flAt flow j a ≤ lget needs j := by
  have := (flRow_iff.1 h).2.1 a ha
  exact ⟨this.1, this.2.1⟩
theorem col_bd {n : Nat} {needs S : List Int} {flow : List (List Int)} {a : Nat} (hn : ∀ j, lget needs j ≤ 5) (ha : a < n) : ∀ k, flRows n needs S flow k = true → 0 ≤ colS flow a k ∧ colS flow a k ≤ k * 5
  | 0, _ => by simp [colS, sumTo_zero]
  | k + 1, h => by
    rw [flRows_succ, Bool.and_eq_true] at h
    have h1 := col_bd hn ha k h.1
    have h2 := flAt_pos h.2 ha
    have h3 := hn k
    rw [colS_succ]; omega
/-- What is used when client k has sent to the first a sites. -/
def usedL (flow : List (List Int)) (n k a : Nat) : List Int := (List.range n).map fun b => if b < a then colS flow b (k + 1) else colS flow b k
theorem usedL_len (flow : List (List Int)) (n k a : Nat) : (usedL flow n k a).length = n := by simp [usedL]
theorem usedL_zero (flow : List (List Int)) (n : Nat) : usedL flow n 0 0 = List.replicate n 0 := by
  unfold usedL
  apply List.ext_getElem
  · simp
  · intro i h1 h2; simp [colS, sumTo_zero]
theorem usedL_end (flow : List (List Int)) (n k : Nat) : usedL flow n k n = usedL flow n (k + 1) 0 := by
  unfold usedL
  apply List.map_congr_left
  intro b hb
  have := List.mem_range.1 hb
  simp [this]
theorem usedL_at (flow : List (List Int)) {n k a : Nat} (ha : a < n) (a0 : Nat) (h0 : a0 ≤ a) : lget (usedL flow n k a0) a = colS flow a k := by
  rw [lget_at (by rw [usedL_len]; exact ha)]
  simp [usedL]; omega
theorem usedL_set (flow : List (List Int)) {n k a : Nat} : (usedL flow n k a).set a (colS flow a k + flAt flow k a) = usedL flow n k (a + 1) := by
  apply List.ext_getElem
  · simp [usedL]
  · intro i h1 h2
    rw [List.getElem_set]
    by_cases e : a = i
    · subst e; simp [usedL, colS_succ]
    · simp only [if_neg e, usedL, List.getElem_map, List.getElem_range]
      by_cases hl : i < a
      · rw [if_pos hl, if_pos (by omega)]
      · rw [if_neg hl, if_neg (by omega)]
/-- What is left of the rooms then. -/
def leftL (rooms : List Int) (flow : List (List Int)) (n k a : Nat) : List Int := (List.range n).map fun b => lget rooms b - (if b < a then colS flow b (k + 1) else colS flow b k)
theorem leftL_len (rooms : List Int) (flow : List (List Int)) (n k a : Nat) : (leftL rooms flow n k a).length = n := by simp [leftL]
theorem leftL_zero {rooms : List Int} {flow : List (List Int)} {n : Nat} (h : rooms.length = n) : leftL rooms flow n 0 0 = rooms := by
  unfold leftL
  apply List.ext_getElem
  · simp [h]
  · intro i h1 h2; simp [colS, sumTo_zero, lget, List.getD, h2]
theorem leftL_end (rooms : List Int) (flow : List (List Int)) (n k : Nat) : leftL rooms flow n k n = leftL rooms flow n (k + 1) 0 := by
  unfold leftL
  apply List.map_congr_left
  intro b hb
  have := List.mem_range.1 hb
  simp [this]
theorem leftL_at (rooms : List Int) (flow : List (List Int)) {n k a : Nat} (ha : a < n) : lget (leftL rooms flow n k a) a = lget rooms a - colS flow a k := by
  rw [lget_at (by rw [leftL_len]; exact ha)]
  simp [leftL]
theorem leftL_set (rooms : List Int) (flow : List (List Int)) {n k a : Nat} : (leftL rooms flow n k a).set a (lget rooms a - colS flow a k - flAt flow k a) = leftL rooms flow n k (a + 1) := by
  apply List.ext_getElem
  · simp [leftL]
  · intro i h1 h2
    rw [List.getElem_set]
    by_cases e : a = i
    · subst e; simp [leftL, colS_succ]; omega
    · simp only [if_neg e, leftL, List.getElem_map, List.getElem_range]
      by_cases hl : i < a
      · rw [if_pos hl, if_pos (by omega)]
      · rw [if_neg hl, if_neg (by omega)]
/-- The program's state: all rows before are rows of a flow, the first numbers of this row are good, no site has more than its rooms. -/
structure flSt (F : Fld) (rooms needs S : List Int) (flow : List (List Int)) (k a : Nat) : Prop where
  rows : flRows F.op.length needs S flow k = true
  cells : ∀ b, b < a → 0 ≤ flAt flow k b ∧ flAt flow k b ≤ lget needs k ∧ (0 < flAt flow k b → flHas S b = true)
  sum : sumTo (flAt flow k) a ≤ lget needs k
  room : ∀ b, b < F.op.length → (if b < a then colS flow b (k + 1) else colS flow b k) ≤ lget rooms b
theorem flSt_first {F : Fld} {rooms needs S : List Int} {flow : List (List Int)} (h0 : ∀ a, 0 ≤ lget rooms a) (h1 : ∀ a, 0 ≤ lget needs a) : flSt F rooms needs S flow 0 0 :=
  ⟨rfl, fun b hb => absurd hb (by omega), by rw [sumTo_zero]; exact h1 0, fun b _ => by simp [colS, sumTo_zero, h0 b]⟩
theorem flSt.pos {F : Fld} {rooms needs S : List Int} {flow : List (List Int)} {k a : Nat} (h : flSt F rooms needs S flow k a) : 0 ≤ sumTo (flAt flow k) a := sumTo_pos (fun b hb => (h.cells b hb).1) a (Nat.le_refl _)
theorem flSt.next {F : Fld} {rooms needs S : List Int} {flow : List (List Int)} {k a : Nat} (h : flSt F rooms needs S flow k a) (ha : a < F.op.length) (h0 : 0 ≤ flAt flow k a) (h1 : flAt flow k a ≤ lget needs k - sumTo (flAt flow k) a) (h2 : flAt flow k a ≤ lget rooms a - colS flow a k) (h3 : 0 < flAt flow k a → flHas S a = true) : flSt F rooms needs S flow k (a + 1) := by
  have hp := h.pos
  refine ⟨h.rows, fun b hb => ?_, by rw [sumTo_succ]; omega, fun b hb => ?_⟩
  · by_cases e : b = a
    · subst e; exact ⟨h0, by omega, h3⟩
    · exact h.cells b (by omega)
  · by_cases e : b = a
    · subst e; rw [if_pos (by omega), colS_succ]; omega
    · have := h.room b hb
      by_cases hl : b < a
      · rw [if_pos hl] at this; rw [if_pos (by omega)]; exact this
      · rw [if_neg hl] at this; rw [if_neg (by omega)]; exact this
theorem flSt.bad {F : Fld} {rooms needs S : List Int} {flow : List (List Int)} {k a : Nat} (hk : k < flow.length) (ha : a < F.op.length) (hb : ¬ (0 ≤ flAt flow k a ∧ flAt flow k a ≤ lget needs k - sumTo (flAt flow k) a ∧ flAt flow k a ≤ lget rooms a - colS flow a k ∧ (0 < flAt flow k a → flHas S a = true))) : flowB F rooms needs S flow = false := by
  cases hf : flowB F rooms needs S flow
  · rfl
  · exfalso
    obtain ⟨p1, p2, p3⟩ := flow_parts hf
    obtain ⟨r1, r2, r3⟩ := flRow_iff.1 (p2 k hk)
    have c := r2 a ha
    have s1 := sumTo_le (g := flAt flow k) (K := F.op.length) (fun i hi => (r2 i hi).1) (k := a + 1) F.op.length (by omega) (Nat.le_refl _)
    have e : sumTo (flAt flow k) F.op.length = lget needs k := r3
    rw [e, sumTo_succ] at s1
    have s2 := sumTo_le (g := fun j => flAt flow j a) (K := flow.length) (fun i hi => ((flRow_iff.1 (p2 i hi)).2.1 a ha).1) (k := k + 1) flow.length (by omega) (Nat.le_refl _)
    have s3 : colS flow a (k + 1) ≤ lget rooms a := Int.le_trans s2 (p3 a ha)
    rw [colS_succ] at s3
    exact hb ⟨c.1, by omega, by omega, c.2.2⟩
theorem flSt.row {F : Fld} {rooms needs S : List Int} {flow : List (List Int)} {k : Nat} (h : flSt F rooms needs S flow k F.op.length) (hl : (flow.getD k []).length = F.op.length) (hn : sumTo (flAt flow k) F.op.length = lget needs k) (h1 : ∀ a, 0 ≤ lget needs a) : flSt F rooms needs S flow (k + 1) 0 := by
  refine ⟨?_, fun b hb => absurd hb (by omega), by rw [sumTo_zero]; exact h1 _, fun b hb => ?_⟩
  · rw [flRows_succ, h.rows, Bool.true_and]
    exact flRow_iff.2 ⟨hl, fun a ha => h.cells a ha, hn⟩
  · have := h.room b hb
    rw [if_pos hb] at this
    rw [if_neg (by omega)]; exact this
theorem flSt.short {F : Fld} {rooms needs S : List Int} {flow : List (List Int)} {k : Nat} (hk : k < flow.length) (hn : sumTo (flAt flow k) F.op.length ≠ lget needs k) : flowB F rooms needs S flow = false := by
  refine flow_row hk ?_
  cases h : flRow F.op.length (lget needs k) S (flow.getD k [])
  · rfl
  · exact absurd (flRow_iff.1 h).2.2 hn
theorem flow_rowlen {F : Fld} {rooms needs S : List Int} {flow : List (List Int)} {k : Nat} (hk : k < flow.length) (hn : (flow.getD k []).length ≠ F.op.length) : flowB F rooms needs S flow = false := by
  refine flow_row hk ?_
  cases h : flRow F.op.length (lget needs k) S (flow.getD k [])
  · rfl
  · exact absurd (flRow_iff.1 h).1 hn
theorem flSt.done {F : Fld} {rooms needs S : List Int} {flow : List (List Int)} {k : Nat} (h : flSt F rooms needs S flow k 0) (hk : k = flow.length) (hl : flow.length = F.di.length) : flowB F rooms needs S flow = true := by
  subst hk
  refine flow_yes hl h.rows (flCols_iff.2 fun a ha => ?_)
  have := h.room a ha
  rw [if_neg (by omega)] at this; exact this

/-- What a flow costs. -/
def costRow (F : Fld) (flow : List (List Int)) (j a : Nat) : Int := sumTo (fun a => flAt flow j a * dAt F j (a : Int)) a
def costFl (F : Fld) (flow : List (List Int)) (k : Nat) : Int := sumTo (fun j => costRow F flow j F.op.length) k
theorem prod_bd {x y : Int} (h0 : 0 ≤ x) (h1 : x ≤ 5) (h2 : 0 ≤ y) (h3 : y ≤ 99) : 0 ≤ x * y ∧ x * y ≤ 495 := by
  refine ⟨Int.mul_nonneg h0 h2, ?_⟩
  have := Int.mul_le_mul h1 h3 h2 (by omega)
  omega
theorem costRow_bd {F : Fld} {needs S : List Int} {flow : List (List Int)} {j : Nat} (hg : goodF F = true) (hj : j < F.di.length) (hn : ∀ j, lget needs j ≤ 5) (h : flRow F.op.length (lget needs j) S (flow.getD j []) = true) : ∀ a, a ≤ F.op.length → 0 ≤ costRow F flow j a ∧ costRow F flow j a ≤ a * 495
  | 0, _ => by simp [costRow, sumTo_zero]
  | a + 1, ha => by
    have h1 := costRow_bd hg hj hn h a (by omega)
    obtain ⟨h2, h3⟩ := flAt_pos h (show a < F.op.length by omega)
    obtain ⟨h4, h5⟩ := dAt_bd hg hj (a : Int)
    have h6 := hn j
    obtain ⟨h7, h8⟩ := prod_bd h2 (by omega) h4 h5
    have e : costRow F flow j (a + 1) = costRow F flow j a + flAt flow j a * dAt F j (a : Int) := sumTo_succ _ _
    rw [e]; omega
theorem costFl_bd {F : Fld} {needs S : List Int} {flow : List (List Int)} (hg : goodF F = true) (hn : ∀ j, lget needs j ≤ 5) (h : ∀ j, j < F.di.length → flRow F.op.length (lget needs j) S (flow.getD j []) = true) : ∀ k, k ≤ F.di.length → 0 ≤ costFl F flow k ∧ costFl F flow k ≤ k * 3465
  | 0, _ => by simp [costFl, sumTo_zero]
  | k + 1, hk => by
    have h1 := costFl_bd hg hn h k (by omega)
    obtain ⟨h2, h3⟩ := costRow_bd hg (show k < F.di.length by omega) hn (h k (by omega)) F.op.length (Nat.le_refl _)
    have h7 := (goodF_iff.1 hg).1.2
    have e : costFl F flow (k + 1) = costFl F flow k + costRow F flow k F.op.length := sumTo_succ _ _
    rw [e]; omega
theorem lget_all {xs : List Int} {M : Int} (hM : 0 ≤ M) (h : ∀ x ∈ xs, 0 ≤ x ∧ x ≤ M) (i : Nat) : 0 ≤ lget xs i ∧ lget xs i ≤ M := by
  by_cases hi : i < xs.length
  · rw [lget_at hi]; exact h _ (List.getElem_mem hi)
  · have : lget xs i = 0 := by unfold lget; rw [List.getD_eq_getElem?_getD, List.getElem?_eq_none (by omega)]; rfl
    rw [this]; exact ⟨Int.le_refl _, hM⟩
def fcIn (F : Fld) (rooms needs S : List Int) (flow : List (List Int)) : Bool := haulB F rooms needs S && flowB F rooms needs S flow
def fcV (F : Fld) (rooms needs S : List Int) (flow : List (List Int)) : Int := if fcIn F rooms needs S flow = true then costFl F flow F.di.length else 0
end Go.Proofs.YtpiijhfjliolfaaGreat

namespace Go.Proofs.YtpiijhfjliolfaaGreat
theorem sumTo_addf (g h : Nat → Int) : ∀ k, sumTo (fun i => g i + h i) k = sumTo g k + sumTo h k
  | 0 => by simp [sumTo_zero]
  | k + 1 => by rw [sumTo_succ, sumTo_succ, sumTo_succ, sumTo_addf g h k]; omega
theorem sumTo_congr {g h : Nat → Int} : ∀ {k : Nat}, (∀ i, i < k → g i = h i) → sumTo g k = sumTo h k
  | 0, _ => rfl
  | k + 1, e => by rw [sumTo_succ, sumTo_succ, sumTo_congr (fun i hi => e i (by omega)), e k (by omega)]
theorem sumTo_mono' {g h : Nat → Int} : ∀ {k : Nat}, (∀ i, i < k → g i ≤ h i) → sumTo g k ≤ sumTo h k
  | 0, _ => Int.le_refl _
  | k + 1, e => by rw [sumTo_succ, sumTo_succ]; have := sumTo_mono' (fun i hi => e i (by omega) : ∀ i, i < k → g i ≤ h i); have := e k (by omega); omega
theorem sumTo_lt {g h : Nat → Int} {a : Nat} : ∀ {k : Nat}, (∀ i, i < k → g i ≤ h i) → a < k → g a < h a → sumTo g k < sumTo h k
  | 0, _, ha, _ => by omega
  | k + 1, e, ha, hl => by
    rw [sumTo_succ, sumTo_succ]
    by_cases h1 : a = k
    · subst h1; have := sumTo_mono' (fun i hi => e i (by omega) : ∀ i, i < a → g i ≤ h i); omega
    · have := sumTo_lt (fun i hi => e i (by omega) : ∀ i, i < k → g i ≤ h i) (by omega) hl; have := e k (by omega); omega
theorem sumTo_c0 (k : Nat) : sumTo (fun _ => 0) k = 0 := by
  induction k with
  | zero => rfl
  | succ k ih => rw [sumTo_succ, ih]; rfl
theorem sumTo_sub (g h : Nat → Int) : ∀ k, sumTo (fun i => g i - h i) k = sumTo g k - sumTo h k
  | 0 => by simp [sumTo_zero]
  | k + 1 => by rw [sumTo_succ, sumTo_succ, sumTo_succ, sumTo_sub g h k]; omega
theorem sumTo_mulc (g : Nat → Int) (c : Int) : ∀ k, sumTo (fun i => g i * c) k = sumTo g k * c
  | 0 => by simp [sumTo_zero]
  | k + 1 => by rw [sumTo_succ, sumTo_succ, sumTo_mulc g c k, Int.add_mul]
theorem sumTo_swap (g : Nat → Nat → Int) (k : Nat) : ∀ m, sumTo (fun i => sumTo (g i) k) m = sumTo (fun j => sumTo (fun i => g i j) m) k
  | 0 => by simp only [sumTo_zero]; rw [sumTo_c0]
  | m + 1 => by
    rw [sumTo_succ, sumTo_swap g k m, ← sumTo_addf]
    exact sumTo_congr (fun j _ => (sumTo_succ _ _).symm)
theorem sumTo_nn {g : Nat → Int} {k : Nat} (h : ∀ i, i < k → 0 ≤ g i) : 0 ≤ sumTo g k := by
  have := sumTo_mono' (g := fun _ => 0) h
  rwa [sumTo_c0] at this
theorem sumTo_ge {g : Nat → Int} {a : Nat} : ∀ {k : Nat}, (∀ i, i < k → 0 ≤ g i) → a < k → g a ≤ sumTo g k
  | 0, _, ha => by omega
  | k + 1, h, ha => by
    rw [sumTo_succ]
    by_cases h1 : a = k
    · subst h1; have := sumTo_nn (fun i hi => h i (by omega) : ∀ i, i < a → 0 ≤ g i); omega
    · have := sumTo_ge (fun i hi => h i (by omega) : ∀ i, i < k → 0 ≤ g i) (show a < k by omega); have := h k (by omega); omega
theorem sumTo_pos' {g : Nat → Int} {k : Nat} (h : ∀ i, i < k → 0 ≤ g i) (hs : 0 < sumTo g k) : ∃ i, i < k ∧ 0 < g i := by
  by_cases hh : ∃ i, i < k ∧ 0 < g i
  · exact hh
  · exfalso
    have : ∀ i, i < k → g i ≤ (fun _ => (0 : Int)) i := fun i hi => by
      have := h i hi
      by_cases h2 : 0 < g i
      · exact absurd ⟨i, hi, h2⟩ hh
      · show g i ≤ 0; omega
    have := sumTo_mono' this
    rw [sumTo_c0] at this; omega
/-- Change at one place. -/
def upd {α : Type} (g : Nat → α) (j : Nat) (x : α) (i : Nat) : α := if i = j then x else g i
def upd2 (f : Nat → Nat → Int) (j a : Nat) (x : Int) (i b : Nat) : Int := if i = j then upd (f j) a x b else f i b
theorem upd_at {α : Type} {g : Nat → α} {j : Nat} {x : α} : upd g j x j = x := if_pos rfl
theorem upd_ne {α : Type} {g : Nat → α} {j i : Nat} {x : α} (h : i ≠ j) : upd g j x i = g i := if_neg h
theorem sumTo_ones (n : Nat) : sumTo (fun _ => 1) n = (n : Int) := by
  induction n with
  | zero => rfl
  | succ n ih => rw [sumTo_succ, ih]; omega
theorem sumTo_single {g : Nat → Int} {p : Nat} : ∀ {n : Nat}, p < n → (∀ i, i < n → i ≠ p → g i = 0) → sumTo g n = g p
  | 0, h, _ => by omega
  | n + 1, h, h0 => by
    rw [sumTo_succ]
    by_cases e : p = n
    · subst e
      rw [sumTo_congr (h := fun _ => 0) (fun i hi => h0 i (by omega) (by omega)), sumTo_c0]; omega
    · rw [sumTo_single (show p < n by omega) (fun i hi hn => h0 i (by omega) hn), h0 n (by omega) (by omega)]; omega
theorem sumTo_one {p n : Nat} (h : p < n) : sumTo (fun i => if i = p then 1 else 0) n = 1 := by
  rw [sumTo_single h (fun i _ hn => if_neg hn), if_pos rfl]
theorem upd2_at {f : Nat → Nat → Int} {j a : Nat} {x : Int} : upd2 f j a x j a = x := by unfold upd2; rw [if_pos rfl, upd_at]
theorem upd2_ne {f : Nat → Nat → Int} {j a i b : Nat} {x : Int} (h : i ≠ j ∨ b ≠ a) : upd2 f j a x i b = f i b := by
  unfold upd2
  by_cases e : i = j
  · subst e; rw [if_pos rfl]
    rcases h with h | h
    · exact absurd rfl h
    · exact upd_ne h
  · rw [if_neg e]
end Go.Proofs.YtpiijhfjliolfaaGreat

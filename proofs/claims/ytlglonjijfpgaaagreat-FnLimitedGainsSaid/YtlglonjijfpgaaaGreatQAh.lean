/- least and lists: the first row with the least value; the rows of which something is so; lists and most: the sets of which something is so; the one with the greatest gain; The set with the greatest gain of some sets: the program's closures, and the reference's loop; All sets, as the reference gathers them for gains; What a site adds, as the reference and the program tell it. No condition. -/
import Derived.Test.YtlglonjijfpgaaaGreatQAg
import Derived.Test.YtlglonjijfpgaaaGreatQAc
import Derived.Test.YtlglonjijfpgaaaGreatQAf
import Derived.Test.YtlglonjijfpgaaaGreatQAd
import Derived.IntWalk
namespace Go.Proofs.YtlglonjijfpgaaaGreat
open Go.RowKit Go.Sort

def bestTo (v : List Int → Int) (rows : List (List Int)) (k : Nat) : List Int := (rows.take k).foldl (bestStep v) (rows.getD 0 [])
theorem bestTo_succ {v : List Int → Int} {rows : List (List Int)} {k : Nat} (hk : k < rows.length) : bestTo v rows (k + 1) = bestStep v (bestTo v rows k) rows[k] := by
  unfold bestTo
  rw [List.take_succ_eq_append_getElem hk, List.foldl_append]; rfl
theorem bestTo_all (v : List Int → Int) (rows : List (List Int)) : bestTo v rows rows.length = bestL v rows := by
  unfold bestTo bestL
  rw [List.take_length]
theorem bestTo_mem {v : List Int → Int} {rows : List (List Int)} (h0 : 0 < rows.length) : ∀ k, k ≤ rows.length → bestTo v rows k ∈ rows
  | 0, _ => by
    have e : rows.getD 0 [] = rows[0] := by simp [List.getD, h0]
    unfold bestTo
    rw [List.take_zero, List.foldl_nil, e]
    exact List.getElem_mem h0
  | k + 1, hk => by
    rw [bestTo_succ (by omega)]
    unfold bestStep
    by_cases h : v rows[k] < v (bestTo v rows k)
    · rw [if_pos h]; exact List.getElem_mem _
    · rw [if_neg h]; exact bestTo_mem h0 k (by omega)
theorem bestL_mem {v : List Int → Int} {rows : List (List Int)} (h0 : 0 < rows.length) : bestL v rows ∈ rows := by
  rw [← bestTo_all]; exact bestTo_mem h0 _ (Nat.le_refl _)
/-- A function value that tells a number of a row. -/
def Val (FN : FuncId) (pre caps : Array Value) (v : List Int → Int) (Q : List Int → Prop) (w : World) : Prop :=
  (∀ (args : Array Value) (w : World), Sem.run Tryz.prog (callFunc FN args) w = .ok (.enter FN args) w) ∧
  ∀ (S : List Int) (Av : Option Addr) (cv : Nat) (w' : World), Kp w w' → Q S → IntsAt w' Av S → S.length ≤ cv → Calls Tryz.prog FN (pre.push (.slice Av S.length cv) ++ caps) w' fun e w'' => e = .returned (.int .i64 (v S)) ∧ Kp w' w''
theorem Val.kp {FN : FuncId} {pre caps : Array Value} {v : List Int → Int} {Q : List Int → Prop} {w w' : World} (h : Val FN pre caps v Q w) (hk : Kp w w') : Val FN pre caps v Q w' :=
  ⟨h.1, fun S Av cv w2 h2 => h.2 S Av cv w2 (hk.trans h2)⟩
/-- A function value that tells whether something is so of a row. -/
def Tells (FN : FuncId) (pre caps : Array Value) (p : List Int → Bool) (Q : List Int → Prop) (w : World) : Prop :=
  (∀ (args : Array Value) (w : World), Sem.run Tryz.prog (callFunc FN args) w = .ok (.enter FN args) w) ∧
  ∀ (S : List Int) (Av : Option Addr) (cv : Nat) (w' : World), Kp w w' → Q S → IntsAt w' Av S → S.length ≤ cv → Calls Tryz.prog FN (pre.push (.slice Av S.length cv) ++ caps) w' fun e w'' => e = .returned (.bool (p S)) ∧ Kp w' w''
theorem Tells.kp {FN : FuncId} {pre caps : Array Value} {p : List Int → Bool} {Q : List Int → Prop} {w w' : World} (h : Tells FN pre caps p Q w) (hk : Kp w w') : Tells FN pre caps p Q w' :=
  ⟨h.1, fun S Av cv w2 h2 => h.2 S Av cv w2 (hk.trans h2)⟩
set_option maxHeartbeats 1000000 in
theorem least_any (FN : FuncId) (pre caps : Array Value) (v : List Int → Int) (Q : List Int → Prop) (lo : Option Nat) (A0 : Option Addr) (rows : List (List Int)) (n c0 : Nat) (w : World) (h : RowsAt w lo A0 rows) (hn : rows.length = n) (h0 : 0 < n) (hv : Val FN pre caps v Q w) (hq : ∀ S ∈ rows, Q S) :
    Calls Tryz.prog 65 #[.slice A0 n c0, .func (.func FN) pre caps] w fun e w' => ∃ u, e = .returned u ∧ RowP w' lo u (bestL v rows) ∧ Kp w w' := by
  have hm : n ≤ 9223372036854775807 := hn ▸ h.1
  have Hn := Lib.hid hn
  have HM := Lib.hid hv
  have HF := hv.1
  have HQ := Lib.hid hq
  have HB := Lib.hid (fun k (hk : k ≤ rows.length) => hq _ (bestTo_mem (v := v) (by omega) k hk))
  have HE := Lib.hid (bestTo_all v rows)
  clear hn hv hq
  have l0 : 0 < rows.length := by rw [Hn.out]; exact h0
  obtain ⟨ad, A2, c2, rfl, hcl, hc2, hri, hrp⟩ := h.at_ l0
  have hz : ad.add 0 = ad := by unfold Addr.add; simp
  rw [hz] at hcl
  have Hs := Lib.hid hrp
  have hst : Hid (bestTo v rows 0 = rows[0]) := by show _ = _; unfold bestTo; simp [List.getD, l0]
  clear hrp hri hz
  go_enter Tryz.func65, Tryz.ntmps65
  go_wp2_with fail
  clear hcl
  go_loopw [5, 13] (fun bv iv wr => ∃ (k : Nat) (Ab : Option Addr) (cb : Nat), k ≤ n ∧ iv = .int .i64 k ∧ bv = .slice Ab (bestTo v rows k).length cb ∧ RowP wr lo (.slice Ab (bestTo v rows k).length cb) (bestTo v rows k) ∧ Kp w wr) (fun _ iv _ => n - (intOf iv).toNat)
  case atStart => exact ⟨0, A2, c2, by omega, rfl, by rw [hst.out], by rw [hst.out]; exact Hs.out, Kp.refl _⟩
  case round =>
    obtain ⟨k, Ab, cb, hk, rfl, rfl, hb, hkb⟩ := hrel
    by_cases hlt : k < n
    · have lx : k < rows.length := by rw [Hn.out]; exact hlt
      obtain ⟨A3, c3, hcl, hc3, hri, hrp⟩ := (h.kp hkb).some_ lx
      obtain ⟨Ab', cb', eb, hcb, hbi⟩ := hb.read
      simp only [Value.slice.injEq] at eb
      obtain ⟨rfl, _, rfl⟩ := eb
      have q1 := Lib.hid (HQ.out _ (List.getElem_mem lx))
      have q2 := Lib.hid (HB.out k (Nat.le_of_lt lx))
      have hstep := Lib.hid (bestTo_succ (v := v) lx)
      go_wp2_with fail
      have CC := Lib.hid (HM.out.2 rows[k] A3 c3 _ hkb q1.out hri hc3)
      with_reducible refine Calls.mono CC.out ?_
      rintro e w1 ⟨rfl, hk1⟩
      clear CC
      replace hkb := hkb.trans hk1
      replace hb := hb.kp hk1
      replace hrp := hrp.kp hk1
      go_wp2_with fail
      have CC := Lib.hid (HM.out.2 (bestTo v rows k) Ab cb _ hkb q2.out (hbi.kp hk1) hcb)
      with_reducible refine Calls.mono CC.out ?_
      rintro e w2 ⟨rfl, hk2⟩
      clear CC
      replace hkb := hkb.trans hk2
      replace hb := hb.kp hk2
      replace hrp := hrp.kp hk2
      by_cases hlt2 : v rows[k] < v (bestTo v rows k)
      · have Hy : Hid (bestTo v rows (k + 1) = rows[k]) := by show _ = _; rw [hstep.out]; exact if_pos hlt2
        go_wp2_with fail
        go_roundw
        case rel => exact ⟨k + 1, A3, c3, by omega, by go_num, by rw [Hy.out], by rw [Hy.out]; exact hrp, hkb⟩
        case measure => simp [intOf]; omega
      · have Hy : Hid (bestTo v rows (k + 1) = bestTo v rows k) := by show _ = _; rw [hstep.out]; exact if_neg hlt2
        go_wp2_with fail
        go_roundw
        case rel => exact ⟨k + 1, Ab, cb, by omega, by go_num, by rw [Hy.out], by rw [Hy.out]; exact hb, hkb⟩
        case measure => simp [intOf]; omega
    · obtain rfl : k = n := by omega
      have Hy : Hid (bestTo v rows k = bestL v rows) := by show _ = _; rw [← HE.out, Hn.out]
      go_wp2_with fail
      go_ret
      exact ⟨_, rfl, by rw [← Hy.out]; exact hb, hkb⟩
end Go.Proofs.YtlglonjijfpgaaaGreat

namespace Go.Proofs.YtlglonjijfpgaaaGreat
open Go.RowKit Go.Sort

/-- All sets of n sites, that without sites first. -/
def allS (n : Nat) : List (List Int) := [] :: setsL n
theorem allS_len (n : Nat) : (allS n).length = 2 ^ n := by
  have := setsL_len n
  have h1 : 1 ≤ 2 ^ n := Nat.one_le_two_pow
  simp only [allS, List.length_cons]; omega
theorem allS_ris {n : Nat} : ∀ S ∈ allS n, risB S 0 ((n : Int) - 1) = true := fun S h => by
  rcases List.mem_cons.1 h with rfl | h
  · rfl
  · exact (mem_setsL.1 h).2
theorem RowsAt.mono {w : World} {b b' : Nat} {A : Option Addr} {rows : List (List Int)} (h : RowsAt w (some b) A rows) (hb : b' ≤ b) : RowsAt w (some b') A rows :=
  ⟨h.1, fun k hk => by obtain ⟨ad, u, e, hc, hp⟩ := h.2 k hk; exact ⟨ad, u, e, hc, hp.mono hb⟩⟩
theorem GOwn.lo_mono {w : World} {b b' base : Nat} {v : Value} {rows : List (List Int)} (h : GOwn w (some b) base v rows) (hb : b' ≤ b) : GOwn w (some b') base v rows := by
  obtain ⟨hs, h1, h2⟩ := h
  exact ⟨hs, h1, fun j hj => by obtain ⟨u, e1, e2, e3⟩ := h2 j hj; exact ⟨u, e1, e2.mono hb, fun _ => e3 (.inr (by simp))⟩⟩
/-- A literal slice of one row. -/
theorem gown_one {w : World} {lo : Option Nat} {base : Nat} {u : Value} {xs : List Int} (hb : base ≤ w.heap.size) (hu : RowP w lo u xs) (hn : xs ≠ [] ∨ lo ≠ none) :
    GOwn (w.alloc (.cells #[u] 24)) lo base (.slice (some ⟨w.heap.size, 0, none⟩) 1 1) [xs] :=
  ⟨[u], World.ownsRow_lit w #[u] 1 hb (by unfold maxLen; omega) (by simp), fun j hj => by
    obtain rfl : j = 0 := by simpa using hj
    refine ⟨u, rfl, hu.kp ((Kp.refl w).alloc _), fun _ g hg e => ?_⟩
    have := hu.lt hn g hg
    have e2 : w.heap.size = g := by simpa [Value.ownBlock] using e
    omega⟩
theorem own_blk' {g' g n c : Nat} (h : (Value.slice (some ⟨g', 0, none⟩) n c).ownBlock = some g) : g' = g := by simpa [Value.ownBlock] using h
theorem GOwn.nil_turn {S : Nat → Prop} {w w' : World} {lo : Option Nat} {base : Nat} {v : Value} (h : GOwn w lo base v []) (ht : Turn S w w') (hn : ∀ g, v.ownBlock = some g → ¬ S g) : GOwn w' lo base v [] := by
  obtain ⟨hs, h1, _⟩ := h
  exact ⟨hs, own_turn h1 ht hn, fun j hj => by simp at hj⟩
theorem RowsAt.turn {S : Nat → Prop} {w w' : World} {b : Nat} {ad : Addr} {rows : List (List Int)} (h : RowsAt w (some b) (some ad) rows) (ht : Turn S w w') (h1 : ¬ S ad.block) (h2 : ∀ g, b ≤ g → ¬ S g) : RowsAt w' (some b) (some ad) rows :=
  ⟨h.1, fun k hk => by
    obtain ⟨ad', u, e, hc, hp⟩ := h.2 k hk
    cases e
    refine ⟨ad, u, rfl, ?_, hp.turn ht (fun _ g hg => h2 g (((hp.2 b rfl).lt g hg).1))⟩
    have hb : (ad.add k).block < w.heap.size := World.block_lt_of_cell? _ _ hc
    rw [blk_add] at hb
    have hbk : w'.heap[(ad.add k).block]? = w.heap[(ad.add k).block]? := by rw [blk_add]; exact ht.block _ hb h1
    rw [World.cell?_of_block hbk]; exact hc⟩
def filTo (p : List Int → Bool) (rows : List (List Int)) (k : Nat) : List (List Int) := (rows.take k).filter p
theorem filTo_yes {p : List Int → Bool} {rows : List (List Int)} {k : Nat} (hk : k < rows.length) (h : p rows[k] = true) : filTo p rows (k + 1) = filTo p rows k ++ [rows[k]] := by
  unfold filTo
  rw [List.take_succ_eq_append_getElem hk, List.filter_append]
  simp [h]
theorem filTo_no {p : List Int → Bool} {rows : List (List Int)} {k : Nat} (hk : k < rows.length) (h : p rows[k] = false) : filTo p rows (k + 1) = filTo p rows k := by
  unfold filTo
  rw [List.take_succ_eq_append_getElem hk, List.filter_append]
  simp [h]
theorem filTo_len (p : List Int → Bool) (rows : List (List Int)) (k : Nat) : (filTo p rows k).length ≤ rows.length := by
  unfold filTo
  exact Nat.le_trans (List.length_filter_le _ _) (by simp; omega)
/-- The rows of a list that owns them lie behind the list's first block, or ahead of it. -/
theorem apart_out {w wl : World} {lo : Nat} {u : Value} {xs : List Int} (h : RowP wl (some (w.heap.size + 1)) u xs) (hlo : lo = w.heap.size) {v : Value} (hv : ∀ g, v.ownBlock = some g → g = lo ∨ wl.heap.size ≤ g) : (xs ≠ [] ∨ some (w.heap.size + 1) ≠ none) → ∀ g, u.ownBlock = some g → v.ownBlock ≠ some g := by
  intro _ g hg e
  have h1 := (h.2 _ rfl).lt g hg
  rcases hv g e with h2 | h2 <;> omega
set_option maxRecDepth 100000 in
set_option maxHeartbeats 2000000 in
theorem lists_any (FN : FuncId) (pre caps : Array Value) (p : List Int → Bool) (Q : List Int → Prop) (n : Nat) (w : World) (hn : n ≤ 7) (hp : Tells FN pre caps p Q w) (hq : ∀ S ∈ allS n, Q S) :
    Calls Tryz.prog 34 #[.int .i64 n, .func (.func FN) pre caps] w fun e w' => ∃ v, e = .returned v ∧ v ≠ .slice none 0 0 ∧ GOwn w' (some w.heap.size) w.heap.size v ((allS n).filter p) ∧ Kp w w' := by
  have HM := Lib.hid hp
  have HF := hp.1
  have HQ := Lib.hid hq
  have HL := Lib.hid (allS_len n)
  have h128 : 2 ^ n ≤ 128 := Nat.pow_le_pow_right (by omega) hn
  have HL2 : Hid ((allS n).length ≤ 128) := by show _ ≤ _; rw [HL.out]; exact h128
  clear hp hq h128
  go_enter Tryz.func34, Tryz.ntmps34
  go_wp2_with fail
  have u1 := own_new0 (w.alloc (.cells #[] 24)) (w.heap.size + 1) (by simp)
  have o1 := gown_one (base := w.heap.size + 1 + 1) (by simp) (RowP.of_own u1 (by simp)) (.inr (by simp))
  have o0 := ((gown_new w (some (w.heap.size + 1)) w.heap.size (Nat.le_refl _)).one_kp (o := .cells #[] 3)).one_kp (o := .cells #[.slice (some ⟨(w.alloc (.cells #[] 24)).heap.size, 0, none⟩) 0 0] 24)
  have hkb : Kp w (((w.alloc (.cells #[] 24)).alloc (.cells #[] 3)).alloc (.cells #[.slice (some ⟨(w.alloc (.cells #[] 24)).heap.size, 0, none⟩) 0 0] 24)) := (((Kp.refl w).alloc _).alloc _).alloc _
  simp only [World.size_alloc] at o1 o0 hkb
  have hsz : Hid ((((w.alloc (.cells #[] 24)).alloc (.cells #[] 3)).alloc (.cells #[.slice (some ⟨w.heap.size + 1, 0, none⟩) 0 0] 24)).heap.size = w.heap.size + 1 + 1 + 1) := by show _ = _; simp
  clear u1
  generalize ((w.alloc (.cells #[] 24)).alloc (.cells #[] 3)).alloc (.cells #[.slice (some ⟨w.heap.size + 1, 0, none⟩) 0 0] 24) = wb at *
  have CC := Lib.hid (sets_any n wb hn)
  with_reducible refine Calls.mono CC.out ?_
  rintro e ws ⟨v2, rfl, hvn, hgo, hk1⟩
  clear CC
  have HLs : Hid ((setsL n).length ≤ 127) := by
    show _ ≤ _
    have := HL2.out
    simp only [allS, List.length_cons] at this; omega
  obtain ⟨ad2, c2, hve, _, hrows⟩ := hgo.rows_some (by have := HLs.out; omega) hvn
  subst hve
  have hkb1 := hkb.trans hk1
  have o11 := o1.kp hk1
  have o01 := o0.kp hk1
  have hrm := hrows.mono (b' := w.heap.size + 1) (by rw [hsz.out]; omega)
  clear o1 o0 hgo hvn
  have hap := Lib.hid (fun k (hk : k < (setsL n).length) (ad : Addr) (u : Value) (e : some ad2 = some ad) (hc : ws.cell? (ad.add k) = some u) (_ : RowP ws (some (w.heap.size + 1)) u (setsL n)[k]) (_ : (setsL n)[k] ≠ [] ∨ some (w.heap.size + 1) ≠ none) (g : Nat) (hg : u.ownBlock = some g) => (show (Value.slice (some ⟨w.heap.size + 1 + 1, 0, none⟩) 1 1).ownBlock ≠ some g from by
    obtain ⟨ad', u', e1, e2, e3⟩ := hrows.2 k hk
    cases e
    cases e1
    rw [e2] at hc
    cases hc
    have h1 := ((e3.2 _ rfl).lt g hg).1
    rw [hsz.out] at h1
    intro h2
    have h3 : w.heap.size + 1 + 1 = g := by simpa [Value.ownBlock] using h2
    omega))
  have hs1 : w.heap.size + 1 + 1 ≤ ws.heap.size := by have := hk1.le; rw [hsz.out] at this; omega
  have hl3 : ([[]] : List (List Int)).length + (setsL n).length ≤ 4194304 := by have := HLs.out; simp; omega
  have hlall : (([[]] : List (List Int)) ++ setsL n).length ≤ 9223372036854775807 := by rw [List.length_append]; have := HLs.out; simp; omega
  obtain ⟨m, hml⟩ : ∃ m, m = (([[]] : List (List Int)) ++ setsL n).length := ⟨_, rfl⟩
  replace hml := Lib.hid hml
  go_wp2_with (at_builtin; go_loud (refine wpl_appg_all rfl (.tmp 10) (.tmp 12) rfl (w.heap.size + 1 + 1) (.slice (some ⟨w.heap.size + 1 + 1, 0, none⟩) 1 1) [[]] (setsL n) (some ad2) _ c2 rfl rfl o11 hrm hap.out rfl hs1 hl3 ?_; intro v' w' ho' ht' h4'; obtain ⟨ld, lc, hve, _, hlr⟩ := ho'.rows_some hlall (ho'.not_nil (by simp)); subst hve; rw [← hml.out] at ho' ⊢))
  have hkl : Kp w w' := hkb1.turn ht' (fun i hi => by have h3 := own_blk' hi; omega)
  have o02 := o01.nil_turn ht' (fun g hg hh => by have h3 := own_blk' hh; have h4 := own_blk' hg; omega)
  obtain ⟨wl, rfl⟩ : ∃ wl : World, wl = w' := ⟨_, rfl⟩
  have hlb : w.heap.size + 1 + 1 ≤ ld.block := (ho'.lt ld.block rfl).1
  have hsl : w.heap.size + 1 + 1 ≤ wl.heap.size := Nat.le_trans hs1 ht'.size
  change RowsAt wl (some (w.heap.size + 1)) (some ld) (allS n) at hlr
  replace hml := Lib.hid (show m = (allS n).length from hml.out)
  clear o01 ho' hap o11 hrm hrows ht' h4' hkb1 hk1 hlall hl3
  have hm128 : m ≤ 128 := by rw [hml.out]; exact HL2.out
  obtain ⟨rows, hre⟩ : ∃ rows, rows = allS n := ⟨_, rfl⟩
  rw [← hre] at hlr hml
  have HQ2 : Hid (∀ S ∈ rows, Q S) := by show ∀ S ∈ rows, _; rw [hre]; exact HQ.out
  have HR : Hid ((allS n).filter p = rows.filter p) := by show _ = _; rw [hre]
  have HML : Hid (m = rows.length) := hml
  clear hre hml HQ HL HL2
  go_loopw [5, 15] (fun ox iv wr => ∃ (k : Nat) (ov : Value), ov = ox ∧ k ≤ m ∧ iv = .int .i64 k ∧ Hid (ov ≠ .slice none 0 0) ∧ GOwn wr (some (w.heap.size + 1)) w.heap.size ov (filTo p rows k) ∧ Hid (∀ g, ov.ownBlock = some g → g = w.heap.size ∨ wl.heap.size ≤ g) ∧ Turn (fun i => i = w.heap.size) wl wr) (fun _ iv _ => m - (intOf iv).toNat)
  case atStart => exact ⟨0, _, rfl, by omega, rfl, (by show _ ≠ _; simp), o02, (by show ∀ g, _ → _; intro g hg; exact .inl (own_blk' hg).symm), Turn.refl _ _⟩
  case round =>
    clear o02
    obtain ⟨k, ov, rfl, hk, rfl, Hv, hown, Hap, ht⟩ := hrel
    have hkb : Kp w wr := hkl.turn ht (fun i hi => by rw [hi]; exact Nat.le_refl _)
    by_cases hlt : k < m
    · have lx : k < rows.length := by rw [← HML.out]; exact hlt
      have hlr2 := hlr.turn ht (by omega) (fun g hg e => by omega)
      obtain ⟨A3, c3, hcl, hc3, hri, hrp⟩ := hlr2.some_ lx
      obtain ⟨_, u0, e0, e1, hp0⟩ := hlr.2 k lx
      have q1 := Lib.hid (HQ2.out _ (List.getElem_mem lx))
      have hfl := Lib.hid (filTo_len p rows k)
      have hapr := Lib.hid (fun (g : Nat) (hg : (Value.slice A3 rows[k].length c3).ownBlock = some g) => (show ov.ownBlock ≠ some g from by
        have h1 := ((hrp.2 _ rfl).lt g hg).1
        intro e
        rcases Hap.out g e with h2 | h2
        · omega
        · cases e0
          have hcc : (wl.cell? (ld.add k)) = wr.cell? (ld.add k) := by
            have hb : (ld.add k).block < wl.heap.size := World.block_lt_of_cell? _ _ e1
            have hbk : wr.heap[(ld.add k).block]? = wl.heap[(ld.add k).block]? := ht.block _ hb (by rw [blk_add]; omega)
            rw [World.cell?_of_block hbk]
          rw [hcc, hcl] at e1
          cases e1
          have h3 := ((hp0.2 _ rfl).lt g hg).2
          omega))
      clear e0 e1 hp0
      go_wp2_with fail
      have CC := Lib.hid (HM.out.2 rows[k] A3 c3 _ hkb q1.out hri hc3)
      with_reducible refine Calls.mono CC.out ?_
      rintro e w1 ⟨rfl, hk1⟩
      clear CC
      replace hkb := hkb.trans hk1
      replace hown := hown.kp hk1
      replace hrp := hrp.kp hk1
      have htn : Turn (fun i => i = w.heap.size) wl w1 := ht.trans (Turn.of_kp hk1)
      cases hpk : p rows[k]
      · have Hy := Lib.hid (filTo_no lx hpk)
        clear hpk
        go_wp2_with fail
        go_roundw
        case rel => exact ⟨k + 1, _, rfl, by omega, by go_num, Hv, by rw [Hy.out]; exact hown, Hap, htn⟩
        case measure => simp [intOf]; omega
      · have Hy := Lib.hid (filTo_yes lx hpk)
        have hbase : w.heap.size ≤ w1.heap.size := hkb.le
        have hfl2 : (filTo p rows k).length < 1048576 := by have := hfl.out; have := HML.out; omega
        have hsl1 : wl.heap.size ≤ w1.heap.size := htn.size
        clear hpk
        go_wp2_with (at_builtin; go_loud (refine wpl_appg rfl (.tmp 22) (.tmp 24) rfl w.heap.size ov (filTo p rows k) rows[k] (.slice A3 rows[k].length c3) rfl rfl hown hrp (fun _ g hg => hapr.out g hg) hbase hfl2 ?_; intro v' w' ho' ht' h4'))
        go_roundw
        case rel =>
          refine ⟨k + 1, _, rfl, by omega, by go_num, ho'.not_nil (by simp), by rw [Hy.out]; exact ho', ?_, ?_⟩
          · show ∀ g, _ → _
            intro g hg
            rcases h4' with e | e
            · exact Hap.out g (e ▸ hg)
            · exact .inr (by have := e g hg; omega)
          · refine ⟨ht'.os.trans htn.os, ht'.tape.trans htn.tape, ht'.output.trans htn.output, Nat.le_trans htn.size ht'.size, fun i hi hn => ?_⟩
            rw [ht'.block i (by omega) (fun e => by rcases Hap.out i e with h | h; exact hn h; omega), htn.block i hi hn]
        case measure => simp [intOf]; omega
    · obtain rfl : k = m := by omega
      have He : Hid (filTo p rows k = (allS n).filter p) := by show _ = _; rw [HR.out, HML.out]; unfold filTo; rw [List.take_length]
      go_wp2_with fail
      go_ret
      exact ⟨_, rfl, Hv.out, by rw [← He.out]; exact hown.lo_mono (Nat.le_succ _), hkb⟩
end Go.Proofs.YtlglonjijfpgaaaGreat

namespace Go.Proofs.YtlglonjijfpgaaaGreat
open Go.RowKit Go.Sort

def negG (F : Fld) (worth : Int) (S : List Int) : Int := -gainF F worth S
set_option maxHeartbeats 400000 in
theorem mostClo_any (F : Fld) (worth : Int) (A : Option Addr) (c : Nat) (B : Option Addr) (d : Nat) (p q : Nat) (w : World) (hf : FldAt w (.agg #[.slice A F.op.length c, .slice B F.di.length d]) F) (x0 : w.cell? ⟨p, 0, none⟩ = some (.slice A F.op.length c)) (x1 : w.cell? ⟨p, 1, none⟩ = some (.slice B F.di.length d)) (y0 : w.cell? ⟨q, 0, none⟩ = some (.int .i64 worth))
    (Av : Option Addr) (S : List Int) (n cv : Nat) (hS : IntsAt w Av S) (hn : S.length = n) (hg : goodF F = true) (hs : setB F S = true) (hw0 : 0 ≤ worth) (hw1 : worth ≤ 999) :
    Calls Tryz.prog 66 #[.slice Av n cv, .pointer (some ⟨p, 0, none⟩), .pointer (some ⟨q, 0, none⟩)] w fun e w' => e = .returned (.int .i64 (negG F worth S)) ∧ Kp w w' := by
  have CC := Lib.hid (gain_any _ F worth Av S n cv w hf hS hn hg hs hw0 hw1)
  obtain ⟨b1, b2⟩ := gainF_bd hg hw0 hw1 S
  have hd : Hid (negG F worth S = -gainF F worth S) := rfl
  generalize gainF F worth S = g at *
  clear hf hS hn hg hs
  go_enter Tryz.func66, Tryz.ntmps66
  go_wp2_with fail
  with_reducible refine Calls.mono CC.out ?_
  rintro e w1 ⟨rfl, hk1⟩
  clear CC
  go_wp2_with fail
  go_ret
  exact ⟨ret_int (by rw [hd.out] <;> first | omega | (rw [IntWalk.i64_in _ (by omega)] <;> omega)), hk1⟩
set_option maxHeartbeats 400000 in
theorem most_any (f : Value) (F : Fld) (worth : Int) (lo : Option Nat) (A0 : Option Addr) (rows : List (List Int)) (n c0 : Nat) (w : World) (hf : FldAt w f F) (h : RowsAt w lo A0 rows) (hn : rows.length = n) (h0 : 0 < n) (hg : goodF F = true) (hw0 : 0 ≤ worth) (hw1 : worth ≤ 999) (hq : ∀ S ∈ rows, setB F S = true) :
    Calls Tryz.prog 33 #[f, .int .i64 worth, .slice A0 n c0] w fun e w' => ∃ u, e = .returned u ∧ RowP w' lo u (bestL (negG F worth) rows) ∧ Kp w w' := by
  obtain ⟨A, c, B, d, rfl, hA, hB⟩ := hf
  have hk0 : Kp w ((w.alloc (.cells #[.slice A F.op.length c, .slice B F.di.length d] 27)).alloc (.cells #[.int .i64 worth] 3)) := ((Kp.refl w).alloc _).alloc _
  obtain ⟨d0, d1⟩ := box2 w (.slice A F.op.length c) (.slice B F.di.length d) 27
  have hFA := FldAt.kp (show FldAt w (.agg #[.slice A F.op.length c, .slice B F.di.length d]) F from ⟨A, c, B, d, rfl, hA, hB⟩) hk0
  have g0 := ((Kp.refl _).alloc (.cells #[.int .i64 worth] 3)).get d0
  have g1 := ((Kp.refl _).alloc (.cells #[.int .i64 worth] 3)).get d1
  have g2 : ((w.alloc (.cells #[.slice A F.op.length c, .slice B F.di.length d] 27)).alloc (.cells #[.int .i64 worth] 3)).cell? ⟨w.heap.size + 1, 0, none⟩ = some (.int .i64 worth) := by
    rw [World.cell?_alloc_at _ _ _ _ (by simp)]; rfl
  have hv : Val 66 #[] #[.pointer (some ⟨w.heap.size, 0, none⟩), .pointer (some ⟨w.heap.size + 1, 0, none⟩)] (negG F worth) (fun S => setB F S = true) ((w.alloc (.cells #[.slice A F.op.length c, .slice B F.di.length d] 27)).alloc (.cells #[.int .i64 worth] 3)) :=
    ⟨callFunc_of Tryz.func66 (by kernel_rfl) (by kernel_rfl), fun S Av cv w' hk hq hi _ => mostClo_any F worth A c B d w.heap.size (w.heap.size + 1) w' (hFA.kp hk) (hk.get g0) (hk.get g1) (hk.get g2) Av S S.length cv hi rfl hg hq hw0 hw1⟩
  have CC := Lib.hid (least_any 66 #[] #[.pointer (some ⟨w.heap.size, 0, none⟩), .pointer (some ⟨w.heap.size + 1, 0, none⟩)] (negG F worth) (fun S => setB F S = true) lo A0 rows n c0 _ (h.kp hk0) hn h0 hv hq)
  clear hA hB hv h hn hg hq hFA d0 d1 g0 g1 g2
  go_enter Tryz.func33, Tryz.ntmps33
  go_wp2_with fail
  with_reducible refine Calls.mono CC.out ?_
  rintro e w1 ⟨u, rfl, hu, hk1⟩
  clear CC
  go_wp2_with fail
  go_ret
  exact ⟨u, rfl, hu, hk0.trans hk1⟩
set_option maxHeartbeats 400000 in
/-- At most so dear. -/
theorem affClo_any (F : Fld) (bud : Int) (A : Option Addr) (c : Nat) (B : Option Addr) (d : Nat) (p q : Nat) (w : World) (hf : FldAt w (.agg #[.slice A F.op.length c, .slice B F.di.length d]) F) (x0 : w.cell? ⟨p, 0, none⟩ = some (.slice A F.op.length c)) (x1 : w.cell? ⟨p, 1, none⟩ = some (.slice B F.di.length d)) (y0 : w.cell? ⟨q, 0, none⟩ = some (.int .i64 bud))
    (Av : Option Addr) (S : List Int) (n cv : Nat) (hS : IntsAt w Av S) (hn : S.length = n) (hg : goodF F = true) (hs : setB F S = true) :
    Calls Tryz.prog 78 #[.slice Av n cv, .pointer (some ⟨p, 0, none⟩), .pointer (some ⟨q, 0, none⟩)] w fun e w' => e = .returned (.bool (decide (payF F S ≤ bud))) ∧ Kp w w' := by
  have C1 := Lib.hid (fun (wx : World) (hx : Kp w wx) => payment_any _ F Av S n cv wx (hf.kp hx) (hS.kp hx) hn hg hs)
  clear hf hS hn hg hs
  have hkz : Kp w w := Kp.refl _
  go_enter Tryz.func78, Tryz.ntmps78
  go_wp2_with fail
  have q_x0 := hkz.get x0
  have q_x1 := hkz.get x1
  have q_y0 := hkz.get y0
  have tok1 : True := trivial
  go_wp2_with fail
  go_region_held3 (fun w' => w'.cell? ⟨p, 0, none⟩ = some (.slice A F.op.length c) ∧ w'.cell? ⟨p, 1, none⟩ = some (.slice B F.di.length d) ∧ w'.cell? ⟨q, 0, none⟩ = some (.int .i64 bud) ∧ Kp w w')
    (first | (refine keepc3 x0 x1 y0 ?_; exact (by repeat (first | with_reducible assumption | with_reducible exact Kp.refl _ | with_reducible refine Kp.drew ?_ | with_reducible refine Kp.alloc ?_ _ | with_reducible refine Kp.drewN ?_ _ | refine Kp.setCell ?_ (by dsimp only; omega) _))) | fail)
    (first
      | (have _t := tok1; go_at_call 57; with_reducible refine Calls.mono (C1.out _ (by repeat (first | with_reducible assumption | with_reducible exact Kp.refl _ | with_reducible refine Kp.drew ?_ | with_reducible refine Kp.alloc ?_ _ | with_reducible refine Kp.drewN ?_ _ | refine Kp.setCell ?_ (by dsimp only; omega) _))) ?_; rintro e wr1 ⟨rfl, hka⟩; have hr1 : Kp w wr1 := Kp.trans (by repeat (first | with_reducible assumption | with_reducible exact Kp.refl _ | with_reducible refine Kp.drew ?_ | with_reducible refine Kp.alloc ?_ _ | with_reducible refine Kp.drewN ?_ _ | refine Kp.setCell ?_ (by dsimp only; omega) _)) hka; have tok2 : True := trivial; clear tok1 _t)
      | fail)
  all_goals
    go_wp2_with fail
    go_ret
    exact ⟨rfl, hr1⟩
set_option maxHeartbeats 400000 in
theorem affords_any (f : Value) (F : Fld) (bud : Int) (w : World) (hf : FldAt w f F) (hg : goodF F = true) :
    Calls Tryz.prog 49 #[f, .int .i64 bud] w fun e w' => ∃ caps, e = .returned (.func (.func 78) #[] caps) ∧ Tells 78 #[] caps (fun S => decide (payF F S ≤ bud)) (fun S => setB F S = true) w' ∧ Kp w w' := by
  obtain ⟨A, c, B, d, rfl, hA, hB⟩ := hf
  have hk0 : Kp w ((w.alloc (.cells #[.slice A F.op.length c, .slice B F.di.length d] 27)).alloc (.cells #[.int .i64 bud] 3)) := ((Kp.refl w).alloc _).alloc _
  obtain ⟨d0, d1⟩ := box2 w (.slice A F.op.length c) (.slice B F.di.length d) 27
  have hFA := FldAt.kp (show FldAt w (.agg #[.slice A F.op.length c, .slice B F.di.length d]) F from ⟨A, c, B, d, rfl, hA, hB⟩) hk0
  have g0 := ((Kp.refl _).alloc (.cells #[.int .i64 bud] 3)).get d0
  have g1 := ((Kp.refl _).alloc (.cells #[.int .i64 bud] 3)).get d1
  have g2 : ((w.alloc (.cells #[.slice A F.op.length c, .slice B F.di.length d] 27)).alloc (.cells #[.int .i64 bud] 3)).cell? ⟨w.heap.size + 1, 0, none⟩ = some (.int .i64 bud) := by
    rw [World.cell?_alloc_at _ _ _ _ (by simp)]; rfl
  have hv := Lib.hid (show Tells 78 #[] #[.pointer (some ⟨w.heap.size, 0, none⟩), .pointer (some ⟨w.heap.size + 1, 0, none⟩)] (fun S => decide (payF F S ≤ bud)) (fun S => setB F S = true) ((w.alloc (.cells #[.slice A F.op.length c, .slice B F.di.length d] 27)).alloc (.cells #[.int .i64 bud] 3)) from
    ⟨callFunc_of Tryz.func78 (by kernel_rfl) (by kernel_rfl), fun S Av cv w' hk hq hi _ => affClo_any F bud A c B d w.heap.size (w.heap.size + 1) w' (hFA.kp hk) (hk.get g0) (hk.get g1) (hk.get g2) Av S S.length cv hi rfl hg hq⟩)
  clear hA hB hg hFA d0 d1 g0 g1 g2
  go_enter Tryz.func49, Tryz.ntmps49
  go_wp2_with fail
  go_ret
  exact ⟨_, rfl, hv.out, hk0⟩
/-- What the reference picks: the first one with the greatest gain of those that pass, the set without sites if none has more. -/
def pkTo (p : List Int → Bool) (v : List Int → Int) (rows : List (List Int)) (k : Nat) : List Int := (rows.take k).foldl (fun b s => if p s = true then bestStep v b s else b) []
theorem pk_yes {p : List Int → Bool} {v : List Int → Int} {rows : List (List Int)} {k : Nat} (hk : k < rows.length) (h : p rows[k] = true) (h2 : v rows[k] < v (pkTo p v rows k)) : pkTo p v rows (k + 1) = rows[k] := by
  unfold pkTo at *
  rw [List.take_succ_eq_append_getElem hk, List.foldl_append, List.foldl_cons, List.foldl_nil, if_pos h]
  exact if_pos h2
theorem pk_no {p : List Int → Bool} {v : List Int → Int} {rows : List (List Int)} {k : Nat} (hk : k < rows.length) (h : ¬ (p rows[k] = true ∧ v rows[k] < v (pkTo p v rows k))) : pkTo p v rows (k + 1) = pkTo p v rows k := by
  unfold pkTo at *
  rw [List.take_succ_eq_append_getElem hk, List.foldl_append, List.foldl_cons, List.foldl_nil]
  by_cases h1 : p rows[k] = true
  · rw [if_pos h1]
    exact if_neg (fun h2 => h ⟨h1, h2⟩)
  · rw [if_neg h1]
theorem pk_all {p : List Int → Bool} {v : List Int → Int} {n : Nat} (h : p [] = true) : pkTo p v (allS n) (allS n).length = bestL v ((allS n).filter p) := by
  unfold pkTo bestL
  rw [List.take_length, List.foldl_filter]
  have e : ((allS n).filter p).getD 0 [] = [] := by simp [allS, h]
  rw [e]
theorem pk_mem {p : List Int → Bool} {v : List Int → Int} {n : Nat} : ∀ k, k ≤ (allS n).length → pkTo p v (allS n) k ∈ allS n
  | 0, _ => by simp [pkTo, allS]
  | k + 1, hk => by
    have hk' : k < (allS n).length := by omega
    by_cases h : p (allS n)[k] = true ∧ v (allS n)[k] < v (pkTo p v (allS n) k)
    · rw [pk_yes hk' h.1 h.2]; exact List.getElem_mem _
    · rw [pk_no hk' h]; exact pk_mem k (by omega)
end Go.Proofs.YtlglonjijfpgaaaGreat

namespace Go.Proofs.YtlglonjijfpgaaaGreat
open Go.RowKit Go.Sort

set_option maxRecDepth 100000 in
set_option maxHeartbeats 1000000 in
theorem l8All_any (f : Value) (F : Fld) (w : World) (hf : FldAt w f F) (hg : goodF F = true) :
    Calls Tryz.prog 35 #[f] w fun e w' => ∃ v, e = .returned v ∧ v ≠ .slice none 0 0 ∧ GOwn w' (some w.heap.size) w.heap.size v (allS F.op.length) ∧ Kp w w' := by
  have hn7 := (goodF_iff.1 hg).1.2
  obtain ⟨A, c, B, d, rfl, hA, hB⟩ := hf
  have hk0 : Kp w (w.alloc (.cells #[.slice A F.op.length c, .slice B F.di.length d] 27)) := (Kp.refl w).alloc _
  obtain ⟨d0, d1⟩ := box2 w (.slice A F.op.length c) (.slice B F.di.length d) 27
  have hFA := FldAt.kp (show FldAt w (.agg #[.slice A F.op.length c, .slice B F.di.length d]) F from ⟨A, c, B, d, rfl, hA, hB⟩) hk0
  clear hA hB hg
  go_enter Tryz.func35, Tryz.ntmps35
  go_wp2_with fail
  have hsz : Hid ((w.alloc (.cells #[.slice A F.op.length c, .slice B F.di.length d] 27)).heap.size = w.heap.size + 1) := by show _ = _; simp
  generalize w.alloc (.cells #[.slice A F.op.length c, .slice B F.di.length d] 27) = wb at *
  have hkb : Kp wb wb := Kp.refl _
  have hkw := hk0
  have u1 := own_new0 wb (w.heap.size + 1) (by rw [hsz.out]; exact Nat.le_refl _)
  have o1 := gown_one (base := w.heap.size + 1 + 1) (w := wb.alloc (.cells #[] 3)) (by simp; rw [hsz.out]; exact Nat.le_refl _) (RowP.of_own u1 (by simp)) (.inr (by simp))
  have hkc : Kp wb ((wb.alloc (.cells #[] 3)).alloc (.cells #[.slice (some ⟨wb.heap.size, 0, none⟩) 0 0] 24)) := ((Kp.refl wb).alloc _).alloc _
  simp only [World.size_alloc] at o1
  rw [hsz.out] at o1 hkc
  have hzc : Hid (((wb.alloc (.cells #[] 3)).alloc (.cells #[.slice (some ⟨w.heap.size + 1, 0, none⟩) 0 0] 24)).heap.size = w.heap.size + 1 + 1 + 1) := by show _ = _; simp; rw [hsz.out]
  have q_0 := hkc.get d0
  clear u1 hkb
  generalize (wb.alloc (.cells #[] 3)).alloc (.cells #[.slice (some ⟨w.heap.size + 1, 0, none⟩) 0 0] 24) = wc at *
  go_wp2_with fail
  have CC := Lib.hid (l2Sets_any F.op.length wc hn7)
  with_reducible refine Calls.mono CC.out ?_
  rintro e ws ⟨v2, rfl, hvn, hgo, hk1⟩
  clear CC
  have HLs : Hid ((setsL F.op.length).length ≤ 127) := by
    show _ ≤ _
    rw [setsL_len]
    have : 2 ^ F.op.length ≤ 2 ^ 7 := Nat.pow_le_pow_right (by omega) hn7
    omega
  obtain ⟨ad2, c2, hve, _, hrows⟩ := hgo.rows_some (by have := HLs.out; omega) hvn
  subst hve
  have hkb1 := (hkw.trans hkc).trans hk1
  have o11 := o1.kp hk1
  have hrm := hrows.mono (b' := w.heap.size + 1) (by rw [hzc.out]; omega)
  clear o1 hgo hvn
  have hap := Lib.hid (fun k (hk : k < (setsL F.op.length).length) (ad : Addr) (u : Value) (e : some ad2 = some ad) (hc : ws.cell? (ad.add k) = some u) (_ : RowP ws (some (w.heap.size + 1)) u (setsL F.op.length)[k]) (_ : (setsL F.op.length)[k] ≠ [] ∨ some (w.heap.size + 1) ≠ none) (g : Nat) (hg : u.ownBlock = some g) => (show (Value.slice (some ⟨w.heap.size + 1 + 1, 0, none⟩) 1 1).ownBlock ≠ some g from by
    obtain ⟨ad', u', e1, e2, e3⟩ := hrows.2 k hk
    cases e
    cases e1
    rw [e2] at hc
    cases hc
    have h1 := ((e3.2 _ rfl).lt g hg).1
    rw [hzc.out] at h1
    intro h2
    have h3 := own_blk' h2
    omega))
  have hs1 : w.heap.size + 1 + 1 ≤ ws.heap.size := by have := hk1.le; rw [hzc.out] at this; omega
  have hl3 : ([[]] : List (List Int)).length + (setsL F.op.length).length ≤ 4194304 := by have := HLs.out; simp; omega
  go_wp2_with (at_builtin; go_loud (refine wpl_appg_all rfl (.tmp 4) (.tmp 8) rfl (w.heap.size + 1 + 1) (.slice (some ⟨w.heap.size + 1 + 1, 0, none⟩) 1 1) [[]] (setsL F.op.length) (some ad2) _ c2 rfl rfl o11 hrm hap.out rfl hs1 hl3 ?_; intro v' w' ho' ht' h4'))
  have hkl : Kp w w' := hkb1.turn ht' (fun i hi => by have h3 := own_blk' hi; omega)
  go_ret
  exact ⟨_, rfl, ho'.not_nil (by simp), (ho'.mono (by omega)).lo_mono (Nat.le_succ _), hkl⟩
theorem pow_two_le7 {n : Nat} (h : n ≤ 7) : 2 ^ n ≤ 128 := Nat.pow_le_pow_right (by omega) h
theorem allS_most {F : Fld} (h : goodF F = true) : (allS F.op.length).length ≤ 128 := by rw [allS_len]; exact pow_two_le7 (goodF_iff.1 h).1.2
theorem fil_pos {p : List Int → Bool} {n : Nat} (h : p [] = true) : 0 < ((allS n).filter p).length := by simp [allS, h]
theorem fil_most {F : Fld} (hg : goodF F = true) (p : List Int → Bool) : ((allS F.op.length).filter p).length ≤ 128 := Nat.le_trans (List.length_filter_le _ _) (allS_most hg)
/-- The best one of the sets that pass. -/
def bgF (F : Fld) (worth : Int) (p : List Int → Bool) : List Int := bestL (negG F worth) ((allS F.op.length).filter p)
theorem bg_mem {F : Fld} {worth : Int} {p : List Int → Bool} (h : p [] = true) : bgF F worth p ∈ (allS F.op.length).filter p := bestL_mem (fil_pos h)
theorem bg_set {F : Fld} {worth : Int} {p : List Int → Bool} (h : p [] = true) : setB F (bgF F worth p) = true := allS_ris _ (List.mem_filter.1 (bg_mem h)).1
theorem bg_len {F : Fld} {worth : Int} {p : List Int → Bool} (h : p [] = true) : (bgF F worth p).length ≤ F.op.length := set_len (bg_set h)
end Go.Proofs.YtlglonjijfpgaaaGreat

namespace Go.Proofs.YtlglonjijfpgaaaGreat
open Go.RowKit Go.Sort

set_option maxRecDepth 100000 in
set_option maxHeartbeats 400000 in
theorem l8More_any (f : Value) (F : Fld) (worth : Int) (A0 : Option Addr) (S : List Int) (n c0 : Nat) (a : Int) (w : World) (hf : FldAt w f F) (hS : IntsAt w A0 S) (hn : S.length = n) (hc : n ≤ c0) (hg : goodF F = true) (hs : setB F S = true) (hw0 : 0 ≤ worth) (hw1 : worth ≤ 999) (ha0 : 0 ≤ a) (ha1 : a < F.op.length) :
    Calls Tryz.prog 32 #[f, .int .i64 worth, .slice A0 n c0, .int .i64 a] w fun e w' => e = .returned (.int .i64 (moreF F worth S a)) ∧ Kp w w' := by
  obtain ⟨A, c, B, d, rfl, hA, hB⟩ := hf
  have hk0 : Kp w (w.alloc (.cells #[.slice A F.op.length c, .slice B F.di.length d] 27)) := (Kp.refl w).alloc _
  obtain ⟨d0, d1⟩ := box2 w (.slice A F.op.length c) (.slice B F.di.length d) 27
  have hFA := FldAt.kp (show FldAt w (.agg #[.slice A F.op.length c, .slice B F.di.length d]) F from ⟨A, c, B, d, rfl, hA, hB⟩) hk0
  have hS0 := hS.kp hk0
  have hsp := setB_put hs ha0 ha1
  have h7 := (goodF_iff.1 hg).1.2
  have hl7 := setB_len hs
  have CP := Lib.hid (fun (wx : World) (hx : Kp _ wx) => l1Put_any A0 S n c0 a wx (hS0.kp hx) hn (ris_iff.1 hs).1 hc (by omega))
  have CG := Lib.hid (fun (wx : World) (hx : Kp _ wx) (Av : Option Addr) (cv : Nat) (hv : IntsAt wx Av (putL S a)) => l8Gain_any _ F worth Av (putL S a) (putL S a).length cv wx (hFA.kp hx) hv rfl hg hsp hw0 hw1)
  have CS := Lib.hid (fun (wx : World) (hx : Kp _ wx) => l8Gain_any _ F worth A0 S n c0 wx (hFA.kp hx) (hS0.kp hx) hn hg hs hw0 hw1)
  obtain ⟨b1, b2⟩ := gainF_bd hg hw0 hw1 S
  obtain ⟨b3, b4⟩ := gainF_bd hg hw0 hw1 (putL S a)
  clear hsp hS hg hs hS0 hA hB hn hc hl7 h7
  go_enter Tryz.func32, Tryz.ntmps32
  go_wp2_with fail
  have hsz : Hid ((w.alloc (.cells #[.slice A F.op.length c, .slice B F.di.length d] 27)).heap.size = w.heap.size + 1) := by show _ = _; simp
  generalize w.alloc (.cells #[.slice A F.op.length c, .slice B F.di.length d] 27) = wb at *
  have hkb : Kp wb wb := Kp.refl _
  have hkw := hk0
  have q_d0 := hkb.get d0
  have q_d1 := hkb.get d1
  have tok1 : True := trivial
  go_wp2_with fail
  go_region_held3 (fun w' => w'.cell? ⟨w.heap.size, 0, none⟩ = some (.slice A F.op.length c) ∧ w'.cell? ⟨w.heap.size, 1, none⟩ = some (.slice B F.di.length d) ∧ Kp wb w')
    (first | (refine keepc2 d0 d1 ?_; exact (by repeat (first | with_reducible assumption | with_reducible exact Kp.refl _ | with_reducible refine Kp.drew ?_ | with_reducible refine Kp.alloc ?_ _ | with_reducible refine Kp.drewN ?_ _ | refine Kp.setCell ?_ (by dsimp only; omega) _))) | fail)
    (first
      | (have _t := tok1; go_at_call 31; with_reducible refine Calls.mono (CP.out _ (by repeat (first | with_reducible assumption | with_reducible exact Kp.refl _ | with_reducible refine Kp.drew ?_ | with_reducible refine Kp.alloc ?_ _ | with_reducible refine Kp.drewN ?_ _ | refine Kp.setCell ?_ (by dsimp only; omega) _))) ?_; rintro e wr1 ⟨Av, cv, rfl, hcv, hiv, hka⟩; have hr1 : Kp wb wr1 := Kp.trans (by repeat (first | with_reducible assumption | with_reducible exact Kp.refl _ | with_reducible refine Kp.drew ?_ | with_reducible refine Kp.alloc ?_ _ | with_reducible refine Kp.drewN ?_ _ | refine Kp.setCell ?_ (by dsimp only; omega) _)) hka; have tok2 : True := trivial; clear tok1 _t)
      | (have _t := tok2; go_at_call 36; with_reducible refine Calls.mono (CG.out _ (by repeat (first | with_reducible assumption | with_reducible exact Kp.refl _ | with_reducible refine Kp.drew ?_ | with_reducible refine Kp.alloc ?_ _ | with_reducible refine Kp.drewN ?_ _ | refine Kp.setCell ?_ (by dsimp only; omega) _)) _ _ hiv) ?_; rintro e wr2 ⟨rfl, hka⟩; have hr2 : Kp wb wr2 := Kp.trans (by repeat (first | with_reducible assumption | with_reducible exact Kp.refl _ | with_reducible refine Kp.drew ?_ | with_reducible refine Kp.alloc ?_ _ | with_reducible refine Kp.drewN ?_ _ | refine Kp.setCell ?_ (by dsimp only; omega) _)) hka; have tok3 : True := trivial; clear tok2 _t)
      | (have _t := tok3; go_at_call 36; with_reducible refine Calls.mono (CS.out _ (by repeat (first | with_reducible assumption | with_reducible exact Kp.refl _ | with_reducible refine Kp.drew ?_ | with_reducible refine Kp.alloc ?_ _ | with_reducible refine Kp.drewN ?_ _ | refine Kp.setCell ?_ (by dsimp only; omega) _))) ?_; rintro e wr3 ⟨rfl, hka⟩; have hr3 : Kp wb wr3 := Kp.trans (by repeat (first | with_reducible assumption | with_reducible exact Kp.refl _ | with_reducible refine Kp.drew ?_ | with_reducible refine Kp.alloc ?_ _ | with_reducible refine Kp.drewN ?_ _ | refine Kp.setCell ?_ (by dsimp only; omega) _)) hka; have tok4 : True := trivial; clear tok3 _t)
      | fail)
  go_wp2_with fail
  go_ret
  exact ⟨ret_int (by rw [IntWalk.i64_in _ (by omega)]; rfl), hkw.trans hr3⟩

theorem bagN_bits {n b : Nat} (h : b < 2 ^ n) : bagN (bitsL n b) = b := by
  apply Nat.eq_of_testBit_eq
  intro i
  rw [bagN_bit (fun y hy => (mem_bitsL.1 hy).1)]
  by_cases hi : i < n
  · rw [Bool.eq_iff_iff, decide_eq_true_eq, mem_bitsL]
    constructor
    · rintro ⟨_, _, h⟩; simpa using h
    · intro h; exact ⟨by omega, by omega, by simpa using h⟩
  · rw [Nat.testBit_lt_two_pow (Nat.lt_of_lt_of_le h (Nat.pow_le_pow_right (by omega) (by omega)))]
    rw [decide_eq_false]
    intro hm
    have := (mem_bitsL.1 hm).2.1
    omega
set_option maxRecDepth 100000 in
set_option maxHeartbeats 400000 in
theorem marginal_any (f : Value) (F : Fld) (worth : Int) (b a : Nat) (w : World) (hf : FldAt w f F) (hg : goodF F = true) (hb : b < 2 ^ F.op.length) (hw0 : 0 ≤ worth) (hw1 : worth ≤ 999) (ha1 : a < F.op.length) :
    Calls Tryz.prog 47 #[f, .int .i64 worth, .int .u64 b, .int .i64 a] w fun e w' => e = .returned (.int .i64 (moreF F worth (bitsL F.op.length b) a)) ∧ Kp w w' := by
  obtain ⟨A, c, B, d, rfl, hA, hB⟩ := hf
  have hk0 : Kp w (w.alloc (.cells #[.slice A F.op.length c, .slice B F.di.length d] 27)) := (Kp.refl w).alloc _
  obtain ⟨d0, d1⟩ := box2 w (.slice A F.op.length c) (.slice B F.di.length d) 27
  have hFA := FldAt.kp (show FldAt w (.agg #[.slice A F.op.length c, .slice B F.di.length d]) F from ⟨A, c, B, d, rfl, hA, hB⟩) hk0
  have h7 := (goodF_iff.1 hg).1.2
  have hb7 : b < 2 ^ 7 := Nat.lt_of_lt_of_le hb (Nat.pow_le_pow_right (by omega) h7)
  have h2a : 2 ^ a < 2 ^ F.op.length := Nat.pow_lt_pow_right (by omega) ha1
  have ho := Nat.or_lt_two_pow hb h2a
  have ha7 : 2 ^ a < 2 ^ 7 := Nat.pow_lt_pow_right (by omega) (by omega)
  have hsh := u64_one_shl (a : Int) (by omega) (by omega)
  rw [Int.toNat_natCast] at hsh
  have hor := u64_or_nat b (2 ^ a) (by omega) (by omega)
  have C1 := Lib.hid (fun (wx : World) => list_any (b ||| 2 ^ a) F.op.length wx ho (by omega))
  have C3 := Lib.hid (fun (wx : World) => list_any b F.op.length wx hb (by omega))
  have hs1 : setB F (bitsL F.op.length (b ||| 2 ^ a)) = true := bitsL_set _
  have hs3 : setB F (bitsL F.op.length b) = true := bitsL_set _
  have hl1 := bitsL_len F.op.length (b ||| 2 ^ a)
  have hl3 := bitsL_len F.op.length b
  have C2 := Lib.hid (fun (wx : World) (hx : Kp _ wx) (Av : Option Addr) (cv : Nat) (hv : IntsAt wx Av (bitsL F.op.length (b ||| 2 ^ a))) => gain_any _ F worth Av _ _ cv wx (hFA.kp hx) hv rfl hg hs1 hw0 hw1)
  have C4 := Lib.hid (fun (wx : World) (hx : Kp _ wx) (Av : Option Addr) (cv : Nat) (hv : IntsAt wx Av (bitsL F.op.length b)) => gain_any _ F worth Av _ _ cv wx (hFA.kp hx) hv rfl hg hs3 hw0 hw1)
  have hm := Lib.hid (show gainF F worth (bitsL F.op.length (b ||| 2 ^ a)) - gainF F worth (bitsL F.op.length b) = moreF F worth (bitsL F.op.length b) a from by rw [bits_put ha1]; rfl)
  obtain ⟨b1, b2⟩ := gainF_bd hg hw0 hw1 (bitsL F.op.length (b ||| 2 ^ a))
  obtain ⟨b3, b4⟩ := gainF_bd hg hw0 hw1 (bitsL F.op.length b)
  clear hs1 hs3 hg hA hB ho hb h2a
  generalize 2 ^ a = pa at *
  go_enter Tryz.func47, Tryz.ntmps47
  go_wp2_with fail
  have hsz : Hid ((w.alloc (.cells #[.slice A F.op.length c, .slice B F.di.length d] 27)).heap.size = w.heap.size + 1) := by show _ = _; simp
  generalize w.alloc (.cells #[.slice A F.op.length c, .slice B F.di.length d] 27) = wb at *
  have hkb : Kp wb wb := Kp.refl _
  have hkw := hk0
  have q_d0 := hkb.get d0
  have q_d1 := hkb.get d1
  have tok1 : True := trivial
  go_wp2_with fail
  go_region_held3 (fun w' => w'.cell? ⟨w.heap.size, 0, none⟩ = some (.slice A F.op.length c) ∧ w'.cell? ⟨w.heap.size, 1, none⟩ = some (.slice B F.di.length d) ∧ Kp wb w')
    (first | (refine keepc2 d0 d1 ?_; exact (by repeat (first | with_reducible assumption | with_reducible exact Kp.refl _ | with_reducible refine Kp.drew ?_ | with_reducible refine Kp.alloc ?_ _ | with_reducible refine Kp.drewN ?_ _ | refine Kp.setCell ?_ (by dsimp only; omega) _))) | fail)
    (first
      | (have _t := tok1; go_at_call 50; with_reducible refine Calls.mono (C1.out _) ?_; rintro e wr1 ⟨v1, rfl, hov, hka⟩; have hr1 : Kp wb wr1 := Kp.trans (by repeat (first | with_reducible assumption | with_reducible exact Kp.refl _ | with_reducible refine Kp.drew ?_ | with_reducible refine Kp.alloc ?_ _ | with_reducible refine Kp.drewN ?_ _ | refine Kp.setCell ?_ (by dsimp only; omega) _)) hka; obtain ⟨Av, cv, hve, hiv⟩ := hov.ints (by omega); subst hve; have tok2 : True := trivial; clear tok1 _t)
      | (have _t := tok2; go_at_call 38; with_reducible refine Calls.mono (C2.out _ (by repeat (first | with_reducible assumption | with_reducible exact Kp.refl _ | with_reducible refine Kp.drew ?_ | with_reducible refine Kp.alloc ?_ _ | with_reducible refine Kp.drewN ?_ _ | refine Kp.setCell ?_ (by dsimp only; omega) _)) _ _ hiv) ?_; rintro e wr2 ⟨rfl, hka⟩; have hr2 : Kp wb wr2 := Kp.trans (by repeat (first | with_reducible assumption | with_reducible exact Kp.refl _ | with_reducible refine Kp.drew ?_ | with_reducible refine Kp.alloc ?_ _ | with_reducible refine Kp.drewN ?_ _ | refine Kp.setCell ?_ (by dsimp only; omega) _)) hka; have tok3 : True := trivial; clear tok2 _t)
      | (have _t := tok3; go_at_call 50; with_reducible refine Calls.mono (C3.out _) ?_; rintro e wr3 ⟨v3, rfl, hov3, hka⟩; have hr3 : Kp wb wr3 := Kp.trans (by repeat (first | with_reducible assumption | with_reducible exact Kp.refl _ | with_reducible refine Kp.drew ?_ | with_reducible refine Kp.alloc ?_ _ | with_reducible refine Kp.drewN ?_ _ | refine Kp.setCell ?_ (by dsimp only; omega) _)) hka; obtain ⟨Aw, cw, hwe, hiw⟩ := hov3.ints (by omega); subst hwe; have tok4 : True := trivial; clear tok3 _t)
      | (have _t := tok4; go_at_call 38; with_reducible refine Calls.mono (C4.out _ (by repeat (first | with_reducible assumption | with_reducible exact Kp.refl _ | with_reducible refine Kp.drew ?_ | with_reducible refine Kp.alloc ?_ _ | with_reducible refine Kp.drewN ?_ _ | refine Kp.setCell ?_ (by dsimp only; omega) _)) _ _ hiw) ?_; rintro e wr4 ⟨rfl, hka⟩; have hr4 : Kp wb wr4 := Kp.trans (by repeat (first | with_reducible assumption | with_reducible exact Kp.refl _ | with_reducible refine Kp.drew ?_ | with_reducible refine Kp.alloc ?_ _ | with_reducible refine Kp.drewN ?_ _ | refine Kp.setCell ?_ (by dsimp only; omega) _)) hka; have tok5 : True := trivial; clear tok4 _t)
      | fail)
  go_wp2_with fail
  go_ret
  exact ⟨ret_int (by rw [IntWalk.i64_in _ (by omega)]; exact hm.out), hkw.trans hr4⟩
end Go.Proofs.YtlglonjijfpgaaaGreat

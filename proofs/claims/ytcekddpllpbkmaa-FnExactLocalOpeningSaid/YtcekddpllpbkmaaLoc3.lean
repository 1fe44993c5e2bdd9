/- Moves of a set: the reference's choice; the program's closure and sets without a site. No condition. -/
import Derived.Test.YtcekddpllpbkmaaLoc2
namespace Go.Proofs.Ytcekddpllpbkmaa
open Go.RowKit Go.Sort

theorem find_at {rows : List (List Int)} {p : List Int → Bool} {k : Nat} (hk : k < rows.length) (h : ∀ T ∈ rows.take k, p T = false) (h2 : p rows[k] = true) : rows.find? p = some rows[k] := by
  have e : rows = rows.take k ++ rows[k] :: rows.drop (k + 1) := by rw [← List.drop_eq_getElem_cons hk, List.take_append_drop]
  conv => lhs; rw [e]
  rw [List.find?_append, List.find?_eq_none.2 (fun T hT => by rw [h T hT]; simp), List.find?_cons_of_pos h2]
  rfl
theorem find_none {rows : List (List Int)} {p : List Int → Bool} {k : Nat} (hk : rows.length ≤ k) (h : ∀ T ∈ rows.take k, p T = false) : rows.find? p = none := by
  rw [List.take_of_length_le hk] at h
  exact List.find?_eq_none.2 (fun T hT => by rw [h T hT]; simp)
theorem none_next {rows : List (List Int)} {p : List Int → Bool} {k : Nat} (hk : k < rows.length) (h : ∀ T ∈ rows.take k, p T = false) (h2 : p rows[k] = false) : ∀ T ∈ rows.take (k + 1), p T = false := by
  intro T hT
  rw [List.take_succ_eq_append_getElem hk] at hT
  rcases List.mem_append.1 hT with hT | hT
  · exact h T hT
  · have : T = rows[k] := by simpa using hT
    rw [this]; exact h2
theorem movesL_len {F : Fld} {S : List Int} (h7 : F.op.length ≤ 7) : (movesL F S).length ≤ 63 := by
  unfold movesL
  rw [List.length_append, List.length_append]
  have h1 := opTo_len S F.op.length
  have h2 := clTo_len S F.op.length
  have h3 := swTo_small (S := S) h7 h7
  omega
set_option maxRecDepth 100000 in
set_option maxHeartbeats 2000000 in
theorem l3Better_any (f : Value) (F : Fld) (A0 : Option Addr) (S : List Int) (n c0 : Nat) (w : World) (hf : FldAt w f F) (hS : IntsAt w A0 S) (hn : S.length = n) (hc : n ≤ c0) (hg : goodF F = true) (hs : setB F S = true) (hne : S ≠ []) :
    Calls Try.prog 68 #[f, .slice A0 n c0] w fun e w' => ∃ v, e = .returned (.tuple #[v, .bool (betF F S).isSome]) ∧ Own w' w.heap.size v ((betF F S).getD []) ∧ Kp w w' := by
  obtain ⟨A, c, B, d, rfl, hA, hB⟩ := hf
  have hk0 : Kp w (w.alloc (.cells #[.slice A F.op.length c, .slice B F.di.length d] 29)) := (Kp.refl w).alloc _
  obtain ⟨d0, d1⟩ := box2 w (.slice A F.op.length c) (.slice B F.di.length d) 29
  have hFA := FldAt.kp (show FldAt w (.agg #[.slice A F.op.length c, .slice B F.di.length d]) F from ⟨A, c, B, d, rfl, hA, hB⟩) hk0
  replace hS := hS.kp hk0
  have h7n := (goodF_iff.1 hg).1.2
  have HG := Lib.hid hg; have HS := Lib.hid hs; have HE := Lib.hid hne; have Hn := Lib.hid hn
  clear hA hB hg hs hne hn
  go_enter Try.func68, Try.ntmps68
  go_wp2_with fail
  have hsz : Hid ((w.alloc (.cells #[.slice A F.op.length c, .slice B F.di.length d] 29)).heap.size = w.heap.size + 1) := by show _ = _; simp
  generalize w.alloc (.cells #[.slice A F.op.length c, .slice B F.di.length d] 29) = wb at *
  have hkb : Kp wb wb := Kp.refl _
  have hkw := hk0
  have q_d0 := hkb.get d0
  have q_d1 := hkb.get d1
  go_wp2_with fail
  have CC := Lib.hid (l3Moves_any _ F A0 S n c0 _ (hFA.kp hkb) (hS.kp hkb) Hn.out hc HG.out HS.out)
  with_reducible refine Calls.mono CC.out ?_
  rintro e w1 ⟨v, rfl, hgo, hk1⟩
  clear CC q_d0 q_d1
  replace hkb := hkb.trans hk1
  have Hok := Lib.hid (moves_ok HS.out HE.out)
  have hml := movesL_len (S := S) h7n
  obtain ⟨Am, cm, hve, _, hrows⟩ := hgo.rows (by omega)
  subst hve
  have Hbet : Hid (betF F S = (movesL F S).find? (lessB F S)) := rfl
  obtain ⟨rows, hre⟩ : ∃ rows, rows = movesL F S := ⟨_, rfl⟩
  rw [← hre] at hrows hml Hok Hbet ⊢
  clear hre hgo
  obtain ⟨wl, rfl⟩ : ∃ wl : World, wl = w1 := ⟨_, rfl⟩
  have hkl := hkb
  have hFl := hFA.kp hkb
  have hSl := hS.kp hkb
  have g0 := hkb.get d0
  have g1 := hkb.get d1
  have hb0 : w.heap.size ≤ wb.heap.size := hkw.le
  go_wp2_with fail
  go_loopw [7] (fun iv wr => ∃ k : Nat, k ≤ rows.length ∧ iv = .int .i64 k ∧ Hid (∀ T ∈ rows.take k, lessB F S T = false) ∧ Kp wl wr) (fun iv _ => rows.length - (intOf iv).toNat)
  case atStart => exact ⟨0, by omega, rfl, (by show ∀ T ∈ rows.take 0, _; simp), Kp.refl _⟩
  case round =>
    obtain ⟨k, hk, rfl, Hp, hkr⟩ := hrel
    by_cases hlt : k < rows.length
    · obtain ⟨ad, A2, c2, rfl, hcl, hc3, hri, hrp⟩ := hrows.at_ hlt
      have hq := Lib.hid (Hok.out _ (List.getElem_mem hlt))
      have C1 := Lib.hid (fun (wx : World) (hx : Kp wl wx) => l2Total_any _ F A2 rows[k] _ c2 wx (hFl.kp hx) (hri.kp hx) rfl HG.out hq.out.1 hq.out.2)
      have C2 := Lib.hid (fun (wx : World) (hx : Kp wl wx) => l2Total_any _ F A0 S n c0 wx (hFl.kp hx) (hSl.kp hx) Hn.out HG.out HS.out HE.out)
      by_cases hl : totF F rows[k] < totF F S
      · have He := Lib.hid (Hbet.out.trans (find_at hlt Hp.out (decide_eq_true hl)))
        have q_g0 := hkr.get g0
        have q_g1 := hkr.get g1
        have q_hcl := hkr.get hcl
        have tok1 : True := trivial
        go_wp2_with fail
        go_region_held3 (fun w' => w'.cell? ⟨w.heap.size, 0, none⟩ = some (.slice A F.op.length c) ∧ w'.cell? ⟨w.heap.size, 1, none⟩ = some (.slice B F.di.length d) ∧ w'.cell? (ad.add k) = some (.slice A2 rows[k].length c2) ∧ Kp wl w')
          (first | (refine keepc3 g0 g1 hcl ?_; exact (by repeat (first | with_reducible assumption | with_reducible exact Kp.refl _ | with_reducible refine Kp.drew ?_ | with_reducible refine Kp.alloc ?_ _ | with_reducible refine Kp.drewN ?_ _))) | fail)
          (first
            | (have _t := tok1; go_at_call 96; with_reducible refine Calls.mono (C1.out _ (by repeat (first | with_reducible assumption | with_reducible exact Kp.refl _ | with_reducible refine Kp.drew ?_ | with_reducible refine Kp.alloc ?_ _ | with_reducible refine Kp.drewN ?_ _))) ?_; rintro e wr1 ⟨rfl, hka⟩; have hr1 : Kp wl wr1 := Kp.trans (by repeat (first | with_reducible assumption | with_reducible exact Kp.refl _ | with_reducible refine Kp.drew ?_ | with_reducible refine Kp.alloc ?_ _ | with_reducible refine Kp.drewN ?_ _)) hka; have tok2 : True := trivial; clear tok1 _t)
            | (have _t := tok2; go_at_call 96; with_reducible refine Calls.mono (C2.out _ (by repeat (first | with_reducible assumption | with_reducible exact Kp.refl _ | with_reducible refine Kp.drew ?_ | with_reducible refine Kp.alloc ?_ _ | with_reducible refine Kp.drewN ?_ _))) ?_; rintro e wr2 ⟨rfl, hka⟩; have hr2 : Kp wl wr2 := Kp.trans (by repeat (first | with_reducible assumption | with_reducible exact Kp.refl _ | with_reducible refine Kp.drew ?_ | with_reducible refine Kp.alloc ?_ _ | with_reducible refine Kp.drewN ?_ _)) hka; have tok3 : True := trivial; clear tok2 _t)
            | fail)
        have hc4 := hr2.get hcl
        go_wp2_with fail
        go_ret2
        exact ⟨.slice A2 rows[k].length c2, by rw [He.out]; rfl, by rw [He.out]; exact ((hrp.2 _ rfl).kp hr2).mono hb0, hkw.trans (hkl.trans hr2)⟩
      · have Hy := Lib.hid (none_next (p := lessB F S) hlt Hp.out (decide_eq_false hl))
        have q_g0 := hkr.get g0
        have q_g1 := hkr.get g1
        have q_hcl := hkr.get hcl
        have tok1 : True := trivial
        go_wp2_with fail
        go_region_held3 (fun w' => w'.cell? ⟨w.heap.size, 0, none⟩ = some (.slice A F.op.length c) ∧ w'.cell? ⟨w.heap.size, 1, none⟩ = some (.slice B F.di.length d) ∧ w'.cell? (ad.add k) = some (.slice A2 rows[k].length c2) ∧ Kp wl w')
          (first | (refine keepc3 g0 g1 hcl ?_; exact (by repeat (first | with_reducible assumption | with_reducible exact Kp.refl _ | with_reducible refine Kp.drew ?_ | with_reducible refine Kp.alloc ?_ _ | with_reducible refine Kp.drewN ?_ _))) | fail)
          (first
            | (have _t := tok1; go_at_call 96; with_reducible refine Calls.mono (C1.out _ (by repeat (first | with_reducible assumption | with_reducible exact Kp.refl _ | with_reducible refine Kp.drew ?_ | with_reducible refine Kp.alloc ?_ _ | with_reducible refine Kp.drewN ?_ _))) ?_; rintro e wr1 ⟨rfl, hka⟩; have hr1 : Kp wl wr1 := Kp.trans (by repeat (first | with_reducible assumption | with_reducible exact Kp.refl _ | with_reducible refine Kp.drew ?_ | with_reducible refine Kp.alloc ?_ _ | with_reducible refine Kp.drewN ?_ _)) hka; have tok2 : True := trivial; clear tok1 _t)
            | (have _t := tok2; go_at_call 96; with_reducible refine Calls.mono (C2.out _ (by repeat (first | with_reducible assumption | with_reducible exact Kp.refl _ | with_reducible refine Kp.drew ?_ | with_reducible refine Kp.alloc ?_ _ | with_reducible refine Kp.drewN ?_ _))) ?_; rintro e wr2 ⟨rfl, hka⟩; have hr2 : Kp wl wr2 := Kp.trans (by repeat (first | with_reducible assumption | with_reducible exact Kp.refl _ | with_reducible refine Kp.drew ?_ | with_reducible refine Kp.alloc ?_ _ | with_reducible refine Kp.drewN ?_ _)) hka; have tok3 : True := trivial; clear tok2 _t)
            | fail)
        go_wp2_with fail
        go_roundw
        case rel => exact ⟨k + 1, by omega, by go_num, Hy.out, hr2⟩
        case measure => simp [intOf]; omega
    · have He := Lib.hid (Hbet.out.trans (find_none (by omega) Hp.out))
      go_wp2_with fail
      go_ret2
      have hb1 : w.heap.size ≤ wr.heap.size := Nat.le_trans hb0 (hkl.trans hkr).le
      exact ⟨.slice (some ⟨wr.heap.size, 0, none⟩) 0 0, by rw [He.out]; rfl, by rw [He.out]; exact own_new0 wr w.heap.size hb1, hkw.trans ((hkl.trans hkr).alloc _)⟩
/-- A number of a set without a site. -/
def offN (b x : Nat) : Nat := (BitVec.ofNat 64 b &&& ~~~ BitVec.ofNat 64 (2 ^ x)).toNat
theorem offN_bit {b x i : Nat} (hb : b < 18446744073709551616) (hx : x < 64) : (offN b x).testBit i = (b.testBit i && decide (i ≠ x)) := by
  unfold offN
  rw [← BitVec.getLsbD, BitVec.getLsbD_and, BitVec.getLsbD_not, BitVec.getLsbD_ofNat, BitVec.getLsbD_ofNat, Nat.testBit_two_pow]
  by_cases hi : i < 64
  · by_cases e : i = x
    · subst e; simp [hi]
    · have e2 : ¬ x = i := fun h => e h.symm
      simp [hi, e, e2]
  · have : b.testBit i = false := Nat.testBit_lt_two_pow (Nat.lt_of_lt_of_le hb (by
      have := Nat.pow_le_pow_right (n := 2) (by omega) (show 64 ≤ i by omega)
      omega))
    simp [hi, this]
theorem offN_le {b x : Nat} (hb : b < 18446744073709551616) (hx : x < 64) {n : Nat} (h : b < 2 ^ n) : offN b x < 2 ^ n := by
  apply Nat.lt_pow_two_of_testBit
  intro i hi
  rw [offN_bit hb hx, Nat.testBit_lt_two_pow (Nat.lt_of_lt_of_le h (Nat.pow_le_pow_right (by omega) hi))]
  rfl
theorem bits_off {n b x : Nat} (hb : b < 18446744073709551616) (hx : x < 64) : bitsL n (offN b x) = woL (bitsL n b) (x : Int) := by
  refine rising_ext (bitsL_sorted _ _) ((bitsL_sorted _ _).filter _) (fun y => ?_)
  rw [mem_woL, mem_bitsL, mem_bitsL, offN_bit hb hx, Bool.and_eq_true, decide_eq_true_eq]
  constructor
  · rintro ⟨h0, h1, h2, h3⟩
    exact ⟨⟨h0, h1, h2⟩, by omega⟩
  · rintro ⟨⟨h0, h1, h2⟩, h3⟩
    exact ⟨h0, h1, h2, by omega⟩
theorem u64_off_nat (b x : Nat) (hb : b < 18446744073709551616) (hx : x < 64) : bits .andNot .u64 (b : Int) ((2 ^ x : Nat) : Int) = (offN b x : Int) := by
  have hz : offN b x < 18446744073709551616 := offN_le (n := 64) hb hx (by omega)
  show IntKind.u64.wrap ((BitVec.ofInt 64 (b : Int) &&& ~~~ BitVec.ofInt 64 ((2 ^ x : Nat) : Int)).toNat : Int) = _
  rw [BitVec.ofInt_natCast, BitVec.ofInt_natCast]
  show IntKind.u64.wrap (offN b x : Int) = _
  rw [IntKind.wrap_u64]
  omega
end Go.Proofs.Ytcekddpllpbkmaa

/- Moves of a set: the program's closure; prefixes of the moves. No condition. -/
import Derived.Test.YtcekddpllpbkmaaLoc3
import Derived.WalkSpells
namespace Go.Proofs.Ytcekddpllpbkmaa
open Go.RowKit Go.Sort

theorem find_pre {pre L : List (List Int)} {T : List Int} {p : List Int → Bool} (h : pre ++ [T] <+: L) (h1 : ∀ x ∈ pre, p x = false) (h2 : p T = true) : L.find? p = some T := by
  obtain ⟨t, rfl⟩ := h
  rw [List.append_assoc, List.find?_append, List.find?_eq_none.2 (fun x hx => by rw [h1 x hx]; simp)]
  show (List.find? p (T :: t)) = _
  rw [List.find?_cons_of_pos h2]
theorem all_snoc {pre : List (List Int)} {T : List Int} {p : List Int → Bool} (h1 : ∀ x ∈ pre, p x = false) (h2 : p T = false) : ∀ x ∈ pre ++ [T], p x = false := by
  intro x hx
  rcases List.mem_append.1 hx with hx | hx
  · exact h1 x hx
  · have : x = T := by simpa using hx
    rw [this]; exact h2
theorem outN_pre {n k : Nat} (S : List Int) (h : k ≤ n) : outN k S <+: outN n S := by
  unfold outN
  refine List.IsPrefix.filter _ ?_
  obtain ⟨d, rfl⟩ : ∃ d, n = k + d := ⟨n - k, by omega⟩
  rw [List.range_add]
  exact List.prefix_append _ _
theorem opTo_pre {n k : Nat} (S : List Int) (h : k ≤ n) : opTo S k <+: opTo S n := (outN_pre S h).map _
theorem swIn_pre {n k : Nat} (S : List Int) (s : Int) (h : k ≤ n) : swIn S s k <+: swIn S s n := (outN_pre S h).map _
theorem pre_left {a b c : List (List Int)} (h : a <+: b) : c ++ a <+: c ++ b := by
  obtain ⟨t, rfl⟩ := h
  exact ⟨t, by rw [List.append_assoc]⟩
theorem pre_right {a b c : List (List Int)} (h : a <+: b) : a <+: b ++ c := h.trans (List.prefix_append _ _)
/-- The parts that the program has tried. -/
def clK (S : List Int) (k : Nat) : List (List Int) := if 1 < S.length then (S.take k).map (woL S) else []
def swK (n : Nat) (S : List Int) (k : Nat) : List (List Int) := (S.take k).flatMap fun s => swIn S s n
theorem clK_all {F : Fld} {S : List Int} (h : setB F S = true) {k : Nat} (hk : S.length ≤ k) : clK S k = clTo S F.op.length := by
  rw [cl_set h]; unfold clK; rw [List.take_of_length_le hk]
theorem swK_all {F : Fld} {S : List Int} (h : setB F S = true) {k : Nat} (hk : S.length ≤ k) : swK F.op.length S k = swTo F.op.length S F.op.length := by
  rw [sw_set h]; unfold swK; rw [List.take_of_length_le hk]
theorem clK_succ {S : List Int} {k : Nat} (hk : k < S.length) (h2 : 1 < S.length) : clK S (k + 1) = clK S k ++ [woL S S[k]] := by
  unfold clK
  rw [if_pos h2, if_pos h2, List.take_succ_eq_append_getElem hk, List.map_append]; rfl
theorem clK_none {S : List Int} {k : Nat} (h2 : ¬ 1 < S.length) : clK S k = [] := if_neg h2
theorem swK_succ {n : Nat} {S : List Int} {k : Nat} (hk : k < S.length) : swK n S (k + 1) = swK n S k ++ swIn S S[k] n := by
  unfold swK
  rw [List.take_succ_eq_append_getElem hk, List.flatMap_append, List.flatMap_cons, List.flatMap_nil, List.append_nil]
theorem clK_pre {S : List Int} {k j : Nat} (h : k ≤ j) : clK S k <+: clK S j := by
  unfold clK
  by_cases h2 : 1 < S.length
  · rw [if_pos h2, if_pos h2]
    refine List.IsPrefix.map _ ?_
    have : S.take k = (S.take j).take k := by rw [List.take_take, Nat.min_eq_left h]
    rw [this]; exact List.take_prefix _ _
  · rw [if_neg h2, if_neg h2]; exact List.prefix_rfl
theorem swK_pre {n : Nat} {S : List Int} {k : Nat} (hk : k < S.length) : swK n S (k + 1) <+: swK n S S.length := by
  unfold swK
  have e : S.take S.length = S.take (k + 1) ++ S.drop (k + 1) := by rw [List.take_length, List.take_append_drop]
  rw [e, List.flatMap_append]
  exact List.prefix_append _ _
def Fin (w w' : World) (po : Nat) (r : Option (List Int)) : Prop :=
  match r with
  | none => Kp w w'
  | some T => ∃ w1 Av cv, Kp w w1 ∧ Own w1 w.heap.size (.slice Av T.length cv) T ∧ w' = w1.setCell ⟨po, 0, none⟩ (.slice Av T.length cv)
set_option maxRecDepth 100000 in
set_option maxHeartbeats 1000000 in
theorem betNo_any (F : Fld) (A : Option Addr) (c : Nat) (B : Option Addr) (d : Nat) (tot : Int) (pf pt po : Nat) (w : World) (hf : FldAt w (.agg #[.slice A F.op.length c, .slice B F.di.length d]) F) (x0 : w.cell? ⟨pf, 0, none⟩ = some (.slice A F.op.length c)) (x1 : w.cell? ⟨pf, 1, none⟩ = some (.slice B F.di.length d)) (y0 : w.cell? ⟨pt, 0, none⟩ = some (.int .i64 tot)) (hr : w.rowIs po 22 1 (fun _ => .slice none 0 0))
    (Av : Option Addr) (S : List Int) (n cv : Nat) (hS : IntsAt w Av S) (hn : S.length = n) (hg : goodF F = true) (hs : setB F S = true) (hne : S ≠ []) (hlt : ¬ totF F S < tot) :
    Calls Try.prog 99 #[.slice Av n cv, .pointer (some ⟨pf, 0, none⟩), .pointer (some ⟨pt, 0, none⟩), .pointer (some ⟨po, 0, none⟩)] w fun e w' => e = .returned (.bool true) ∧ Kp w w' := by
  have C1 := Lib.hid (fun (wx : World) (hx : Kp w wx) => total_any _ F Av S n cv wx (hf.kp hx) (hS.kp hx) hn hg hs hne)
  obtain ⟨ad, rfl⟩ : ∃ ad, Av = some ad := by obtain ⟨ad, e, _⟩ := hS.at_ (k := 0) (List.length_pos_iff.2 hne); exact ⟨ad, e⟩
  have hq := fun (w : World) (a : Option Addr) (n c : Nat) => Lib.run_eql_slice_nil (P := Try.prog) w 22 3 a n c 0 0 Try.underlying22
  have Hr := Lib.hid hr
  clear hf hS hn hg hs hne hr
  have hkz : Kp w w := Kp.refl _
  go_enter Try.func99, Try.ntmps99
  go_wp2_with fail
  have q_x0 := hkz.get x0
  have q_x1 := hkz.get x1
  have q_y0 := hkz.get y0
  have tok1 : True := trivial
  go_wp2_with fail
  go_region_held3 (fun w' => w'.cell? ⟨pf, 0, none⟩ = some (.slice A F.op.length c) ∧ w'.cell? ⟨pf, 1, none⟩ = some (.slice B F.di.length d) ∧ w'.cell? ⟨pt, 0, none⟩ = some (.int .i64 tot) ∧ Kp w w')
    (first | (refine keepc3 x0 x1 y0 ?_; exact (by repeat (first | with_reducible assumption | with_reducible exact Kp.refl _ | with_reducible refine Kp.drew ?_ | with_reducible refine Kp.alloc ?_ _ | with_reducible refine Kp.drewN ?_ _))) | fail)
    (first
      | (have _t := tok1; go_at_call 97; with_reducible refine Calls.mono (C1.out _ (by repeat (first | with_reducible assumption | with_reducible exact Kp.refl _ | with_reducible refine Kp.drew ?_ | with_reducible refine Kp.alloc ?_ _ | with_reducible refine Kp.drewN ?_ _))) ?_; rintro e wr1 ⟨rfl, hka⟩; have hr1 : Kp w wr1 := Kp.trans (by repeat (first | with_reducible assumption | with_reducible exact Kp.refl _ | with_reducible refine Kp.drew ?_ | with_reducible refine Kp.alloc ?_ _ | with_reducible refine Kp.drewN ?_ _)) hka; have tok2 : True := trivial; clear tok1 _t)
      | fail)
  have hr2 := hr1.row Hr.out
  have hc := hr2.cell (i := 0) (by omega)
  have hfz := hr2.frozen 0
  go_wp2_with fail
  go_ret
  exact ⟨rfl, hr1⟩
set_option maxRecDepth 100000 in
set_option maxHeartbeats 1000000 in
theorem betYes_any (F : Fld) (A : Option Addr) (c : Nat) (B : Option Addr) (d : Nat) (tot : Int) (pf pt po : Nat) (w : World) (hf : FldAt w (.agg #[.slice A F.op.length c, .slice B F.di.length d]) F) (x0 : w.cell? ⟨pf, 0, none⟩ = some (.slice A F.op.length c)) (x1 : w.cell? ⟨pf, 1, none⟩ = some (.slice B F.di.length d)) (y0 : w.cell? ⟨pt, 0, none⟩ = some (.int .i64 tot)) (hr : w.rowIs po 22 1 (fun _ => .slice none 0 0))
    (Av : Option Addr) (S : List Int) (n cv : Nat) (hS : IntsAt w Av S) (hn : S.length = n) (hg : goodF F = true) (hs : setB F S = true) (hne : S ≠ []) (hlt : totF F S < tot) :
    Calls Try.prog 99 #[.slice Av n cv, .pointer (some ⟨pf, 0, none⟩), .pointer (some ⟨pt, 0, none⟩), .pointer (some ⟨po, 0, none⟩)] w fun e w' => e = .returned (.bool false) ∧ ∃ w1, Kp w w1 ∧ w' = w1.setCell ⟨po, 0, none⟩ (.slice Av n cv) := by
  have C1 := Lib.hid (fun (wx : World) (hx : Kp w wx) => total_any _ F Av S n cv wx (hf.kp hx) (hS.kp hx) hn hg hs hne)
  obtain ⟨ad, rfl⟩ : ∃ ad, Av = some ad := by obtain ⟨ad, e, _⟩ := hS.at_ (k := 0) (List.length_pos_iff.2 hne); exact ⟨ad, e⟩
  have hq := fun (w : World) (a : Option Addr) (n c : Nat) => Lib.run_eql_slice_nil (P := Try.prog) w 22 3 a n c 0 0 Try.underlying22
  have Hr := Lib.hid hr
  clear hf hS hn hg hs hne hr
  have hkz : Kp w w := Kp.refl _
  go_enter Try.func99, Try.ntmps99
  go_wp2_with fail
  have q_x0 := hkz.get x0
  have q_x1 := hkz.get x1
  have q_y0 := hkz.get y0
  have tok1 : True := trivial
  go_wp2_with fail
  go_region_held3 (fun w' => w'.cell? ⟨pf, 0, none⟩ = some (.slice A F.op.length c) ∧ w'.cell? ⟨pf, 1, none⟩ = some (.slice B F.di.length d) ∧ w'.cell? ⟨pt, 0, none⟩ = some (.int .i64 tot) ∧ Kp w w')
    (first | (refine keepc3 x0 x1 y0 ?_; exact (by repeat (first | with_reducible assumption | with_reducible exact Kp.refl _ | with_reducible refine Kp.drew ?_ | with_reducible refine Kp.alloc ?_ _ | with_reducible refine Kp.drewN ?_ _))) | fail)
    (first
      | (have _t := tok1; go_at_call 97; with_reducible refine Calls.mono (C1.out _ (by repeat (first | with_reducible assumption | with_reducible exact Kp.refl _ | with_reducible refine Kp.drew ?_ | with_reducible refine Kp.alloc ?_ _ | with_reducible refine Kp.drewN ?_ _))) ?_; rintro e wr1 ⟨rfl, hka⟩; have hr1 : Kp w wr1 := Kp.trans (by repeat (first | with_reducible assumption | with_reducible exact Kp.refl _ | with_reducible refine Kp.drew ?_ | with_reducible refine Kp.alloc ?_ _ | with_reducible refine Kp.drewN ?_ _)) hka; have tok2 : True := trivial; clear tok1 _t)
      | fail)
  have hr2 := hr1.row Hr.out
  have hc := hr2.cell (i := 0) (by omega)
  have hfz := hr2.frozen 0
  go_wp2_with fail
  go_ret
  exact ⟨rfl, wr1, hr1, rfl⟩
set_option maxRecDepth 100000 in
set_option maxHeartbeats 400000 in
theorem swapped_any (A0 : Option Addr) (F : Fld) (S : List Int) (n c0 a b : Nat) (w : World) (hS : IntsAt w A0 S) (hn : S.length = n) (hs : setB F S = true) (h7 : F.op.length ≤ 7) (ha : a < F.op.length) (hb : b < F.op.length) :
    Calls Try.prog 120 #[.slice A0 n c0, .int .i64 a, .int .i64 b] w fun e w' => ∃ v, e = .returned v ∧ Own w' w.heap.size v (putL (woL S (a : Int)) (b : Int)) ∧ Kp w w' := by
  have hm := set_mem hs
  have hbn : bagN S < 2 ^ F.op.length := bagN_lt hm
  have hb7 : bagN S < 128 := Nat.lt_of_lt_of_le hbn (Nat.pow_le_pow_right (n := 2) (by omega) h7)
  have hsb := set_bits hs
  have ha7 : 2 ^ a < 2 ^ 7 := Nat.pow_lt_pow_right (by omega) (by omega)
  have hb72 : 2 ^ b < 2 ^ 7 := Nat.pow_lt_pow_right (by omega) (by omega)
  have hsh := u64_one_shl (a : Int) (by omega) (by omega)
  have hsh2 := u64_one_shl (b : Int) (by omega) (by omega)
  rw [Int.toNat_natCast] at hsh hsh2
  have hoff := u64_off_nat (bagN S) a (by omega) (by omega)
  have hol := offN_le (x := a) (by omega) (by omega) hbn
  have hol7 : offN (bagN S) a < 128 := Nat.lt_of_lt_of_le hol (Nat.pow_le_pow_right (n := 2) (by omega) h7)
  have hor := u64_or_nat (offN (bagN S) a) (2 ^ b) (by omega) (by omega)
  have HP : Hid (bitsL F.op.length (offN (bagN S) a ||| 2 ^ b) = putL (woL S (a : Int)) (b : Int)) := by
    show _ = _
    rw [bits_put hb, bits_off (by omega) (by omega), hsb]
  have HO2 : Hid (offN (bagN S) a ||| 2 ^ b < 2 ^ F.op.length) := Nat.or_lt_two_pow hol (Nat.pow_lt_pow_right (by omega) hb)
  have C1 := Lib.hid (fun (wx : World) (hx : Kp w wx) => bagOf_any A0 S n c0 wx (hS.kp hx) hn (fun x hx => by have := hm x hx; omega))
  have C2 := Lib.hid (fun (wx : World) => list_any (offN (bagN S) a ||| 2 ^ b) F.op.length wx HO2.out (by omega))
  clear hS hn hs hm hsb hol hbn
  have hkz : Kp w w := Kp.refl _
  generalize offN (bagN S) a = q at *
  generalize bagN S = bg at *
  generalize 2 ^ a = pa at *
  generalize 2 ^ b = pb at *
  go_enter Try.func120, Try.ntmps120
  go_wp2_with fail
  have tok1 : True := trivial
  go_wp2_with fail
  go_region_held3 (fun w' => Kp w w')
    (first | exact (by repeat (first | with_reducible assumption | with_reducible exact Kp.refl _ | with_reducible refine Kp.drew ?_ | with_reducible refine Kp.alloc ?_ _ | with_reducible refine Kp.drewN ?_ _)) | fail)
    (first
      | (have _t := tok1; go_at_call 74; with_reducible refine Calls.mono (C1.out _ (by repeat (first | with_reducible assumption | with_reducible exact Kp.refl _ | with_reducible refine Kp.drew ?_ | with_reducible refine Kp.alloc ?_ _ | with_reducible refine Kp.drewN ?_ _))) ?_; rintro e wr1 ⟨rfl, hw⟩; obtain rfl := hw; have tok2 : True := trivial; clear tok1 _t)
      | (have _t := tok2; go_at_call 85; with_reducible refine Calls.mono (C2.out _) ?_; rintro e wr2 ⟨vl, rfl, hol, hka⟩; have hr2 : Kp w wr2 := Kp.trans (by repeat (first | with_reducible assumption | with_reducible exact Kp.refl _ | with_reducible refine Kp.drew ?_ | with_reducible refine Kp.alloc ?_ _ | with_reducible refine Kp.drewN ?_ _)) hka; have tok3 : True := trivial; clear tok2 _t)
      | fail)
  go_wp2_with fail
  go_ret
  exact ⟨vl, rfl, by rw [← HP.out]; exact hol.mono (Nat.le_refl _), hr2⟩
end Go.Proofs.Ytcekddpllpbkmaa

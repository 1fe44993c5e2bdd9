/- Contracts of the laws' helpers that write marks, and of the comparison of fields; The frame of a law's proof where an argument is a field; slices.ContainsFunc over lists of integers, for any test that only makes new memory; Tables of sets: which lists are tables, which tables are monotone, which are submodular: plain words; Which fields are valid: the program's answer and the reference's; Small words for the walks of laws; Which tables are monotone, which are submodular: the program's answer and the reference's; Which lists are sets of sites: the program's answer and the reference's; append of one number to a slice of the call's own. No condition. -/
import Derived.Test.YtggkhieepjnmdaaQAa
import Derived.Lib.SmallJoins
import Derived.Deep.RegionWith
import Derived.Deep.DeepCutAuto
import Derived.OwnWalk
import Derived.Maps.AppendAt
namespace Go.Proofs.Ytggkhieepjnmdaa
open Go.RowKit

theorem seq_set {k : Int} {xs : List Int} {i : Nat} (hi : i < xs.length) : (seqF k i ++ xs.drop i).set i (k + i) = seqF k (i + 1) ++ xs.drop (i + 1) := by
  have e : seqF k (i + 1) = seqF k i ++ [k + (i : Int)] := by simp [seqF, List.range_succ]
  have e2 : xs.drop i = xs[i] :: xs.drop (i + 1) := List.drop_eq_getElem_cons hi
  rw [List.set_append_right _ _ (by simp [seqF_len]), seqF_len, Nat.sub_self, e2, e, List.set_cons_zero, List.append_assoc]
  rfl
theorem seq_get {k : Int} {xs : List Int} {i : Nat} (hi : i < xs.length) : (seqF k i ++ xs.drop i)[i]? = some xs[i] := by
  rw [List.getElem?_append_right (by simp [seqF_len]), seqF_len, Nat.sub_self]
  simp [hi]

set_option maxHeartbeats 400000 in
theorem markIntS_some (g cap : Nat) (xs : List Int) (n : Nat) (k : Int) (base : Nat) (w : World) (h : Own w base (.slice (some ⟨g, 0, none⟩) n cap) xs) (hn : xs.length = n) (h0 : 0 ≤ k) (h1 : k + n ≤ 4611686018427387904) :
    Calls Try.prog 11 #[.slice (some ⟨g, 0, none⟩) n cap, .int .i64 k] w fun e w' => e = .returned (.int .i64 (k + n)) ∧ Own w' base (.slice (some ⟨g, 0, none⟩) n cap) (seqF k n) ∧ Turn (fun i => i = g) w w' := by
  have Hn := Lib.hid hn; clear hn
  go_enter Try.func11, Try.ntmps11
  go_wp2_with fail
  go_loopw [1, 5] (fun kv i wr => ∃ j : Nat, j ≤ n ∧ i = .int .i64 j ∧ kv = .int .i64 (k + j) ∧ Own wr base (.slice (some ⟨g, 0, none⟩) n cap) (seqF k j ++ xs.drop j) ∧ Turn (fun i => i = g) w wr) (fun _ i _ => n - (intOf i).toNat)
  case atStart => exact ⟨0, by omega, rfl, by simp, by simpa [seqF] using h, Turn.refl _ _⟩
  case round =>
    obtain ⟨j, hj, rfl, rfl, ho, ht⟩ := hrel
    by_cases hlt : j < n
    · have lx : j < xs.length := by rw [Hn.out]; exact hlt
      have hlen : (seqF k j ++ xs.drop j).length = n := by have := Hn.out; simp [seqF_len]; omega
      have ho' : wr.ownsRow base 3 1 (.slice (some ⟨g, 0, none⟩) n cap) n ((seqF k j ++ xs.drop j).map (Value.int .i64)) := by
        have := ho; unfold Own at this; rw [hlen] at this; exact this
      have hc := ho'.cellAt j (by omega)
      rw [List.getElem?_map, seq_get lx] at hc
      have hc : wr.cell? ⟨g, j, none⟩ = some (.int .i64 xs[j]) := hc
      have hf := ho'.frozenAt j
      have hst := ho'.stored j (.int .i64 (k + j))
      have Hst : Hid (Own (wr.setCell ⟨g, j, none⟩ (.int .i64 (k + j))) base (.slice (some ⟨g, 0, none⟩) n cap) (seqF k (j + 1) ++ xs.drop (j + 1)) ∧ Turn (fun i => i = g) w (wr.setCell ⟨g, j, none⟩ (.int .i64 (k + j)))) := by
        refine ⟨?_, ht.trans ((Turn.of_grown hst.2).mono (fun i hi => by simpa using hi.symm))⟩
        have h2 := hst.1
        rw [← List.map_set, seq_set lx] at h2
        have hl2 : (seqF k (j + 1) ++ xs.drop (j + 1)).length = n := by have := Hn.out; simp [seqF_len]; omega
        unfold Own; rw [hl2]; exact h2
      clear ho ho' hst hlen ht
      go_wp2_with fail
      go_roundw
      case rel => exact ⟨j + 1, by omega, by go_num, by go_num, Hst.out.1, Hst.out.2⟩
      case measure => simp [intOf]; omega
    · obtain rfl : j = n := by omega
      go_wp2_with fail
      go_ret
      refine ⟨rfl, ?_, ht⟩
      have := Hn.out
      rw [List.drop_of_length_le (by omega), List.append_nil] at ho
      exact ho
theorem markIntS_nil (c : Nat) (k : Int) (w : World) :
    Calls Try.prog 11 #[.slice none 0 c, .int .i64 k] w fun e w' => e = .returned (.int .i64 k) ∧ w = w' := by
  go_enter Try.func11, Try.ntmps11
  go_wp2_with fail
  refine wp_loop_rounds 1 ?_
  rw [rounds_succ]
  go_wp2_with fail
  go_ret
  exact ⟨rfl, rfl⟩
/-- Marks in a slice of the call's own. -/
theorem markIntS_any (v : Value) (xs : List Int) (k : Int) (base : Nat) (w : World) (h : Own w base v xs) (h0 : 0 ≤ k) (h1 : k + xs.length ≤ 4611686018427387904) :
    Calls Try.prog 11 #[v, .int .i64 k] w fun e w' => e = .returned (.int .i64 (k + xs.length)) ∧ Own w' base v (seqF k xs.length) ∧ Turn (fun i => v.ownBlock = some i) w w' := by
  rcases h.2 with ⟨rfl, hn⟩ | ⟨g, cap, cur, rfl, _⟩
  · refine (markIntS_nil 0 k w).mono ?_
    rintro e w' ⟨rfl, rfl⟩
    rw [hn]
    exact ⟨ret_int (by simp), Own.nil _ _, Turn.refl _ _⟩
  · refine (markIntS_some g cap xs _ k base w h rfl h0 h1).mono ?_
    rintro e w' ⟨rfl, ho, ht⟩
    exact ⟨rfl, ho, ht.mono (fun i hi => by simp [Value.ownBlock, hi])⟩

/-- A slice of slices of the call's own, its rows in blocks below hi. -/
def OwnGridB (w : World) (base hi : Nat) (v : Value) (n : Nat) (R : Nat → List Int) : Prop :=
  ∃ C : Nat → Value, w.ownsRow base 22 1 v n ((List.range n).map C) ∧ (∀ j, j < n → Own w base (C j) (R j)) ∧
    (∀ i j g, i < j → j < n → (C i).ownBlock = some g → (C j).ownBlock ≠ some g) ∧ ∀ j, j < n → ∀ g, (C j).ownBlock = some g → g < hi
theorem OwnGrid.bounded {w : World} {base : Nat} {v : Value} {n : Nat} {R : Nat → List Int} (h : OwnGrid w base v n R) : OwnGridB w base w.heap.size v n R := by
  obtain ⟨C, h1, h2, h3⟩ := h
  exact ⟨C, h1, h2, h3, fun j hj g hg => ((h2 j hj).lt g hg).2⟩
theorem OwnGridB.kp {w w' : World} {base hi : Nat} {v : Value} {n : Nat} {R : Nat → List Int} (h : OwnGridB w base hi v n R) (hk : Kp w w') : OwnGridB w' base hi v n R := by
  obtain ⟨C, h1, h2, h3, h4⟩ := h
  exact ⟨C, hk.own h1, fun j hj => (h2 j hj).kp hk, h3, h4⟩
theorem OwnGridB.turn {S : Nat → Prop} {w w' : World} {base hi : Nat} {v : Value} {n : Nat} {R : Nat → List Int} (h : OwnGridB w base hi v n R) (ht : Turn S w w') (hS : ∀ i, base ≤ i → i < w.heap.size → ¬ S i) : OwnGridB w' base hi v n R := by
  obtain ⟨C, h1, h2, h3, h4⟩ := h
  exact ⟨C, own_turn h1 ht (fun g hg => hS g (h1.lt g hg).1 (h1.lt g hg).2), fun j hj => (h2 j hj).turn ht (fun g hg => hS g ((h2 j hj).lt g hg).1 ((h2 j hj).lt g hg).2), h3, h4⟩

/-- Where the marks of row j begin. -/
def startAt (R : Nat → List Int) : Nat → Nat
  | 0 => 0
  | j + 1 => startAt R j + (R j).length
set_option maxHeartbeats 400000 in
theorem markIntSS_any (v : Value) (n : Nat) (R : Nat → List Int) (k : Int) (base hi : Nat) (w : World) (h : OwnGridB w base hi v n R) (h0 : 0 ≤ k) (hn : n ≤ 9223372036854775807) (h1 : ∀ j, j ≤ n → k + startAt R j ≤ 4611686018427387904) :
    Calls Try.prog 28 #[v, .int .i64 k] w fun e w' => e = .returned (.int .i64 (k + startAt R n)) ∧ OwnGrid w' base v n (fun j => seqF (k + startAt R j) (R j).length) ∧ Turn (fun i => base ≤ i ∧ i < hi) w w' := by
  have H1 := Lib.hid h1; clear h1
  obtain ⟨C, hr, hC, hd, hhi⟩ := h
  have HC : Hid (∀ i j g, i < j → j < n → (C i).ownBlock = some g → (C j).ownBlock ≠ some g) := hd
  have HL : Hid (∀ j, j < n → Own w base (C j) (R j)) := hC
  have Hhi : Hid (∀ j, j < n → ∀ g, (C j).ownBlock = some g → g < hi) := hhi
  clear hd hC hhi
  rcases hr.2 with ⟨rfl, hn0⟩ | ⟨g, cap, cur, rfl, _⟩
  · subst hn0
    go_enter Try.func28, Try.ntmps28
    go_wp2_with fail
    refine wp_loop_rounds 1 ?_
    rw [rounds_succ]
    go_wp2_with fail
    go_ret
    exact ⟨ret_int (by simp [startAt]), ⟨C, hr, fun j hj => absurd hj (by omega), fun i j g _ hj => absurd hj (by omega)⟩, Turn.refl _ _⟩
  · go_enter Try.func28, Try.ntmps28
    go_wp2_with fail
    go_loopw [1, 5] (fun kv i wr => ∃ j : Nat, j ≤ n ∧ i = .int .i64 j ∧ kv = .int .i64 (k + startAt R j) ∧ wr.ownsRow base 22 1 (.slice (some ⟨g, 0, none⟩) n cap) n ((List.range n).map C) ∧
        Hid (∀ i, i < n → Own wr base (C i) (if i < j then seqF (k + startAt R i) (R i).length else R i)) ∧ Turn (fun i => base ≤ i ∧ i < hi) w wr) (fun _ i _ => n - (intOf i).toNat)
    case atStart => exact ⟨0, by omega, rfl, by simp [startAt], hr, fun i hii => by simpa using HL.out i hii, Turn.refl _ _⟩
    case round =>
      obtain ⟨j, hj, rfl, rfl, ho, HO, ht⟩ := hrel
      by_cases hlt : j < n
      · have hc := ho.cellAt j (by omega)
        rw [List.getElem?_map, List.getElem?_range hlt] at hc
        have hc : wr.cell? ⟨g, j, none⟩ = some (C j) := hc
        have hoj := HO.out j hlt
        rw [if_neg (by omega)] at hoj
        have hb1 : k + startAt R j + (R j).length ≤ 4611686018427387904 := by have := H1.out (j + 1) (by omega); simp only [startAt] at this; omega
        have es : Hid ((startAt R (j + 1) : Int) = startAt R j + (R j).length) := by show (startAt R (j + 1) : Int) = _; simp [startAt]
        go_wp2_with fail
        refine (markIntS_any (C j) (R j) _ base wr hoj (by omega) hb1).mono ?_
        rintro e w1 ⟨rfl, ho1, ht1⟩
        have hrow := OwnGrid.row ho HO.out HC.out hlt ht1 ho1
        have Hrow := Lib.hid hrow
        have Ht : Hid (Turn (fun i => base ≤ i ∧ i < hi) w w1) := ht.trans (ht1.mono (fun i hii => ⟨((HL.out j hlt).lt i hii).1, Hhi.out j hlt i hii⟩))
        clear hrow ho1 ht1 hoj ht ho
        go_wp2_with fail
        go_roundw
        case rel =>
          refine ⟨j + 1, by omega, by go_num, ?_, Hrow.out.1, fun i hi => ?_, Ht.out⟩
          · rw [es.out]; go_num
          · have := Hrow.out.2 i hi
            by_cases e : i = j
            · subst e
              rw [if_pos rfl] at this
              rw [if_pos (by omega)]; exact this
            · rw [if_neg e] at this
              by_cases e2 : i < j
              · rw [if_pos (by omega)]; rw [if_pos e2] at this; exact this
              · rw [if_neg (by omega)]; rw [if_neg e2] at this; exact this
        case measure => simp [intOf]; omega
      · obtain rfl : j = n := by omega
        go_wp2_with fail
        go_ret
        exact ⟨rfl, ⟨C, ho, fun i hi => by have := HO.out i hi; rw [if_pos hi] at this; exact this, HC.out⟩, ht⟩
theorem startAt_rows (rows : List (List Int)) : ∀ j, j ≤ rows.length → startAt (fun j => rows.getD j []) j = rowSum (rows.take j)
  | 0, _ => by simp [startAt, rowSum]
  | j + 1, h => by
    have hj : j < rows.length := by omega
    rw [startAt, startAt_rows rows j (by omega), rowSum_take_succ hj]
    simp [List.getD, hj]
set_option maxHeartbeats 400000 in
theorem markField_any (v : Value) (F : Fld) (k : Int) (base : Nat) (wa w : World) (h : OwnFld wa base v F) (hka : Kp wa w) (h0 : 0 ≤ k) (h1 : k ≤ 1048576) (hb : F.bulk ≤ 1048576) :
    Calls Try.prog 10 #[v, .int .i64 k] w fun e w' => ∃ m : Nat, e = .returned (.int .i64 m) ∧ m ≤ 4194304 ∧ Turn (fun i => base ≤ i ∧ i < wa.heap.size) w w' := by
  obtain ⟨a, b, mid, rfl, hmid, ha, hab, hg⟩ := h
  obtain ⟨k, rfl⟩ := Int.eq_ofNat_of_zero_le h0
  unfold Fld.bulk at hb
  obtain ⟨A, c, rfl⟩ := ha.shape
  obtain ⟨B, d, rfl⟩ := hg.shape
  have hk0 := (Kp.refl w).alloc (.cells #[.slice A F.op.length c, .slice B F.di.length d] 29)
  have ha0 := (ha.kp hka).kp hk0
  have hg0 := (hg.bounded.kp hka).kp hk0
  have hkal := hka.le
  have r0 := row2 w (.slice A F.op.length c) (.slice B F.di.length d) 29
  have hst := startAt_rows F.di
  have Hst := Lib.hid hst; clear hst
  have HA := Lib.hid ha.lt
  have HG := Lib.hid hg.lt
  have Hab := Lib.hid hab; clear hab
  go_enter Try.func10, Try.ntmps10
  go_wp2_with fail
  refine (markIntS_any _ _ _ _ _ ha0 (by omega) (by omega)).mono ?_
  rintro e w1 ⟨rfl, _, ht1⟩
  have hg1 := hg0.turn ht1 (fun i hi _ e => by have := Hab.out i e; omega)
  have c1 : w1.cell? ⟨w.heap.size, 1, none⟩ = some (.slice B F.di.length d) := by
    have := (r0.of_block (w' := w1) (ht1.block _ r0.lt (fun e => by have := (HA.out _ e).2; omega))).cell (i := 1) (by omega)
    simpa using this
  have ht1' : Turn (fun i => base ≤ i ∧ i < wa.heap.size) w w1 := (Turn.of_kp hk0).trans (ht1.mono (fun i hi => HA.out i hi))
  have hsum := rowSum_take_le F.di
  have hbd : ∀ j, j ≤ F.di.length → ((k : Int) + (F.op.length : Int)) + (startAt (fun j => F.di.getD j []) j : Int) ≤ 4611686018427387904 := fun j hj => by
    have e1 := Hst.out j hj
    have e2 := hsum j
    omega
  have Hbd := Lib.hid hbd
  have hlast := Lib.hid (Hst.out F.di.length (Nat.le_refl _))
  have hsl := hsum F.di.length
  have ht1s := ht1.size
  have hwsz : w.heap.size ≤ w1.heap.size := ht1'.size
  clear r0 hg0 ha0 hk0 hbd hsum ht1
  go_wp2_with fail
  have CC := Lib.hid (markIntSS_any _ F.di.length (fun j => F.di.getD j []) (↑k + ↑F.op.length) mid wa.heap.size w1 hg1 (by omega) (by omega) Hbd.out)
  with_reducible refine Calls.mono CC.out ?_
  rintro e w2 ⟨rfl, _, ht2⟩
  have Ht2 := Lib.hid ht2
  clear ht2
  go_wp2_with fail
  go_ret
  refine ⟨k + F.op.length + rowSum (F.di.take F.di.length), ret_int ?_, by omega, ?_⟩
  · rw [← hlast.out]
    simp only [Int.natCast_add]
    rfl
  · have ht2 := Ht2.out
    exact ⟨ht2.os.trans ht1'.os, ht2.tape.trans ht1'.tape, ht2.output.trans ht1'.output, Nat.le_trans ht1'.size ht2.size, fun i hi hn =>
      (ht2.block i (Nat.lt_of_lt_of_le hi hwsz) (fun h => hn ⟨Nat.le_trans hmid h.1, h.2⟩)).trans (ht1'.block i hi hn)⟩

theorem seq_getD {k : Int} {n i : Nat} (hi : i < n) : (seqF k n)[i]? = some (k + (i : Int)) := by simp [seqF, hi]
/-- What is marked reads as it was marked. -/
theorem heldIntS_any (A : Option Addr) (n c : Nat) (k : Int) (w : World) (h : IntsAt w A (seqF k n)) (h0 : 0 ≤ k) (h1 : k + n ≤ 4611686018427387904) :
    Calls Try.prog 12 #[.slice A n c, .int .i64 k] w fun e w' => e = .returned (.int .i64 (k + n)) ∧ Dr w w' := by
  go_enter Try.func12, Try.ntmps12
  go_wp2_with fail
  go_loopw [1, 5] (fun kv i wr => ∃ j : Nat, j ≤ n ∧ i = .int .i64 j ∧ kv = .int .i64 (k + j) ∧ Dr w wr) (fun _ i _ => n - (intOf i).toNat)
  case atStart => exact ⟨0, by omega, rfl, by simp, Dr.refl _⟩
  case round =>
    obtain ⟨j, hj, rfl, rfl, hd⟩ := hrel
    by_cases hlt : j < n
    · have lx : j < (seqF k n).length := by rw [seqF_len]; exact hlt
      obtain ⟨ad, rfl, hc⟩ := (h.kp hd.kp).at_ lx
      have e1 : (seqF k n)[j] = k + j := by
        have := seq_getD (k := k) hlt
        rw [List.getElem?_eq_getElem lx] at this
        exact Option.some.inj this
      rw [e1] at hc
      have hne : ((k + (j : Int)) != (k + (j : Int))) = false := by simp
      go_wp2_with fail
      go_roundw
      case rel => exact ⟨j + 1, by omega, by go_num, by go_num, hd⟩
      case measure => simp [intOf]; omega
    · obtain rfl : j = n := by omega
      go_wp2_with fail
      go_ret
      exact ⟨rfl, hd⟩

theorem eqField_any (u v : Value) (F : Fld) (w : World) (hu : FldAt w u F) (hv : FldAt w v F) :
    Calls Try.prog 9 #[u, v] w fun e w' => e = .returned (.bool true) ∧ Kp w w' := by
  obtain ⟨A, c, B, d, rfl, hA, hB⟩ := hu
  obtain ⟨A', c', B', d', rfl, hA', hB'⟩ := hv
  have hk0 := ((Kp.refl w).alloc (.cells #[.slice A F.op.length c, .slice B F.di.length d] 29)).alloc (.cells #[.slice A' F.op.length c', .slice B' F.di.length d'] 29)
  have r0 := (row2 w (.slice A F.op.length c) (.slice B F.di.length d) 29).alloc (.cells #[.slice A' F.op.length c', .slice B' F.di.length d'] 29)
  have r1 := row2 (w.alloc (.cells #[.slice A F.op.length c, .slice B F.di.length d] 29)) (.slice A' F.op.length c') (.slice B' F.di.length d') 29
  rw [World.size_alloc] at r1
  go_enter Try.func9, Try.ntmps9
  go_wp2_with fail
  refine (eqIntS_any A A' F.op F.op _ _ c c' _ (hA.kp hk0) (hA'.kp hk0) rfl rfl).mono ?_
  rintro e w1 ⟨rfl, hk1⟩
  simp only [decide_true]
  have x0 := (hk1.row r0).cell (i := 1) (by omega); have x1 := (hk1.row r1).cell (i := 1) (by omega)
  simp only [Nat.one_ne_zero, if_false] at x0 x1
  have hk2 := hk0.trans hk1
  clear r0 r1 hk0 hk1
  go_wp2_with fail
  refine ((eqIntSS_dr B B' F.di F.di _ _ d d' _ (hB.kp hk2) (hB'.kp hk2) rfl rfl)).mono ?_
  rintro e w2 ⟨rfl, hk3⟩
  simp only [decide_true]
  go_wp2_with fail
  go_ret
  exact ⟨rfl, hk2.trans hk3.kp⟩
end Go.Proofs.Ytggkhieepjnmdaa

namespace Go.Proofs.Ytggkhieepjnmdaa
open Go.ChangeShapes Go.WideShapes Go.ChangeAt Go.RowKit Go.Deep Go.Joins

section
variable {H : Type} {enc : TypeId × Value → H} {P : Program} {W : World}
theorem intsAt_of_trod {t e : TypeId} {fuel : Nat} {v : Value} {y : DataW H × List MemPlace} (ht : P.underlying t = some (.slice e)) (he : P.underlying e = some (.int .i64)) (hc : P.cellsOf e = 1)
    (hf : DataW.trod enc P W 0 (fun _ => true) true fuel t [v] = some y) : ∃ A xs c, v = .slice A xs.length c ∧ IntsAt W A xs := by
  rcases open_ints ht he hc hf with ⟨hcs, _⟩ | ⟨a', len', cap', zs, hcs, _, hl, hm, hz, _, hcell, _⟩
  · simp at hcs
    subst hcs
    exact ⟨none, [], 0, rfl, IntsAt.nil _ _⟩
  · simp at hcs
    subst hcs
    simp only [if_true] at hz
    have hlen : (zs.take len').length = len' := by rw [List.length_take]; omega
    refine ⟨some a', zs.take len', cap', by rw [hlen], by rw [hlen]; unfold maxLen at hm; omega, fun k hk => ⟨a', rfl, ?_⟩⟩
    rw [hlen] at hk
    rw [hcell k (by omega)]
    simp [List.getD, List.getElem?_take, hk]
theorem gridAt_of_trod {t e q : TypeId} {fuel : Nat} {v : Value} {y : DataW H × List MemPlace} (ht : P.underlying t = some (.slice e)) (he : P.underlying e = some (.slice q)) (hq : P.underlying q = some (.int .i64)) (ce : P.cellsOf e = 1) (cq : P.cellsOf q = 1)
    (hf : DataW.trod enc P W 0 (fun _ => true) true fuel t [v] = some y) : ∃ B rows c, v = .slice B rows.length c ∧ GridAt W B rows := by
  rcases open_int_rows ht he hq ce cq hf with ⟨hcs, _⟩ | ⟨a, len, cap, A, L, C, Z, hcs, _, hl, hm, _, hr⟩
  · simp at hcs
    subst hcs
    exact ⟨none, [], 0, rfl, by simp, fun k hk => absurd hk (by simp)⟩
  · simp at hcs
    subst hcs
    have hlen : ((List.range len).map fun r => (Z r).take (L r)).length = len := by simp
    refine ⟨some a, (List.range len).map fun r => (Z r).take (L r), cap, by rw [hlen], by rw [hlen]; unfold maxLen at hm; omega, fun k hk => ?_⟩
    rw [hlen] at hk
    obtain ⟨h1, h2, h3, h4, _, h6, h7⟩ := hr k (by omega)
    have e1 : ((List.range len).map fun r => (Z r).take (L r)).getD k [] = (Z k).take (L k) := by simp [List.getD, hk]
    have e2 : ((Z k).take (L k)).length = L k := by rw [List.length_take]; omega
    rw [e1]
    refine ⟨a, A k, C k, rfl, by rw [e2]; exact h1, by rw [e2]; unfold maxLen at h3; omega, fun i hi => ?_⟩
    rw [e2] at hi
    cases hA : A k with
    | none => have := h6 hA; omega
    | some a' =>
      refine ⟨a', rfl, ?_⟩
      rw [(h7 a' hA).2 i (by omega)]
      simp [List.getD, List.getElem?_take, hi]
end
theorem cellsLField : Try.prog.cellsOf 25 = 2 := by kernel_rfl
set_option maxRecDepth 100000 in
/-- An argument that is a field. -/
theorem open_fldAt {H : Type} {enc : TypeId × Value → H} {W : World} {v : Value} {d : DataW H} {p : List MemPlace} {b0 : Nat}
    (hv : Value.okWide Try.prog W .any b0 25 v) (h : DataW.Trod enc Try.prog W 0 (fun _ => true) true 25 v d p) : ∃ F, FldAt W v F := by
  obtain ⟨c0, c1, y0, y1, m, rfl, rfl, rfl, hy0, hy1⟩ := open_agg2 Try.underlying25 (by kernel_rfl) cellsLField hv h
  obtain ⟨A, xs, c, rfl, hA⟩ := intsAt_of_trod Try.underlying22 Try.underlying3 cellsInt hy0
  obtain ⟨B, rows, d, rfl, hB⟩ := gridAt_of_trod Try.underlying23 Try.underlying22 Try.underlying3 cellsInts cellsInt hy1
  exact ⟨⟨xs, rows⟩, A, c, B, d, rfl, hA, hB⟩

theorem Fld.bulk_op {F : Fld} (h : F.bulk ≤ 1048576) : F.op.length ≤ 9223372036854775807 := by unfold Fld.bulk at h; omega
end Go.Proofs.Ytggkhieepjnmdaa

namespace Go.Proofs.Ytggkhieepjnmdaa
open Go.RowKit

theorem callFunc_of {P : Program} {F : FuncId} {fn : Func} (hf : P.funcs[F]? = some fn) (hn : (fn.name == "runtime.NumGoroutine") = false) (hb : fn.body.isNone = false) (args : Array Value) (w : World) :
    Sem.run P (callFunc F args) w = .ok (.enter F args) w := by
  have hn' : ¬ fn.name = "runtime.NumGoroutine" := by simpa using hn
  have hb' : ¬ fn.body = none := fun h => by rw [h] at hb; simp at hb
  simp [callFunc, go_sem, hf, hn', hb']
theorem any_take_succ {α : Type} {p : α → Bool} {xs : List α} {k : Nat} (h : (xs.take k).any p = false) (hk : k < xs.length) (e : p xs[k] = false) : (xs.take (k + 1)).any p = false := by
  rw [List.take_succ_eq_append_getElem hk, List.any_append, h]; simp [e]
theorem any_of {α : Type} {p : α → Bool} {xs : List α} {k : Nat} (hk : k < xs.length) (e : p xs[k] = true) : xs.any p = true := by
  rw [List.any_eq_true]; exact ⟨_, List.getElem_mem hk, e⟩

set_option maxHeartbeats 400000 in
theorem indexFunc_any (F : FuncId) (caps : Array Value) (p : Int → Bool) (A : Option Addr) (xs : List Int) (n c : Nat) (w : World) (hx : IntsAt w A xs) (hnx : xs.length = n)
    (hF : ∀ (args : Array Value) (w : World), Sem.run Try.prog (callFunc F args) w = .ok (.enter F args) w)
    (hf : ∀ k (hk : k < xs.length) (w' : World), Kp w w' → Calls Try.prog F (#[.int .i64 xs[k]] ++ caps) w' fun e w'' => e = .returned (.bool (p xs[k])) ∧ Kp w' w'') :
    Calls Try.prog 51 #[.slice A n c, .func (.func F) #[] caps] w fun e w' => ∃ r : Int, e = .returned (.int .i64 r) ∧ decide (0 ≤ r) = xs.any p ∧ Kp w w' := by
  have hn : n ≤ 9223372036854775807 := hnx ▸ hx.1
  have Hx := Lib.hid hnx; clear hnx
  have Hf := Lib.hid hf; clear hf
  go_enter Try.func51, Try.ntmps51
  go_wp2
  go_loopw [8] (fun i wr => ∃ k : Nat, k ≤ n ∧ i = .int .i64 k ∧ Hid ((xs.take k).any p = false) ∧ Kp w wr) (fun i _ => n - (intOf i).toNat)
  case atStart => exact ⟨0, by omega, rfl, rfl, Kp.refl w⟩
  case round =>
    obtain ⟨k, hk, rfl, Hp, hkp⟩ := hrel
    by_cases hlt : k < n
    · have lx : k < xs.length := by rw [Hx.out]; exact hlt
      obtain ⟨ad, rfl, hc⟩ := (hx.kp hkp).at_ lx
      go_wp2_with fail
      refine (Hf.out k lx wr hkp).mono ?_
      rintro e w1 ⟨rfl, hk1⟩
      cases hpk : p xs[k]
      · go_wp2
        go_roundw
        case rel => exact ⟨k + 1, by omega, by go_num, any_take_succ Hp.out lx hpk, hkp.trans hk1⟩
        case measure => simp [intOf]; omega
      · go_wp2
        go_ret
        exact ⟨k, rfl, by rw [any_of lx hpk]; simp, hkp.trans hk1⟩
    · go_wp2
      go_ret
      refine ⟨-1, rfl, ?_, hkp⟩
      have hp := Hp.out
      rw [List.take_of_length_le (by rw [Hx.out]; omega)] at hp
      rw [hp]; rfl

theorem containsFunc_any (F : FuncId) (caps : Array Value) (p : Int → Bool) (A : Option Addr) (xs : List Int) (n c : Nat) (w : World) (hx : IntsAt w A xs) (hnx : xs.length = n)
    (hF : ∀ (args : Array Value) (w : World), Sem.run Try.prog (callFunc F args) w = .ok (.enter F args) w)
    (hf : ∀ k (hk : k < xs.length) (w' : World), Kp w w' → Calls Try.prog F (#[.int .i64 xs[k]] ++ caps) w' fun e w'' => e = .returned (.bool (p xs[k])) ∧ Kp w' w'') :
    Calls Try.prog 42 #[.slice A n c, .func (.func F) #[] caps] w fun e w' => e = .returned (.bool (xs.any p)) ∧ Kp w w' := by
  have Hx := Lib.hid hnx; clear hnx
  have Hf := Lib.hid hf; clear hf
  go_enter Try.func42, Try.ntmps42
  go_wp2_with fail
  refine (indexFunc_any F caps p A xs n c w hx Hx.out hF Hf.out).mono ?_
  rintro e w1 ⟨r, rfl, hr, hk1⟩
  have Hr := Lib.hid hr; clear hr
  go_wp2
  go_ret
  exact ⟨ret_bool Hr.out, hk1⟩

/-- All within bounds. -/
def allB (xs : List Int) (lo hi : Int) : Bool := xs.all fun x => inB x lo hi
theorem allB_iff {xs : List Int} {lo hi : Int} : allB xs lo hi = true ↔ ∀ x ∈ xs, lo ≤ x ∧ x ≤ hi := by simp [allB, inB]

theorem areBetween_clo (a : Int) (p q : Addr) (lo hi : Int) (w : World) (h1 : w.cell? p = some (.int .i64 lo)) (h2 : w.cell? q = some (.int .i64 hi)) :
    Calls Try.prog 43 #[.int .i64 a, .pointer (some p), .pointer (some q)] w fun e w' => e = .returned (.bool (!inB a lo hi)) ∧ Kp w w' := by
  go_enter Try.func43, Try.ntmps43
  go_wp2_with (go_at_call 32; refine (between_any _ _ _ _).mono ?_; rintro e w' ⟨rfl, rfl⟩)
  go_ret
  exact ⟨rfl, Kp.refl _⟩

theorem areBetween_any (A : Option Addr) (xs : List Int) (n c : Nat) (lo hi : Int) (w : World) (hx : IntsAt w A xs) (hnx : xs.length = n) :
    Calls Try.prog 33 #[.slice A n c, .int .i64 lo, .int .i64 hi] w fun e w' => e = .returned (.bool (allB xs lo hi)) ∧ Kp w w' := by
  have Hx := Lib.hid hnx; clear hnx
  have hmf : ∀ (fn : Fn) (first cap : Array Value) (w : World), (Instr.makeFunc fn first cap).run Try.prog w = .ok (.func fn first cap) w := fun _ _ _ _ => rfl
  have hk2 : Kp w ((w.alloc (.cells #[.int .i64 lo] 3)).alloc (.cells #[.int .i64 hi] 3)) := ((Kp.refl w).alloc _).alloc _
  have c1 : ((w.alloc (.cells #[.int .i64 lo] 3)).alloc (.cells #[.int .i64 hi] 3)).cell? ⟨w.heap.size, 0, none⟩ = some (.int .i64 lo) := by
    rw [World.cell?_alloc_past _ _ _ (by simp), World.cell?_alloc_at _ _ _ _ rfl]; rfl
  have c2 : ((w.alloc (.cells #[.int .i64 lo] 3)).alloc (.cells #[.int .i64 hi] 3)).cell? ⟨w.heap.size + 1, 0, none⟩ = some (.int .i64 hi) := by
    rw [World.cell?_alloc_at _ _ _ _ (by simp)]; rfl
  go_enter Try.func33, Try.ntmps33
  go_wp2_with fail
  refine (containsFunc_any _ _ (fun x => !inB x lo hi) A xs n c _ (hx.kp hk2) Hx.out (callFunc_of Try.func43 (by kernel_rfl) (by kernel_rfl)) ?_).mono ?_
  · intro k hk w' hk'
    exact areBetween_clo _ _ _ lo hi w' (hk'.get c1) (hk'.get c2)
  rintro e w1 ⟨rfl, hk1⟩
  go_wp2
  go_ret
  refine ⟨ret_bool ?_, hk2.trans hk1⟩
  show (!xs.any fun x => !inB x lo hi) = xs.all fun x => inB x lo hi
  rw [List.all_eq_not_any_not]
end Go.Proofs.Ytggkhieepjnmdaa

namespace Go.Proofs.Ytggkhieepjnmdaa
open Go.RowKit

theorem all_range_succ {p : Nat → Bool} {k : Nat} : (List.range (k + 1)).all p = ((List.range k).all p && p k) := by
  rw [List.range_succ, List.all_append]; simp
theorem all_range_false {p : Nat → Bool} {k n : Nat} (hk : k < n) (h : p k = false) : (List.range n).all p = false := by
  rw [List.all_eq_false]; exact ⟨k, by simpa using hk, by simp [h]⟩
theorem all_take_succ {α : Type} {p : α → Bool} {xs : List α} {k : Nat} (h : (xs.take k).all p = true) (hk : k < xs.length) (e : p xs[k] = true) : (xs.take (k + 1)).all p = true := by
  rw [List.take_succ_eq_append_getElem hk, List.all_append, h]; simp [e]
theorem all_false_of {α : Type} {p : α → Bool} {xs : List α} {k : Nat} (hk : k < xs.length) (e : p xs[k] = false) : xs.all p = false := by
  rw [List.all_eq_false]; exact ⟨_, List.getElem_mem hk, by simp [e]⟩
theorem ofInt_i64 (a : Nat) (ha : a < 9223372036854775808) : (BitVec.ofInt 64 (a : Int)).toNat = a := by
  rw [BitVec.ofInt_natCast, BitVec.toNat_ofNat]; exact Nat.mod_eq_of_lt (by omega)
theorem i64_and_nat (a b : Nat) (ha : a < 9223372036854775808) (hb : b < 9223372036854775808) : bits .and .i64 (a : Int) (b : Int) = ((a &&& b : Nat) : Int) := by
  have hx : a &&& b < 2 ^ 63 := Nat.and_lt_two_pow _ (by omega)
  show IntKind.i64.wrap ((BitVec.ofInt 64 (a : Int) &&& BitVec.ofInt 64 (b : Int)).toNat : Int) = _
  rw [BitVec.toNat_and, ofInt_i64 a ha, ofInt_i64 b hb, IntKind.wrap_i64]
  omega
theorem i64_or_nat (a b : Nat) (ha : a < 9223372036854775808) (hb : b < 9223372036854775808) : bits .or .i64 (a : Int) (b : Int) = ((a ||| b : Nat) : Int) := by
  have hx : a ||| b < 2 ^ 63 := Nat.or_lt_two_pow (by omega) (by omega)
  show IntKind.i64.wrap ((BitVec.ofInt 64 (a : Int) ||| BitVec.ofInt 64 (b : Int)).toNat : Int) = _
  rw [BitVec.toNat_or, ofInt_i64 a ha, ofInt_i64 b hb, IntKind.wrap_i64]
  omega

theorem count_take_succ {α : Type} {p : α → Bool} {xs : List α} {k : Nat} (hk : k < xs.length) : (xs.take (k + 1)).countP p = (xs.take k).countP p + if p xs[k] then 1 else 0 := by
  rw [List.take_succ_eq_append_getElem hk, List.countP_append]; simp [List.countP_cons]
theorem count_le_len {α : Type} (p : α → Bool) (xs : List α) (k : Nat) : (xs.take k).countP p ≤ k := Nat.le_trans List.countP_le_length (by rw [List.length_take]; omega)
/-- A table for n. -/
def isTab (n : Int) (xs : List Int) : Bool := inB n 0 7 && (xs.length == 2 ^ n.toNat) && allB xs (-1000000) 1000000

theorem pow_wrap (n : Int) (h0 : 0 ≤ n) (h7 : n ≤ 7) : ∃ P : Nat, Hid (P = 2 ^ n.toNat) ∧ wrap64 (2 ^ n.toNat) = (P : Int) ∧ P ≤ 128 := by
  have h : 2 ^ n.toNat ≤ 2 ^ 7 := Nat.pow_le_pow_right (by omega) (by omega)
  have h2 : ((2 ^ n.toNat : Nat) : Int) = 2 ^ n.toNat := by simp
  refine ⟨2 ^ n.toNat, rfl, ?_, by omega⟩
  rw [← h2]
  generalize 2 ^ n.toNat = q at h
  unfold wrap64
  omega

theorem isTab_no_n {n : Int} {xs : List Int} (h : inB n 0 7 = false) : isTab n xs = false := by simp [isTab, h]
theorem isTab_no_len {n : Int} {xs : List Int} {m P : Nat} (hx : xs.length = m) (hP : P = 2 ^ n.toNat) (h : m ≠ P) : isTab n xs = false := by
  have : (xs.length == 2 ^ n.toNat) = false := by rw [beq_eq_false_iff_ne]; omega
  simp [isTab, this]
theorem isTab_eq {n : Int} {xs : List Int} {m P : Nat} (hx : xs.length = m) (hP : P = 2 ^ n.toNat) (h : m = P) (hB : inB n 0 7 = true) : isTab n xs = allB xs (-1000000) 1000000 := by
  have : (xs.length == 2 ^ n.toNat) = true := by rw [beq_iff_eq]; omega
  simp [isTab, this, hB]
theorem isTab_len {n : Int} {xs : List Int} (h : isTab n xs = true) : xs.length ≤ 128 := by
  simp only [isTab, Bool.and_eq_true, beq_iff_eq, inB_iff] at h
  have : 2 ^ n.toNat ≤ 2 ^ 7 := Nat.pow_le_pow_right (by omega) (by omega)
  omega
theorem isTab_mem {n : Int} {xs : List Int} (h : isTab n xs = true) : ∀ x ∈ xs, -1000000 ≤ x ∧ x ≤ 1000000 := by
  simp only [isTab, Bool.and_eq_true] at h
  exact allB_iff.1 h.2

end Go.Proofs.Ytggkhieepjnmdaa

namespace Go.Proofs.Ytggkhieepjnmdaa
open Go.RowKit Go.Sort

def rowB (n : Nat) (r : List Int) : Bool := allB r 0 99 && (r.length == n)
/-- A valid field. -/
def goodF (F : Fld) : Bool := inB F.op.length 1 7 && rowB F.op.length F.op && decide (F.di.length ≤ 7) && F.di.all (rowB F.op.length)
theorem rowB_iff {n : Nat} {r : List Int} : rowB n r = true ↔ (∀ x ∈ r, 0 ≤ x ∧ x ≤ 99) ∧ r.length = n := by simp [rowB, allB_iff]
theorem goodF_iff {F : Fld} : goodF F = true ↔ (1 ≤ F.op.length ∧ F.op.length ≤ 7) ∧ (∀ x ∈ F.op, 0 ≤ x ∧ x ≤ 99) ∧ F.di.length ≤ 7 ∧ ∀ r ∈ F.di, (∀ x ∈ r, 0 ≤ x ∧ x ≤ 99) ∧ r.length = F.op.length := by
  simp only [goodF, Bool.and_eq_true, inB_iff, decide_eq_true_eq, List.all_eq_true, rowB_iff]
  constructor
  · rintro ⟨⟨⟨⟨h1, h2⟩, h3, _⟩, h4⟩, h5⟩; exact ⟨⟨by omega, by omega⟩, h3, h4, h5⟩
  · rintro ⟨⟨h1, h2⟩, h3, h4, h5⟩; exact ⟨⟨⟨⟨by omega, by omega⟩, h3, trivial⟩, h4⟩, h5⟩

theorem goodRow {F : Fld} (h : goodF F = true) {k : Nat} (hk : k < F.di.length) : F.di[k].length = F.op.length := ((goodF_iff.1 h).2.2.2 _ (List.getElem_mem hk)).2
theorem l2Row_any (A : Option Addr) (xs : List Int) (m c n : Nat) (w : World) (hx : IntsAt w A xs) (hnx : xs.length = m) :
    Calls Try.prog 29 #[.slice A m c, .int .i64 n, .int .i64 99] w fun e w' => e = .returned (.bool (rowB n xs)) ∧ w = w' := by
  have hm : m ≤ 9223372036854775807 := hnx ▸ hx.1
  have Hx := Lib.hid hnx; clear hnx
  go_enter Try.func29, Try.ntmps29
  go_wp2_with fail
  go_loop [7] (fun i => ∃ k : Nat, k ≤ m ∧ i = .int .i64 k ∧ Hid ((xs.take k).all (fun x => inB x 0 99) = true)) (fun i => m - (intOf i).toNat)
  case atStart => exact ⟨0, by omega, rfl, rfl⟩
  case round =>
    obtain ⟨k, hk, rfl, Hp⟩ := hrel
    by_cases hlt : k < m
    · have lx : k < xs.length := by rw [Hx.out]; exact hlt
      obtain ⟨ad, rfl, hc⟩ := hx.at_ lx
      go_wp2_with fail
      refine (l1In_any _ _ _ _).mono ?_
      rintro e w' ⟨rfl, rfl⟩
      cases hpk : inB xs[k] 0 99
      · go_wp2_with fail
        go_ret
        refine ⟨ret_bool ?_, rfl⟩
        have : allB xs 0 99 = false := all_false_of (p := fun x => inB x 0 99) lx hpk
        simp [rowB, this, Array.getD]
      · go_wp2_with fail
        go_round
        case rel => exact ⟨k + 1, by omega, by go_num, all_take_succ Hp.out lx hpk⟩
        case measure => simp [intOf]; omega
    · go_wp2_with fail
      go_ret
      refine ⟨ret_bool ?_, rfl⟩
      have hp := Hp.out
      have e := Hx.out
      rw [List.take_of_length_le (by omega)] at hp
      have : allB xs 0 99 = true := hp
      rw [rowB, this, e, Bool.true_and, Bool.eq_iff_iff]
      simp [Array.getD]
      try omega

theorem goodF_no_rows {F : Fld} (h : F.di.all (rowB F.op.length) = false) : goodF F = false := by simp [goodF, h]

set_option maxHeartbeats 400000 in
theorem l2Good_any (f : Value) (F : Fld) (w : World) (hf : FldAt w f F) :
    Calls Try.prog 15 #[f] w fun e w' => e = .returned (.bool (goodF F)) ∧ Kp w w' := by
  obtain ⟨A, c, B, d, rfl, hA, hB⟩ := hf
  have hk0 : Kp w (w.alloc (.cells #[.slice A F.op.length c, .slice B F.di.length d] 29)) := (Kp.refl w).alloc _
  have hA0 := hA.kp hk0
  have hB0 := hB.kp hk0
  have hBl := hB.1
  have hAl := hA.1
  go_enter Try.func15, Try.ntmps15
  go_wp2_with fail
  go_loop [4] (fun i => ∃ k : Nat, k ≤ F.di.length ∧ i = .int .i64 k ∧ Hid ((F.di.take k).all (rowB F.op.length) = true)) (fun i => F.di.length - (intOf i).toNat)
  case atStart => exact ⟨0, by omega, rfl, rfl⟩
  case round =>
    obtain ⟨k, hk, rfl, Hp⟩ := hrel
    by_cases hlt : k < F.di.length
    · obtain ⟨bd, A', c', rfl, hc, hr⟩ := hB0.at_ hlt
      go_wp2_with fail
      refine (l2Row_any A' F.di[k] _ c' _ _ hr rfl).mono ?_
      rintro e w' ⟨rfl, rfl⟩
      cases hpk : rowB F.op.length F.di[k]
      · have Hpk := Lib.hid hpk; clear hpk
        go_wp2_with fail
        go_ret
        exact ⟨ret_bool (goodF_no_rows (all_false_of hlt Hpk.out)).symm, hk0⟩
      · have Hpk := Lib.hid hpk; clear hpk
        go_wp2_with fail
        go_round
        case rel => exact ⟨k + 1, by omega, by go_num, all_take_succ Hp.out hlt Hpk.out⟩
        case measure => simp [intOf]; omega
    · have hall : Hid (F.di.all (rowB F.op.length) = true) := by
        have hp := Hp.out
        rw [List.take_of_length_le (by omega)] at hp
        exact hp
      go_wp2_with fail
      refine (l1In_any _ _ _ _).mono ?_
      rintro e w' ⟨rfl, rfl⟩
      cases h1 : inB F.op.length 1 7
      · have H1 := Lib.hid h1; clear h1
        go_wp2_with fail
        go_ret
        exact ⟨ret_bool (by simp [goodF, H1.out, Array.getD]), hk0⟩
      · have H1 := Lib.hid h1; clear h1
        go_wp2_with fail
        refine (l2Row_any A F.op _ c _ _ hA0 rfl).mono ?_
        rintro e w' ⟨rfl, rfl⟩
        cases h2 : rowB F.op.length F.op
        · have H2 := Lib.hid h2; clear h2
          go_wp2_with fail
          go_ret
          exact ⟨ret_bool (by simp [goodF, H2.out, Array.getD]), hk0⟩
        · have H2 := Lib.hid h2; clear h2
          go_wp2_with fail
          go_ret
          refine ⟨ret_bool ?_, hk0⟩
          have := hall.out
          have h1 := H1.out
          have h2 := H2.out
          rw [goodF, h1, h2, this]
          simp [Array.getD]
          try omega

/- slices.ContainsFunc over lists of lists. -/
set_option maxHeartbeats 400000 in
theorem indexFunc2_any (F : FuncId) (caps : Array Value) (p : List Int → Bool) (B : Option Addr) (rows : List (List Int)) (n c : Nat) (w : World) (hx : GridAt w B rows) (hnx : rows.length = n)
    (hF : ∀ (args : Array Value) (w : World), Sem.run Try.prog (callFunc F args) w = .ok (.enter F args) w)
    (hf : ∀ k (hk : k < rows.length) (A : Option Addr) (c : Nat) (w' : World), Kp w w' → IntsAt w' A rows[k] → Calls Try.prog F (#[.slice A rows[k].length c] ++ caps) w' fun e w'' => e = .returned (.bool (p rows[k])) ∧ Kp w' w'') :
    Calls Try.prog 44 #[.slice B n c, .func (.func F) #[] caps] w fun e w' => ∃ r : Int, e = .returned (.int .i64 r) ∧ decide (0 ≤ r) = rows.any p ∧ Kp w w' := by
  have hn : n ≤ 9223372036854775807 := hnx ▸ hx.1
  have Hx := Lib.hid hnx; clear hnx
  have Hf := Lib.hid hf; clear hf
  go_enter Try.func44, Try.ntmps44
  go_wp2
  go_loopw [8] (fun i wr => ∃ k : Nat, k ≤ n ∧ i = .int .i64 k ∧ Hid ((rows.take k).any p = false) ∧ Kp w wr) (fun i _ => n - (intOf i).toNat)
  case atStart => exact ⟨0, by omega, rfl, rfl, Kp.refl w⟩
  case round =>
    obtain ⟨k, hk, rfl, Hp, hkp⟩ := hrel
    by_cases hlt : k < n
    · have lx : k < rows.length := by rw [Hx.out]; exact hlt
      obtain ⟨ad, A, c', rfl, hc, hr⟩ := (hx.kp hkp).at_ lx
      go_wp2_with fail
      refine (Hf.out k lx A c' wr hkp hr).mono ?_
      rintro e w1 ⟨rfl, hk1⟩
      cases hpk : p rows[k]
      · have Hpk := Lib.hid hpk; clear hpk
        go_wp2
        go_roundw
        case rel => exact ⟨k + 1, by omega, by go_num, any_take_succ Hp.out lx Hpk.out, hkp.trans hk1⟩
        case measure => simp [intOf]; omega
      · have Hpk := Lib.hid hpk; clear hpk
        go_wp2
        go_ret
        exact ⟨k, rfl, by rw [any_of lx Hpk.out]; simp, hkp.trans hk1⟩
    · go_wp2
      go_ret
      refine ⟨-1, rfl, ?_, hkp⟩
      have hp := Hp.out
      rw [List.take_of_length_le (by rw [Hx.out]; omega)] at hp
      rw [hp]; rfl
theorem containsFunc2_any (F : FuncId) (caps : Array Value) (p : List Int → Bool) (B : Option Addr) (rows : List (List Int)) (n c : Nat) (w : World) (hx : GridAt w B rows) (hnx : rows.length = n)
    (hF : ∀ (args : Array Value) (w : World), Sem.run Try.prog (callFunc F args) w = .ok (.enter F args) w)
    (hf : ∀ k (hk : k < rows.length) (A : Option Addr) (c : Nat) (w' : World), Kp w w' → IntsAt w' A rows[k] → Calls Try.prog F (#[.slice A rows[k].length c] ++ caps) w' fun e w'' => e = .returned (.bool (p rows[k])) ∧ Kp w' w'') :
    Calls Try.prog 34 #[.slice B n c, .func (.func F) #[] caps] w fun e w' => e = .returned (.bool (rows.any p)) ∧ Kp w w' := by
  have Hx := Lib.hid hnx; clear hnx
  have Hf := Lib.hid hf; clear hf
  go_enter Try.func34, Try.ntmps34
  go_wp2_with fail
  refine (indexFunc2_any F caps p B rows n c w hx Hx.out hF Hf.out).mono ?_
  rintro e w1 ⟨r, rfl, hr, hk1⟩
  have Hr := Lib.hid hr; clear hr
  go_wp2
  go_ret
  exact ⟨ret_bool Hr.out, hk1⟩

theorem isField_clo (A A0 B0 : Option Addr) (xs : List Int) (c n m c0 d0 b : Nat) (w : World) (hx : IntsAt w A xs) (hc : w.cell? ⟨b, 0, none⟩ = some (.slice A0 n c0)) :
    Calls Try.prog 35 #[.slice A xs.length c, .pointer (some ⟨b, 0, none⟩)] w fun e w' => e = .returned (.bool (!rowB n xs)) ∧ Kp w w' := by
  have hl := hx.1
  by_cases h : xs.length = n
  · have h1 : ((xs.length : Int) != (n : Int)) = false := by simp [h]
    have H := Lib.hid h; clear h
    go_enter Try.func35, Try.ntmps35
    go_wp2_with fail
    refine (areBetween_any A xs _ c _ _ w hx rfl).mono ?_
    rintro e w1 ⟨rfl, hk⟩
    go_wp2_with fail
    go_ret
    refine ⟨ret_bool ?_, hk⟩
    have := H.out
    simp [rowB, this, Array.getD]
  · have h1 : ((xs.length : Int) != (n : Int)) = true := by simp; omega
    go_enter Try.func35, Try.ntmps35
    go_wp2_with fail
    go_ret
    refine ⟨ret_bool ?_, Kp.refl _⟩
    simp [rowB, h, Array.getD]

set_option maxHeartbeats 400000 in
theorem isField_any (f : Value) (F : Fld) (w : World) (hf : FldAt w f F) :
    Calls Try.prog 22 #[f] w fun e w' => e = .returned (.bool (goodF F)) ∧ Kp w w' := by
  obtain ⟨A, c, B, d, rfl, hA, hB⟩ := hf
  have hmf : ∀ (fn : Fn) (first cap : Array Value) (w : World), (Instr.makeFunc fn first cap).run Try.prog w = .ok (.func fn first cap) w := fun _ _ _ _ => rfl
  have hk0 : Kp w (w.alloc (.cells #[.slice A F.op.length c, .slice B F.di.length d] 29)) := (Kp.refl w).alloc _
  have hA0 := hA.kp hk0
  have hB0 := hB.kp hk0
  have hBl := hB.1
  have hAl := hA.1
  have d0 : (w.alloc (.cells #[.slice A F.op.length c, .slice B F.di.length d] 29)).cell? ⟨w.heap.size, 0, none⟩ = some (.slice A F.op.length c) := by
    rw [World.cell?_alloc_at _ _ _ _ rfl]; rfl
  have d1 : (w.alloc (.cells #[.slice A F.op.length c, .slice B F.di.length d] 29)).cell? ⟨w.heap.size, 1, none⟩ = some (.slice B F.di.length d) := by
    rw [World.cell?_alloc_at _ _ _ _ rfl]; rfl
  go_enter Try.func22, Try.ntmps22
  go_wp2_with fail
  refine (between_any _ _ _ _).mono ?_
  rintro e w' ⟨rfl, rfl⟩
  cases h1 : inB F.op.length 1 7
  · have H1 := Lib.hid h1; clear h1
    go_wp2_with fail
    go_ret
    exact ⟨ret_bool (by simp [goodF, H1.out, Array.getD]), hk0⟩
  have H1 := Lib.hid h1; clear h1
  go_wp2_with fail
  refine (areBetween_any A F.op _ c _ _ _ hA0 rfl).mono ?_
  rintro e w1 ⟨rfl, hk1⟩
  have e1 := hk1.get d1
  cases h2 : allB F.op 0 99
  · have H2 := Lib.hid h2; clear h2
    go_wp2_with fail
    go_ret
    exact ⟨ret_bool (by simp [goodF, rowB, H2.out, Array.getD]), hk0.trans hk1⟩
  have H2 := Lib.hid h2; clear h2
  by_cases h3 : F.di.length ≤ 7
  · go_wp2_with fail
    refine (containsFunc2_any _ _ (fun r => !rowB F.op.length r) B F.di _ d w1 (hB0.kp hk1) rfl (callFunc_of Try.func35 (by kernel_rfl) (by kernel_rfl)) ?_).mono ?_
    · intro k hk A' c' w' hk' hi
      exact isField_clo A' A B _ c' _ F.di.length c d w.heap.size w' hi ((hk1.trans hk').get d0)
    rintro e w2 ⟨rfl, hk2⟩
    go_wp2_with fail
    go_ret
    refine ⟨ret_bool ?_, (hk0.trans hk1).trans hk2⟩
    have h1 := H1.out
    have h2 := H2.out
    have h4 : (!F.di.any fun r => !rowB F.op.length r) = F.di.all (rowB F.op.length) := by rw [List.all_eq_not_any_not]
    show (!F.di.any fun r => !rowB F.op.length r) = _
    rw [h4, goodF, h1, rowB, h2]
    simp [h3]
  · go_wp2_with fail
    go_ret
    exact ⟨ret_bool (by simp [goodF, h3, Array.getD]), hk0.trans hk1⟩
end Go.Proofs.Ytggkhieepjnmdaa

namespace Go.Proofs.Ytggkhieepjnmdaa
open Go.RowKit

theorem left_small {n : Nat} (h : n ≤ 1048576) : left1 n 1048576 = 1048576 - n := by unfold left1; rw [if_pos (by omega)]
theorem left_big {n : Nat} (h : ¬ n ≤ 1048576) : left1 n 1048576 = -1 := by unfold left1; rw [if_neg (by omega)]
theorem OwnFld.small {w : World} {base : Nat} {v : Value} {F : Fld} (h : OwnFld w base v F) (hb : F.bulk ≤ 1048576) : FldAt w v F :=
  h.fld (by unfold Fld.bulk at hb; omega) (by unfold Fld.bulk at hb; omega) (fun r hr => by
    obtain ⟨k, hk, rfl⟩ := List.getElem_of_mem hr
    have := rowSum_mem hk
    unfold Fld.bulk at hb; omega)
theorem OwnFld.agg {w : World} {base : Nat} {v : Value} {F : Fld} (h : OwnFld w base v F) : ∃ A c B d, v = .agg #[.slice A F.op.length c, .slice B F.di.length d] := by
  obtain ⟨a, b, _, rfl, _, ha, _, hb⟩ := h
  obtain ⟨A, c, rfl⟩ := ha.shape
  obtain ⟨B, d, rfl⟩ := hb.shape
  exact ⟨A, c, B, d, rfl⟩
theorem IntRow.ats {w w' : World} {g : Nat} {xs : List Int} {m : Nat} (h : IntRow w g xs) (hn : xs.length = m) (hb : m ≤ 1048576) (hk : Kp w w') : IntsAt w' (some ⟨g, 0, none⟩) xs := (h.kp hk).ints (by omega)
theorem Own.intsOf {w : World} {base n c : Nat} {A : Option Addr} {xs : List Int} (h : Own w base (.slice A n c) xs) (hl : xs.length ≤ 9223372036854775807) : IntsAt w A xs := by
  obtain ⟨A', c', e, hi⟩ := h.ints hl
  simp only [Value.slice.injEq] at e
  rw [e.1]; exact hi
theorem Own.ofRow {w : World} {base g m : Nat} {xs : List Int} (h : IntRow w g xs) (hn : xs.length = m) (hb : m ≤ 1048576) (hg : base ≤ g) : Own w base (.slice (some ⟨g, 0, none⟩) m m) xs := by
  have := Own.of_row h hg (by omega)
  rw [hn] at this; exact this
theorem box2 (w : World) (a b : Value) (t : TypeId) : (w.alloc (.cells #[a, b] t)).cell? ⟨w.heap.size, 0, none⟩ = some a ∧ (w.alloc (.cells #[a, b] t)).cell? ⟨w.heap.size, 1, none⟩ = some b := by
  constructor <;> (rw [World.cell?_alloc_at _ _ _ _ rfl]; rfl)
end Go.Proofs.Ytggkhieepjnmdaa

namespace Go.Proofs.Ytggkhieepjnmdaa
open Go.RowKit

def okM (xs : List Int) (a b : Nat) : Bool := !(((a &&& b : Nat) : Int) == (a : Int) && decide (xs.getD b 0 < xs.getD a 0))
def monoB (xs : List Int) : Bool := (List.range xs.length).all fun a => (List.range xs.length).all (okM xs a)
theorem okM_guard {xs : List Int} {a b : Nat} (h : (((a &&& b : Nat) : Int) == (a : Int)) = false) : okM xs a b = true := by simp [okM, h]
theorem okM_val {xs : List Int} {a b : Nat} (ha : a < xs.length) (hb : b < xs.length) (h : (((a &&& b : Nat) : Int) == (a : Int)) = true) : okM xs a b = !decide (xs[b] < xs[a]) := by
  simp [okM, h, List.getD, ha, hb]
theorem all_next {p : Nat → Bool} {k : Nat} (h : Hid ((List.range k).all p = true)) (e : p k = true) : Hid ((List.range (k + 1)).all p = true) := by
  show (List.range (k + 1)).all p = true
  rw [all_range_succ, h.out, e]; rfl
theorem not_all2 {p : Nat → Nat → Bool} {a b n m : Nat} (ha : a < n) (hb : b < m) (h : p a b = false) : ((List.range n).all fun a => (List.range m).all (p a)) = false :=
  all_range_false ha (all_range_false hb h)
theorem not_mono {xs : List Int} {a b n : Nat} (hn : Hid (xs.length = n)) (ha : a < n) (hb : b < n) (h : okM xs a b = false) : monoB xs = false := by
  have e := hn.out; subst e; exact not_all2 ha hb h
theorem is_mono {xs : List Int} {a n : Nat} (hn : Hid (xs.length = n)) (hk : a ≤ n) (hge : ¬ a < n) (h : Hid (((List.range a).all fun a => (List.range n).all (okM xs a)) = true)) : monoB xs = true := by
  have e := hn.out; subst e
  have : a = xs.length := by omega
  subst this; exact h
theorem row_done {p : Nat → Bool} {b n : Nat} (hk : b ≤ n) (hge : ¬ b < n) (h : Hid ((List.range b).all p = true)) : (List.range n).all p = true := by
  have : b = n := by omega
  subst this; exact h

end Go.Proofs.Ytggkhieepjnmdaa

namespace Go.Proofs.Ytggkhieepjnmdaa
open Go.RowKit Go.Sort

def okR (xs : List Int) (lo hi : Int) (i : Nat) : Bool := inB (xs.getD i 0) lo hi && (decide (i = 0) || decide (xs.getD (i - 1) 0 < xs.getD i 0))
/-- Strictly rising, within bounds. -/
def risB (xs : List Int) (lo hi : Int) : Bool := (List.range xs.length).all (okR xs lo hi)
theorem okR_out {xs : List Int} {lo hi : Int} {i : Nat} (hi' : i < xs.length) (h : inB xs[i] lo hi = false) : okR xs lo hi i = false := by simp [okR, List.getD, hi', h]
theorem okR_zero {xs : List Int} {lo hi : Int} {i : Nat} (hi' : i < xs.length) (h0 : ¬ 0 < i) (h : inB xs[i] lo hi = true) : okR xs lo hi i = true := by
  have e : i = 0 := by omega
  subst e
  simp [okR, List.getD, hi', h]
theorem okR_succ {xs : List Int} {lo hi : Int} {i : Nat} (hi' : i < xs.length) (h0 : 0 < i) (h : inB xs[i] lo hi = true) : okR xs lo hi i = decide (xs[i - 1] < xs[i]) := by
  have h1 : i - 1 < xs.length := by omega
  have h2 : ¬ i = 0 := by omega
  simp [okR, List.getD, hi', h1, h, h2]
theorem ris_no {xs : List Int} {lo hi : Int} {i n : Nat} (hn : Hid (xs.length = n)) (hi' : i < n) (h : okR xs lo hi i = false) : risB xs lo hi = false := by
  have := hn.out; subst this; exact all_range_false hi' h
theorem ris_yes {xs : List Int} {lo hi : Int} {i n : Nat} (hn : Hid (xs.length = n)) (hk : i ≤ n) (hge : ¬ i < n) (h : Hid ((List.range i).all (okR xs lo hi) = true)) : risB xs lo hi = true := by
  have := hn.out; subst this
  have e : i = xs.length := by omega
  subst e; exact h

/-- A set of sites of a field. -/
def setB (F : Fld) (S : List Int) : Bool := risB S 0 ((F.op.length : Int) - 1)
end Go.Proofs.Ytggkhieepjnmdaa

namespace Go.Proofs.Ytggkhieepjnmdaa
open Go.RowKit

theorem wpl_app {ops : Array Oper} {rest : List Oper} {o : Oper} {a : Act} {Q : Exit → Act → World → Prop} {W : World} (hgd : o.guard = none) (s x : Operand)
    (ho : o.op = .call { callee := .builtin .append, args := #[s, x], argTypes := #[22, 22] }) (base : Nat) (v : Value) (xs : List Int) (z : Int)
    (hs : a.eval s = v) (hx : a.eval x = .slice (some ⟨W.heap.size, 0, none⟩) 1 1) (hown : Own W base v xs) (hbase : base ≤ W.heap.size) (hlen : xs.length < 1048576)
    (h : ∀ v' w', Own w' base v' (xs ++ [z]) → Turn (fun i => v.ownBlock = some i) W w' → (v'.ownBlock = v.ownBlock ∨ ∀ g, v'.ownBlock = some g → W.heap.size ≤ g) → wpList Try.prog ops Q rest (a.put o.dst v') w') :
    wpList Try.prog ops Q (o :: rest) a (W.alloc (.cells #[.int .i64 z] 3)) := by
  obtain ⟨i0, hi, hz0, hz1, hz2⟩ := info_parts infoInt
  have hal : Own (W.alloc (.cells #[.int .i64 z] 3)) base v xs := hown.kp ((Kp.refl W).alloc _)
  refine wpList_append_own_at _ hgd s x 22 ho base 3 i0 (.int .i64 0) 1 8 Try.underlying22 hi hz0 hz1 hz2 rfl (by decide) v xs.length (xs.map (Value.int .i64)) hs hal ⟨W.heap.size, 0, none⟩ 1 1 [.int .i64 z] hx rfl ?_ ?_ ?_ ?_ ?_ ?_
  · intro j u hj
    cases j with
    | zero =>
      simp at hj; subst hj
      rw [add0, World.cell?_alloc_at _ _ _ _ rfl]; rfl
    | succ j => simp at hj
  · intro u hu; simp at hu; subst hu; rfl
  · unfold maxLen; omega
  · omega
  · simp; omega
  · intro v' w' h2 h3 _ h4
    refine h v' w' ?_ ((Turn.of_kp ((Kp.refl W).alloc _)).trans (Turn.of_grown h3)) ?_
    · unfold Own
      rw [List.length_append, List.map_append]
      exact h2
    · rcases h4 with e | e
      · exact .inl e
      · refine .inr (fun g hg => ?_)
        rw [e] at hg
        simp at hg
        omega
theorem own_new0 (w : World) (base : Nat) (hb : base ≤ w.heap.size) : Own (w.alloc (.cells #[] 3)) base (.slice (some ⟨w.heap.size, 0, none⟩) 0 0) [] :=
  World.ownsRow_lit w #[] 0 hb (by unfold maxLen; omega) (by simp)
theorem Own.kp_turn {a w w' : World} {base : Nat} {v : Value} {xs : List Int} (h : Own w base v xs) (hk : Kp a w) (hb : a.heap.size ≤ base) (ht : Turn (fun i => v.ownBlock = some i) w w') : Kp a w' :=
  hk.turn ht (fun i hi => Nat.le_trans hb (h.lt i hi).1)
/-- Two slices of the call's own lie in different blocks. -/
def Apart (v u : Value) : Prop := ∀ g, v.ownBlock = some g → u.ownBlock ≠ some g
theorem Apart.grow {v v' u : Value} {W : World} {base : Nat} {xs : List Int} (h : Apart v u) (hu : Own W base u xs) (h4 : v'.ownBlock = v.ownBlock ∨ ∀ g, v'.ownBlock = some g → W.heap.size ≤ g) : Apart v' u := by
  intro g hg e
  rcases h4 with h4 | h4
  · exact h g (h4 ▸ hg) e
  · have := h4 g hg
    have := (hu.lt g e).2
    omega
theorem Own.apart_turn {v u : Value} {w w' : World} {base : Nat} {xs : List Int} (h : Own w base u xs) (ha : Apart v u) (ht : Turn (fun i => v.ownBlock = some i) w w') : Own w' base u xs := h.turn ht (fun g hg hv => ha g hv hg)
end Go.Proofs.Ytggkhieepjnmdaa

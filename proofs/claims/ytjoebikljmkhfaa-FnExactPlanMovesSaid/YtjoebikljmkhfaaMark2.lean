/- Contracts of the laws' helpers that write marks, and of the comparison of fields. No condition. -/
import Derived.Test.YtjoebikljmkhfaaMark
namespace Go.Proofs.Ytjoebikljmkhfaa
open Go.RowKit

theorem seq_set {k : Int} {xs : List Int} {i : Nat} (hi : i < xs.length) : (seqF k i ++ xs.drop i).set i (k + i) = seqF k (i + 1) ++ xs.drop (i + 1) := by
  have e : seqF k (i + 1) = seqF k i ++ [k + (i : Int)] := by simp [seqF, List.range_succ]
  have e2 : xs.drop i = xs[i] :: xs.drop (i + 1) := List.drop_eq_getElem_cons hi
  rw [List.set_append_right _ _ (by simp [seqF_len]), seqF_len, Nat.sub_self, e2, e, List.set_cons_zero, List.append_assoc]
  rfl
theorem seq_get {k : Int} {xs : List Int} {i : Nat} (hi : i < xs.length) : (seqF k i ++ xs.drop i)[i]? = some xs[i] := by
  rw [List.getElem?_append_right (by simp [seqF_len]), seqF_len, Nat.sub_self]
  simp [hi]

set_option maxHeartbeats 400000 in
theorem markIntS_some (g cap : Nat) (xs : List Int) (n : Nat) (k : Int) (base : Nat) (w : World) (h : Own w base (.slice (some ⟨g, 0, none⟩) n cap) xs) (hn : xs.length = n) (h0 : 0 ≤ k) (h1 : k + n ≤ 4611686018427387904) :
    Calls Try.prog 15 #[.slice (some ⟨g, 0, none⟩) n cap, .int .i64 k] w fun e w' => e = .returned (.int .i64 (k + n)) ∧ Own w' base (.slice (some ⟨g, 0, none⟩) n cap) (seqF k n) ∧ Turn (fun i => i = g) w w' := by
  have Hn := Lib.hid hn; clear hn
  go_enter Try.func15, Try.ntmps15
  go_wp2_with fail
  go_loopw [1, 5] (fun kv i wr => ∃ j : Nat, j ≤ n ∧ i = .int .i64 j ∧ kv = .int .i64 (k + j) ∧ Own wr base (.slice (some ⟨g, 0, none⟩) n cap) (seqF k j ++ xs.drop j) ∧ Turn (fun i => i = g) w wr) (fun _ i _ => n - (intOf i).toNat)
  case atStart => exact ⟨0, by omega, rfl, by simp, by simpa [seqF] using h, Turn.refl _ _⟩
  case round =>
    obtain ⟨j, hj, rfl, rfl, ho, ht⟩ := hrel
    by_cases hlt : j < n
    · have lx : j < xs.length := by rw [Hn.out]; exact hlt
      have hlen : (seqF k j ++ xs.drop j).length = n := by have := Hn.out; simp [seqF_len]; omega
      have ho' : wr.ownsRow base 3 1 (.slice (some ⟨g, 0, none⟩) n cap) n ((seqF k j ++ xs.drop j).map (Value.int .i64)) := by
        have := ho; unfold Own at this; rw [hlen] at this; exact this
      have hc := ho'.cellAt j (by omega)
      rw [List.getElem?_map, seq_get lx] at hc
      have hc : wr.cell? ⟨g, j, none⟩ = some (.int .i64 xs[j]) := hc
      have hf := ho'.frozenAt j
      have hst := ho'.stored j (.int .i64 (k + j))
      have Hst : Hid (Own (wr.setCell ⟨g, j, none⟩ (.int .i64 (k + j))) base (.slice (some ⟨g, 0, none⟩) n cap) (seqF k (j + 1) ++ xs.drop (j + 1)) ∧ Turn (fun i => i = g) w (wr.setCell ⟨g, j, none⟩ (.int .i64 (k + j)))) := by
        refine ⟨?_, ht.trans ((Turn.of_grown hst.2).mono (fun i hi => by simpa using hi.symm))⟩
        have h2 := hst.1
        rw [← List.map_set, seq_set lx] at h2
        have hl2 : (seqF k (j + 1) ++ xs.drop (j + 1)).length = n := by have := Hn.out; simp [seqF_len]; omega
        unfold Own; rw [hl2]; exact h2
      clear ho ho' hst hlen ht
      go_wp2_with fail
      go_roundw
      case rel => exact ⟨j + 1, by omega, by go_num, by go_num, Hst.out.1, Hst.out.2⟩
      case measure => simp [intOf]; omega
    · obtain rfl : j = n := by omega
      go_wp2_with fail
      go_ret
      refine ⟨rfl, ?_, ht⟩
      have := Hn.out
      rw [List.drop_of_length_le (by omega), List.append_nil] at ho
      exact ho
theorem markIntS_nil (c : Nat) (k : Int) (w : World) :
    Calls Try.prog 15 #[.slice none 0 c, .int .i64 k] w fun e w' => e = .returned (.int .i64 k) ∧ w = w' := by
  go_enter Try.func15, Try.ntmps15
  go_wp2_with fail
  refine wp_loop_rounds 1 ?_
  rw [rounds_succ]
  go_wp2_with fail
  go_ret
  exact ⟨rfl, rfl⟩
/-- Marks in a slice of the call's own. -/
theorem markIntS_any (v : Value) (xs : List Int) (k : Int) (base : Nat) (w : World) (h : Own w base v xs) (h0 : 0 ≤ k) (h1 : k + xs.length ≤ 4611686018427387904) :
    Calls Try.prog 15 #[v, .int .i64 k] w fun e w' => e = .returned (.int .i64 (k + xs.length)) ∧ Own w' base v (seqF k xs.length) ∧ Turn (fun i => v.ownBlock = some i) w w' := by
  rcases h.2 with ⟨rfl, hn⟩ | ⟨g, cap, cur, rfl, _⟩
  · refine (markIntS_nil 0 k w).mono ?_
    rintro e w' ⟨rfl, rfl⟩
    rw [hn]
    exact ⟨ret_int (by simp), Own.nil _ _, Turn.refl _ _⟩
  · refine (markIntS_some g cap xs _ k base w h rfl h0 h1).mono ?_
    rintro e w' ⟨rfl, ho, ht⟩
    exact ⟨rfl, ho, ht.mono (fun i hi => by simp [Value.ownBlock, hi])⟩

/-- A slice of slices of the call's own, its rows in blocks below hi. -/
def OwnGridB (w : World) (base hi : Nat) (v : Value) (n : Nat) (R : Nat → List Int) : Prop :=
  ∃ C : Nat → Value, w.ownsRow base 22 1 v n ((List.range n).map C) ∧ (∀ j, j < n → Own w base (C j) (R j)) ∧
    (∀ i j g, i < j → j < n → (C i).ownBlock = some g → (C j).ownBlock ≠ some g) ∧ ∀ j, j < n → ∀ g, (C j).ownBlock = some g → g < hi
theorem OwnGrid.bounded {w : World} {base : Nat} {v : Value} {n : Nat} {R : Nat → List Int} (h : OwnGrid w base v n R) : OwnGridB w base w.heap.size v n R := by
  obtain ⟨C, h1, h2, h3⟩ := h
  exact ⟨C, h1, h2, h3, fun j hj g hg => ((h2 j hj).lt g hg).2⟩
theorem OwnGridB.kp {w w' : World} {base hi : Nat} {v : Value} {n : Nat} {R : Nat → List Int} (h : OwnGridB w base hi v n R) (hk : Kp w w') : OwnGridB w' base hi v n R := by
  obtain ⟨C, h1, h2, h3, h4⟩ := h
  exact ⟨C, hk.own h1, fun j hj => (h2 j hj).kp hk, h3, h4⟩
theorem OwnGridB.turn {S : Nat → Prop} {w w' : World} {base hi : Nat} {v : Value} {n : Nat} {R : Nat → List Int} (h : OwnGridB w base hi v n R) (ht : Turn S w w') (hS : ∀ i, base ≤ i → i < w.heap.size → ¬ S i) : OwnGridB w' base hi v n R := by
  obtain ⟨C, h1, h2, h3, h4⟩ := h
  exact ⟨C, own_turn h1 ht (fun g hg => hS g (h1.lt g hg).1 (h1.lt g hg).2), fun j hj => (h2 j hj).turn ht (fun g hg => hS g ((h2 j hj).lt g hg).1 ((h2 j hj).lt g hg).2), h3, h4⟩

/-- Where the marks of row j begin. -/
def startAt (R : Nat → List Int) : Nat → Nat
  | 0 => 0
  | j + 1 => startAt R j + (R j).length
set_option maxHeartbeats 400000 in
theorem markIntSS_any (v : Value) (n : Nat) (R : Nat → List Int) (k : Int) (base hi : Nat) (w : World) (h : OwnGridB w base hi v n R) (h0 : 0 ≤ k) (hn : n ≤ 9223372036854775807) (h1 : ∀ j, j ≤ n → k + startAt R j ≤ 4611686018427387904) :
    Calls Try.prog 14 #[v, .int .i64 k] w fun e w' => e = .returned (.int .i64 (k + startAt R n)) ∧ OwnGrid w' base v n (fun j => seqF (k + startAt R j) (R j).length) ∧ Turn (fun i => base ≤ i ∧ i < hi) w w' := by
  have H1 := Lib.hid h1; clear h1
  obtain ⟨C, hr, hC, hd, hhi⟩ := h
  have HC : Hid (∀ i j g, i < j → j < n → (C i).ownBlock = some g → (C j).ownBlock ≠ some g) := hd
  have HL : Hid (∀ j, j < n → Own w base (C j) (R j)) := hC
  have Hhi : Hid (∀ j, j < n → ∀ g, (C j).ownBlock = some g → g < hi) := hhi
  clear hd hC hhi
  rcases hr.2 with ⟨rfl, hn0⟩ | ⟨g, cap, cur, rfl, _⟩
  · subst hn0
    go_enter Try.func14, Try.ntmps14
    go_wp2_with fail
    refine wp_loop_rounds 1 ?_
    rw [rounds_succ]
    go_wp2_with fail
    go_ret
    exact ⟨ret_int (by simp [startAt]), ⟨C, hr, fun j hj => absurd hj (by omega), fun i j g _ hj => absurd hj (by omega)⟩, Turn.refl _ _⟩
  · go_enter Try.func14, Try.ntmps14
    go_wp2_with fail
    go_loopw [1, 5] (fun kv i wr => ∃ j : Nat, j ≤ n ∧ i = .int .i64 j ∧ kv = .int .i64 (k + startAt R j) ∧ wr.ownsRow base 22 1 (.slice (some ⟨g, 0, none⟩) n cap) n ((List.range n).map C) ∧
        Hid (∀ i, i < n → Own wr base (C i) (if i < j then seqF (k + startAt R i) (R i).length else R i)) ∧ Turn (fun i => base ≤ i ∧ i < hi) w wr) (fun _ i _ => n - (intOf i).toNat)
    case atStart => exact ⟨0, by omega, rfl, by simp [startAt], hr, fun i hii => by simpa using HL.out i hii, Turn.refl _ _⟩
    case round =>
      obtain ⟨j, hj, rfl, rfl, ho, HO, ht⟩ := hrel
      by_cases hlt : j < n
      · have hc := ho.cellAt j (by omega)
        rw [List.getElem?_map, List.getElem?_range hlt] at hc
        have hc : wr.cell? ⟨g, j, none⟩ = some (C j) := hc
        have hoj := HO.out j hlt
        rw [if_neg (by omega)] at hoj
        have hb1 : k + startAt R j + (R j).length ≤ 4611686018427387904 := by have := H1.out (j + 1) (by omega); simp only [startAt] at this; omega
        have es : Hid ((startAt R (j + 1) : Int) = startAt R j + (R j).length) := by show (startAt R (j + 1) : Int) = _; simp [startAt]
        go_wp2_with fail
        refine (markIntS_any (C j) (R j) _ base wr hoj (by omega) hb1).mono ?_
        rintro e w1 ⟨rfl, ho1, ht1⟩
        have hrow := OwnGrid.row ho HO.out HC.out hlt ht1 ho1
        have Hrow := Lib.hid hrow
        have Ht : Hid (Turn (fun i => base ≤ i ∧ i < hi) w w1) := ht.trans (ht1.mono (fun i hii => ⟨((HL.out j hlt).lt i hii).1, Hhi.out j hlt i hii⟩))
        clear hrow ho1 ht1 hoj ht ho
        go_wp2_with fail
        go_roundw
        case rel =>
          refine ⟨j + 1, by omega, by go_num, ?_, Hrow.out.1, fun i hi => ?_, Ht.out⟩
          · rw [es.out]; go_num
          · have := Hrow.out.2 i hi
            by_cases e : i = j
            · subst e
              rw [if_pos rfl] at this
              rw [if_pos (by omega)]; exact this
            · rw [if_neg e] at this
              by_cases e2 : i < j
              · rw [if_pos (by omega)]; rw [if_pos e2] at this; exact this
              · rw [if_neg (by omega)]; rw [if_neg e2] at this; exact this
        case measure => simp [intOf]; omega
      · obtain rfl : j = n := by omega
        go_wp2_with fail
        go_ret
        exact ⟨rfl, ⟨C, ho, fun i hi => by have := HO.out i hi; rw [if_pos hi] at this; exact this, HC.out⟩, ht⟩
theorem startAt_rows (rows : List (List Int)) : ∀ j, j ≤ rows.length → startAt (fun j => rows.getD j []) j = rowSum (rows.take j)
  | 0, _ => by simp [startAt, rowSum]
  | j + 1, h => by
    have hj : j < rows.length := by omega
    rw [startAt, startAt_rows rows j (by omega), rowSum_take_succ hj]
    simp [List.getD, hj]
theorem seq_getD {k : Int} {n i : Nat} (hi : i < n) : (seqF k n)[i]? = some (k + (i : Int)) := by simp [seqF, hi]
/-- What is marked reads as it was marked. -/
theorem heldIntS_any (A : Option Addr) (n c : Nat) (k : Int) (w : World) (h : IntsAt w A (seqF k n)) (h0 : 0 ≤ k) (h1 : k + n ≤ 4611686018427387904) :
    Calls Try.prog 16 #[.slice A n c, .int .i64 k] w fun e w' => e = .returned (.int .i64 (k + n)) ∧ Dr w w' := by
  go_enter Try.func16, Try.ntmps16
  go_wp2_with fail
  go_loopw [1, 5] (fun kv i wr => ∃ j : Nat, j ≤ n ∧ i = .int .i64 j ∧ kv = .int .i64 (k + j) ∧ Dr w wr) (fun _ i _ => n - (intOf i).toNat)
  case atStart => exact ⟨0, by omega, rfl, by simp, Dr.refl _⟩
  case round =>
    obtain ⟨j, hj, rfl, rfl, hd⟩ := hrel
    by_cases hlt : j < n
    · have lx : j < (seqF k n).length := by rw [seqF_len]; exact hlt
      obtain ⟨ad, rfl, hc⟩ := (h.kp hd.kp).at_ lx
      have e1 : (seqF k n)[j] = k + j := by
        have := seq_getD (k := k) hlt
        rw [List.getElem?_eq_getElem lx] at this
        exact Option.some.inj this
      rw [e1] at hc
      have hne : ((k + (j : Int)) != (k + (j : Int))) = false := by simp
      go_wp2_with fail
      go_roundw
      case rel => exact ⟨j + 1, by omega, by go_num, by go_num, hd⟩
      case measure => simp [intOf]; omega
    · obtain rfl : j = n := by omega
      go_wp2_with fail
      go_ret
      exact ⟨rfl, hd⟩

end Go.Proofs.Ytjoebikljmkhfaa

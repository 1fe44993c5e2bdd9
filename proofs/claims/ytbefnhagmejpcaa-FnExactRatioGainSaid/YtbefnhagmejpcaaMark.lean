/- Contracts of the laws' helpers that make and write memory: copies of fields, marks. No condition. -/
import Derived.Test.YtbefnhagmejpcaaField
import Derived.Test.YtbefnhagmejpcaaOwn
namespace Go.Proofs.Ytbefnhagmejpcaa
open Go.RowKit

theorem toIntS_own (A : Option Addr) (xs : List Int) (n c : Nat) (w : World) (hx : IntsAt w A xs) (hnx : xs.length = n) (hb : n ≤ 1048576) :
    Calls Try.prog 21 #[.slice A n c] w fun e w' => ∃ g, e = .returned (.slice (some ⟨g, 0, none⟩) n n) ∧ w.heap.size ≤ g ∧ g < w'.heap.size ∧ Own w' w.heap.size (.slice (some ⟨g, 0, none⟩) n n) xs ∧ Kp w w' := by
  refine (toIntS_any A xs n c w hx hnx hb).mono ?_
  rintro e w' ⟨g, rfl, hg, hr, hk⟩
  have := Own.of_row hr hg (by omega)
  rw [hnx] at this
  exact ⟨g, rfl, hg, World.rowIs.lt hr, this, hk⟩

/-- What the copy of a slice of slices holds after k rounds. -/
structure GridTo (w wr : World) (b m k : Nat) (R : Nat → List Int) (G : Nat → Nat) : Prop where
  kp : Kp w wr
  row : wr.rowIs b 22 m (fun j => if j < k then .slice (some ⟨G j, 0, none⟩) (R j).length (R j).length else .slice none 0 0)
  hb : w.heap.size ≤ b
  own : ∀ j, j < k → Own wr w.heap.size (.slice (some ⟨G j, 0, none⟩) (R j).length (R j).length) (R j)
  ord : ∀ i j, i < j → j < k → G i < G j
  bd : ∀ j, j < k → b < G j
theorem GridTo.step {w wr w1 : World} {b m k g : Nat} {R : Nat → List Int} {G : Nat → Nat} (h : GridTo w wr b m k R G) (hg1 : wr.heap.size ≤ g) (hk1 : Kp wr w1) (ho : Own w1 wr.heap.size (.slice (some ⟨g, 0, none⟩) (R k).length (R k).length) (R k)) :
    GridTo w (w1.setCell ⟨b, k, none⟩ (.slice (some ⟨g, 0, none⟩) (R k).length (R k).length)) b m (k + 1) R (fun j => if j = k then g else G j) := by
  have hlb : b < wr.heap.size := h.row.lt
  have hle := h.kp.le
  refine ⟨(h.kp.trans hk1).setCell h.hb _, ((hk1.row h.row).set k _).congr (fun j hj => ?_), h.hb, fun j hj => ?_, fun i j hij hj => ?_, fun j hj => ?_⟩
  · by_cases e : j = k
    · subst e; simp
    · rw [if_neg e]
      by_cases h2 : j < k
      · rw [if_pos h2, if_pos (by omega), if_neg e]
      · rw [if_neg h2, if_neg (by omega)]
  · have ht : Turn (fun i => i = b) w1 (w1.setCell ⟨b, k, none⟩ (.slice (some ⟨g, 0, none⟩) (R k).length (R k).length)) :=
      ⟨rfl, rfl, rfl, by simp [World.setCell], fun i hi hn => Below.heap_setCell _ _ _ _ hn⟩
    by_cases e : j = k
    · subst e
      simp only [if_true]
      refine (ho.mono hle).turn ht (fun g' hg' e' => ?_)
      simp [Value.ownBlock] at hg'
      omega
    · have hj' : j < k := by omega
      simp only [if_neg e]
      refine ((h.own j hj').kp hk1).turn ht (fun g' hg' e' => ?_)
      have := h.bd j hj'
      simp [Value.ownBlock] at hg'
      omega
  · have hGk : ∀ i, i < k → G i < wr.heap.size := fun i hi => (((h.own i hi).lt) (G i) rfl).2
    by_cases e : j = k
    · subst e
      rw [if_pos rfl, if_neg (by omega)]
      have := hGk i hij; omega
    · rw [if_neg e, if_neg (by omega)]
      exact h.ord i j hij (by omega)
  · by_cases e : j = k
    · subst e; rw [if_pos rfl]; omega
    · rw [if_neg e]; exact h.bd j (by omega)
theorem GridTo.done {w wr : World} {b m : Nat} {R : Nat → List Int} {G : Nat → Nat} (h : GridTo w wr b m m R G) (hm : m ≤ 1048576) : OwnGrid wr w.heap.size (.slice (some ⟨b, 0, none⟩) m m) m R := by
  obtain ⟨c, hg, hs, hc⟩ := h.row
  refine ⟨fun j => .slice (some ⟨G j, 0, none⟩) (R j).length (R j).length, ⟨by simp, .inr ⟨b, m, c, rfl, h.hb, hg, Nat.le_refl _, by unfold maxLen; omega, by omega, ?_⟩⟩, h.own, fun i j g hij hj e1 e2 => ?_⟩
  · rw [List.take_of_length_le (by simp [hs])]
    apply List.ext_getElem?
    intro i
    by_cases hi : i < m
    · rw [Array.getElem?_toList, hc i hi]; simp [hi]
    · rw [List.getElem?_eq_none (by simp [hs]; omega), List.getElem?_eq_none (by simp; omega)]
  · have := h.ord i j hij hj
    simp [Value.ownBlock] at e1 e2
    omega

set_option maxHeartbeats 400000 in
theorem toIntSS_any (B : Option Addr) (rows : List (List Int)) (m c : Nat) (w : World) (hx : GridAt w B rows) (hm : rows.length = m) (hb : m ≤ 1048576) (hr : ∀ k (h : k < rows.length), rows[k].length ≤ 1048576) :
    Calls Try.prog 35 #[.slice B m c] w fun e w' => ∃ v, e = .returned v ∧ OwnGrid w' w.heap.size v m (fun j => rows.getD j []) ∧ Kp w w' := by
  have Hm := Lib.hid hm; clear hm
  have Hr := Lib.hid hr; clear hr
  have hmk := run_make_row' (P := Try.prog) 23 22 (.slice none 0 0) 24 Try.underlying23 infoInts rfl .i64 .i64 m (by omega) (by omega)
  go_enter Try.func35, Try.ntmps35
  go_wp2_with fail
  go_loopw [4] (fun i wr => ∃ k : Nat, ∃ G : Nat → Nat, k ≤ m ∧ i = .int .i64 k ∧ GridTo w wr w.heap.size m k (fun j => rows.getD j []) G) (fun i _ => m - (intOf i).toNat)
  case atStart => exact ⟨0, fun _ => 0, by omega, rfl, (Kp.refl w).alloc _, (World.rowIs_made w _ m _).congr (fun i _ => by simp), Nat.le_refl _, fun j hj => absurd hj (by omega), fun i j _ hj => absurd hj (by omega), fun j hj => absurd hj (by omega)⟩
  case round =>
    obtain ⟨k, G, hk, rfl, hG⟩ := hrel
    by_cases hlt : k < m
    · have lx : k < rows.length := by rw [Hm.out]; exact hlt
      obtain ⟨bd, A, ca, rfl, hc, hra⟩ := (hx.kp hG.kp).at_ lx
      have eR : Hid (rows.getD k [] = rows[k]) := by show rows.getD k [] = _; simp [List.getD, lx]
      go_wp2_with fail
      refine (toIntS_own A rows[k] _ ca _ hra rfl (Hr.out k lx)).mono ?_
      rintro e w1 ⟨g, rfl, hg1, _, ho, hk1⟩
      have hst := hG.step hg1 hk1 (by rw [eR.out]; exact ho)
      rw [eR.out] at hst
      have Hst := Lib.hid hst; clear hst
      have hc0 := (hk1.row hG.row).cell hlt
      have hf0 := (hk1.row hG.row).frozen k
      rw [if_neg (by omega)] at hc0
      clear hG
      go_wp2_with fail
      go_roundw
      case rel => exact ⟨k + 1, _, by omega, by go_num, Hst.out⟩
      case measure => simp [intOf]; omega
    · obtain rfl : k = m := by omega
      go_wp2_with fail
      go_ret
      exact ⟨_, rfl, hG.done hb, hG.kp⟩

theorem row2 (w : World) (a b : Value) (t : TypeId) : (w.alloc (.cells #[a, b] t)).rowIs w.heap.size t 2 (fun j => if j = 0 then a else b) :=
  World.rowIs_alloc w #[a, b] t _ (fun i hi => by
    have : i = 0 ∨ i = 1 := by simp at hi; omega
    rcases this with rfl | rfl <;> rfl)
set_option maxHeartbeats 400000 in
theorem toField_any (f : Value) (F : Fld) (w : World) (hf : FldAt w f F) (hb : F.bulk ≤ 1048576) :
    Calls Try.prog 11 #[f] w fun e w' => ∃ v, e = .returned v ∧ OwnFld w' w.heap.size v F ∧ Kp w w' := by
  obtain ⟨A, c, B, d, rfl, hA, hB⟩ := hf
  unfold Fld.bulk at hb
  have hrows : ∀ k (h : k < F.di.length), F.di[k].length ≤ 1048576 := fun k h => by have := rowSum_mem h; omega
  have Hrows := Lib.hid hrows; clear hrows
  have r0 := ((row2 w (.slice A F.op.length c) (.slice B F.di.length d) 25).alloc (.cells #[.slice none 0 0, .slice none 0 0] 29)).alloc (.cells #[.slice none 0 0, .slice none 0 0] 29)
  have r1 := (row2 (w.alloc (.cells #[.slice A F.op.length c, .slice B F.di.length d] 25)) (.slice none 0 0) (.slice none 0 0) 29).alloc (.cells #[.slice none 0 0, .slice none 0 0] 29)
  have r2 := row2 ((w.alloc (.cells #[.slice A F.op.length c, .slice B F.di.length d] 25)).alloc (.cells #[.slice none 0 0, .slice none 0 0] 29)) (.slice none 0 0) (.slice none 0 0) 29
  have hk0 : Kp w (((w.alloc (.cells #[.slice A F.op.length c, .slice B F.di.length d] 25)).alloc (.cells #[.slice none 0 0, .slice none 0 0] 29)).alloc (.cells #[.slice none 0 0, .slice none 0 0] 29)) := (((Kp.refl w).alloc _).alloc _).alloc _
  simp only [World.size_alloc] at r0 r1 r2
  have hsz : w.heap.size + 3 ≤ (((w.alloc (.cells #[.slice A F.op.length c, .slice B F.di.length d] 25)).alloc (.cells #[.slice none 0 0, .slice none 0 0] 29)).alloc (.cells #[.slice none 0 0, .slice none 0 0] 29)).heap.size := by simp
  go_enter Try.func11, Try.ntmps11
  go_wp2_with fail
  refine (toIntS_own A F.op _ c _ (hA.kp hk0) rfl (by omega)).mono ?_
  rintro e w1 ⟨g, rfl, hg, hgl, ho, hk1⟩
  have s0 := hk1.row r0; have s1 := hk1.row r1; have s2 := hk1.row r2
  have hk01 := hk0.trans hk1
  clear r0 r1 r2
  have c1 := s0.cell (i := 1) (by omega)
  have c2 := s2.cell (i := 0) (by omega)
  have f2 := s2.frozen 0
  simp only [if_true, Nat.one_ne_zero, if_false] at c1 c2
  have ho := ho.mono (base' := w.heap.size + 1 + 1 + 1) (by omega)
  have hk2 : Kp w (w1.setCell ⟨w.heap.size + 1 + 1, 0, none⟩ (.slice (some ⟨g, 0, none⟩) F.op.length F.op.length)) := hk01.setCell (by show _ ≤ w.heap.size + 1 + 1; omega) _
  have ho2 := ho.turn (w' := w1.setCell ⟨w.heap.size + 1 + 1, 0, none⟩ (.slice (some ⟨g, 0, none⟩) F.op.length F.op.length)) (S := fun i => i = w.heap.size + 1 + 1) ⟨rfl, rfl, rfl, by simp [World.setCell], fun i hi hn => Below.heap_setCell _ _ _ _ hn⟩ (fun g' hg' e => by have := (ho.lt g' hg').1; omega)
  have t1 := s1.setOther (a := ⟨w.heap.size + 1 + 1, 0, none⟩) (by show _ ≠ w.heap.size + 1 + 1; omega) (.slice (some ⟨g, 0, none⟩) F.op.length F.op.length)
  have t2 := s2.set 0 (.slice (some ⟨g, 0, none⟩) F.op.length F.op.length)
  have hszz : w.heap.size + 1 + 1 + 1 ≤ (w1.setCell ⟨w.heap.size + 1 + 1, 0, none⟩ (.slice (some ⟨g, 0, none⟩) F.op.length F.op.length)).heap.size := by
    have := hk1.le; simp [World.setCell] at this ⊢; omega
  clear s0 s1 s2 hsz
  go_wp2_with fail
  refine (toIntSS_any B F.di _ d _ (hB.kp hk2) rfl (by omega) Hrows.out).mono ?_
  rintro e w2 ⟨v, rfl, hog, hk3⟩
  obtain ⟨A2, c2', rfl⟩ := hog.shape
  have ho3 := ho2.kp hk3
  have u1 := hk3.row t1; have u2 := hk3.row t2
  have hk4 := hk2.trans hk3
  have hog2 : ∀ k, (Value.slice A2 F.di.length c2').ownBlock = some k → w.heap.size + 1 + 1 + 1 ≤ k := fun k hk => Nat.le_trans hszz (hog.lt k hk).1
  have d0 := u2.cell (i := 0) (by omega); have d1 := u2.cell (i := 1) (by omega)
  have d2 := u1.cell (i := 0) (by omega); have d3 := u1.cell (i := 1) (by omega)
  have g0 := u2.frozen 0; have g1 := u2.frozen 1; have g2 := u1.frozen 0; have g3 := u1.frozen 1
  simp only [if_true, Nat.one_ne_zero, if_false] at d0 d1 d2 d3
  have v1 := ((u1.setOther (a := ⟨w.heap.size + 1 + 1, 1, none⟩) (by show w.heap.size + 1 ≠ w.heap.size + 1 + 1; omega) (.slice A2 F.di.length c2')).set 0 (.slice (some ⟨g, 0, none⟩) F.op.length F.op.length)).set 1 (.slice A2 F.di.length c2')
  have x0 := v1.cell (i := 0) (by omega); have x1 := v1.cell (i := 1) (by omega)
  simp only [if_true, Nat.zero_ne_one, if_false] at x0 x1
  have X0 := Lib.hid x0; have X1 := Lib.hid x1
  have Hog := Lib.hid hog2
  clear t1 t2 u1 u2 c1 c2 f2 hog2 x0 x1 v1
  go_wp2_with fail
  have ht : Turn (fun i => i = w.heap.size + 1 ∨ i = w.heap.size + 1 + 1) w2 (((w2.setCell ⟨w.heap.size + 1 + 1, 1, none⟩ (.slice A2 F.di.length c2')).setCell ⟨w.heap.size + 1, 0, none⟩ (.slice (some ⟨g, 0, none⟩) F.op.length F.op.length)).setCell ⟨w.heap.size + 1, 1, none⟩ (.slice A2 F.di.length c2')) :=
    ⟨rfl, rfl, rfl, by simp [World.setCell], fun i hi hn => by
      rw [Below.heap_setCell _ _ _ _ (fun e => hn (.inl e)), Below.heap_setCell _ _ _ _ (fun e => hn (.inl e)), Below.heap_setCell _ _ _ _ (fun e => hn (.inr e))]⟩
  have x0 := X0.out; have x1 := X1.out
  refine bodyPost_ret (v := .agg #[.slice (some ⟨g, 0, none⟩) F.op.length F.op.length, .slice A2 F.di.length c2']) (by simp [results, Try.results11, go_sem, x0, x1]) rfl ⟨_, rfl, ⟨_, _, _, rfl, ?_, ?_, ?_, hog.turn ht (fun i hi _ e => ?_)⟩, ?_⟩
  · exact Nat.le_trans (by omega) hszz
  · exact (ho3.turn ht (fun g' hg' e => by have := (ho3.lt g' hg').1; omega)).mono (by omega)
  · intro g' hg'
    simp [Value.ownBlock] at hg'
    simp [World.setCell]
    omega
  · have := hszz; omega
  · exact ((hk4.setCell (by show _ ≤ w.heap.size + 1 + 1; omega) _).setCell (by show _ ≤ w.heap.size + 1; omega) _).setCell (by show _ ≤ w.heap.size + 1; omega) _
end Go.Proofs.Ytbefnhagmejpcaa

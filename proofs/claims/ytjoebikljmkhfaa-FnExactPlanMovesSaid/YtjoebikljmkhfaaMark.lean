/- Contracts of the laws' helpers that make and write memory: copies of fields, marks. No condition. -/
import Derived.Test.YtjoebikljmkhfaaField
import Derived.Test.YtjoebikljmkhfaaOwn
namespace Go.Proofs.Ytjoebikljmkhfaa
open Go.RowKit

theorem toIntS_own (A : Option Addr) (xs : List Int) (n c : Nat) (w : World) (hx : IntsAt w A xs) (hnx : xs.length = n) (hb : n ≤ 1048576) :
    Calls Try.prog 22 #[.slice A n c] w fun e w' => ∃ g, e = .returned (.slice (some ⟨g, 0, none⟩) n n) ∧ w.heap.size ≤ g ∧ g < w'.heap.size ∧ Own w' w.heap.size (.slice (some ⟨g, 0, none⟩) n n) xs ∧ Kp w w' := by
  refine (toIntS_any A xs n c w hx hnx hb).mono ?_
  rintro e w' ⟨g, rfl, hg, hr, hk⟩
  have := Own.of_row hr hg (by omega)
  rw [hnx] at this
  exact ⟨g, rfl, hg, World.rowIs.lt hr, this, hk⟩

/-- What the copy of a slice of slices holds after k rounds. -/
structure GridTo (w wr : World) (b m k : Nat) (R : Nat → List Int) (G : Nat → Nat) : Prop where
  kp : Kp w wr
  row : wr.rowIs b 22 m (fun j => if j < k then .slice (some ⟨G j, 0, none⟩) (R j).length (R j).length else .slice none 0 0)
  hb : w.heap.size ≤ b
  own : ∀ j, j < k → Own wr w.heap.size (.slice (some ⟨G j, 0, none⟩) (R j).length (R j).length) (R j)
  ord : ∀ i j, i < j → j < k → G i < G j
  bd : ∀ j, j < k → b < G j
theorem GridTo.step {w wr w1 : World} {b m k g : Nat} {R : Nat → List Int} {G : Nat → Nat} (h : GridTo w wr b m k R G) (hg1 : wr.heap.size ≤ g) (hk1 : Kp wr w1) (ho : Own w1 wr.heap.size (.slice (some ⟨g, 0, none⟩) (R k).length (R k).length) (R k)) :
    GridTo w (w1.setCell ⟨b, k, none⟩ (.slice (some ⟨g, 0, none⟩) (R k).length (R k).length)) b m (k + 1) R (fun j => if j = k then g else G j) := by
  have hlb : b < wr.heap.size := h.row.lt
  have hle := h.kp.le
  refine ⟨(h.kp.trans hk1).setCell h.hb _, ((hk1.row h.row).set k _).congr (fun j hj => ?_), h.hb, fun j hj => ?_, fun i j hij hj => ?_, fun j hj => ?_⟩
  · by_cases e : j = k
    · subst e; simp
    · rw [if_neg e]
      by_cases h2 : j < k
      · rw [if_pos h2, if_pos (by omega), if_neg e]
      · rw [if_neg h2, if_neg (by omega)]
  · have ht : Turn (fun i => i = b) w1 (w1.setCell ⟨b, k, none⟩ (.slice (some ⟨g, 0, none⟩) (R k).length (R k).length)) :=
      ⟨rfl, rfl, rfl, by simp [World.setCell], fun i hi hn => Below.heap_setCell _ _ _ _ hn⟩
    by_cases e : j = k
    · subst e
      simp only [if_true]
      refine (ho.mono hle).turn ht (fun g' hg' e' => ?_)
      simp [Value.ownBlock] at hg'
      omega
    · have hj' : j < k := by omega
      simp only [if_neg e]
      refine ((h.own j hj').kp hk1).turn ht (fun g' hg' e' => ?_)
      have := h.bd j hj'
      simp [Value.ownBlock] at hg'
      omega
  · have hGk : ∀ i, i < k → G i < wr.heap.size := fun i hi => (((h.own i hi).lt) (G i) rfl).2
    by_cases e : j = k
    · subst e
      rw [if_pos rfl, if_neg (by omega)]
      have := hGk i hij; omega
    · rw [if_neg e, if_neg (by omega)]
      exact h.ord i j hij (by omega)
  · by_cases e : j = k
    · subst e; rw [if_pos rfl]; omega
    · rw [if_neg e]; exact h.bd j (by omega)
theorem GridTo.done {w wr : World} {b m : Nat} {R : Nat → List Int} {G : Nat → Nat} (h : GridTo w wr b m m R G) (hm : m ≤ 1048576) : OwnGrid wr w.heap.size (.slice (some ⟨b, 0, none⟩) m m) m R := by
  obtain ⟨c, hg, hs, hc⟩ := h.row
  refine ⟨fun j => .slice (some ⟨G j, 0, none⟩) (R j).length (R j).length, ⟨by simp, .inr ⟨b, m, c, rfl, h.hb, hg, Nat.le_refl _, by unfold maxLen; omega, by omega, ?_⟩⟩, h.own, fun i j g hij hj e1 e2 => ?_⟩
  · rw [List.take_of_length_le (by simp [hs])]
    apply List.ext_getElem?
    intro i
    by_cases hi : i < m
    · rw [Array.getElem?_toList, hc i hi]; simp [hi]
    · rw [List.getElem?_eq_none (by simp [hs]; omega), List.getElem?_eq_none (by simp; omega)]
  · have := h.ord i j hij hj
    simp [Value.ownBlock] at e1 e2
    omega

set_option maxHeartbeats 400000 in
theorem toIntSS_any (B : Option Addr) (rows : List (List Int)) (m c : Nat) (w : World) (hx : GridAt w B rows) (hm : rows.length = m) (hb : m ≤ 1048576) (hr : ∀ k (h : k < rows.length), rows[k].length ≤ 1048576) :
    Calls Try.prog 8 #[.slice B m c] w fun e w' => ∃ v, e = .returned v ∧ OwnGrid w' w.heap.size v m (fun j => rows.getD j []) ∧ Kp w w' := by
  have Hm := Lib.hid hm; clear hm
  have Hr := Lib.hid hr; clear hr
  have hmk := run_make_row' (P := Try.prog) 26 22 (.slice none 0 0) 24 Try.underlying26 infoInts rfl .i64 .i64 m (by omega) (by omega)
  go_enter Try.func8, Try.ntmps8
  go_wp2_with fail
  go_loopw [4] (fun i wr => ∃ k : Nat, ∃ G : Nat → Nat, k ≤ m ∧ i = .int .i64 k ∧ GridTo w wr w.heap.size m k (fun j => rows.getD j []) G) (fun i _ => m - (intOf i).toNat)
  case atStart => exact ⟨0, fun _ => 0, by omega, rfl, (Kp.refl w).alloc _, (World.rowIs_made w _ m _).congr (fun i _ => by simp), Nat.le_refl _, fun j hj => absurd hj (by omega), fun i j _ hj => absurd hj (by omega), fun j hj => absurd hj (by omega)⟩
  case round =>
    obtain ⟨k, G, hk, rfl, hG⟩ := hrel
    by_cases hlt : k < m
    · have lx : k < rows.length := by rw [Hm.out]; exact hlt
      obtain ⟨bd, A, ca, rfl, hc, hra⟩ := (hx.kp hG.kp).at_ lx
      have eR : Hid (rows.getD k [] = rows[k]) := by show rows.getD k [] = _; simp [List.getD, lx]
      go_wp2_with fail
      refine (toIntS_own A rows[k] _ ca _ hra rfl (Hr.out k lx)).mono ?_
      rintro e w1 ⟨g, rfl, hg1, _, ho, hk1⟩
      have hst := hG.step hg1 hk1 (by rw [eR.out]; exact ho)
      rw [eR.out] at hst
      have Hst := Lib.hid hst; clear hst
      have hc0 := (hk1.row hG.row).cell hlt
      have hf0 := (hk1.row hG.row).frozen k
      rw [if_neg (by omega)] at hc0
      clear hG
      go_wp2_with fail
      go_roundw
      case rel => exact ⟨k + 1, _, by omega, by go_num, Hst.out⟩
      case measure => simp [intOf]; omega
    · obtain rfl : k = m := by omega
      go_wp2_with fail
      go_ret
      exact ⟨_, rfl, hG.done hb, hG.kp⟩

theorem row2 (w : World) (a b : Value) (t : TypeId) : (w.alloc (.cells #[a, b] t)).rowIs w.heap.size t 2 (fun j => if j = 0 then a else b) :=
  World.rowIs_alloc w #[a, b] t _ (fun i hi => by
    have : i = 0 ∨ i = 1 := by simp at hi; omega
    rcases this with rfl | rfl <;> rfl)
end Go.Proofs.Ytjoebikljmkhfaa

/- Openings as the clients come: the program's walk. No condition. -/
import Derived.Test.YtghpkjllcapbpaaOnl3
import Derived.Test.YtghpkjllcapbpaaPart
import Derived.Test.YtghpkjllcapbpaaGridRes
namespace Go.Proofs.Ytghpkjllcapbpaa
open Go.RowKit Go.Sort

/-- Rows of the call's own behind headers, apart from the outer slice and from one more slice. -/
def GRow (w : World) (b : Nat) (hs : List Value) (rows : List (List Int)) (ov lv : Value) : Prop :=
  ∀ j (hj : j < rows.length), ∃ u, hs[j]? = some u ∧ RowP w (some b) u rows[j] ∧ ∀ g, u.ownBlock = some g → ov.ownBlock ≠ some g ∧ lv.ownBlock ≠ some g
def GPair (hs : List Value) : Prop := ∀ (i j : Nat) (u v : Value) (g : Nat), i < j → hs[i]? = some u → hs[j]? = some v → u.ownBlock = some g → v.ownBlock ≠ some g
def GOn (w : World) (b : Nat) (ov : Value) (rows : List (List Int)) (lv : Value) : Prop := ∃ hs : List Value, w.ownsRow b 22 1 ov rows.length hs ∧ GRow w b hs rows ov lv ∧ GPair hs
theorem GOn.lenH {w : World} {b n : Nat} {ov : Value} {hs : List Value} (h : w.ownsRow b 22 1 ov n hs) : hs.length = n := by have := h.1; simpa using this
theorem GOn.gown {w : World} {b : Nat} {ov lv : Value} {rows : List (List Int)} (h : GOn w b ov rows lv) : GOwn w (some b) b ov rows := by
  obtain ⟨hs, h1, h2, _⟩ := h
  exact ⟨hs, h1, fun j hj => by obtain ⟨u, e1, e2, e3⟩ := h2 j hj; exact ⟨u, e1, e2, fun _ g hg => (e3 g hg).1⟩⟩
theorem GOn.nil {w : World} {b : Nat} {ov lv : Value} (h : GOwn w (some b) b ov []) : GOn w b ov [] lv := by
  obtain ⟨hs, h1, _⟩ := h
  have e : hs = [] := List.eq_nil_of_length_eq_zero (GOn.lenH h1)
  exact ⟨hs, h1, fun j hj => absurd hj (by simp), fun i j u v g _ h2 => by subst e; simp at h2⟩
theorem GOn.kp {w w' : World} {b : Nat} {ov lv : Value} {rows : List (List Int)} (h : GOn w b ov rows lv) (hk : Kp w w') : GOn w' b ov rows lv := by
  obtain ⟨hs, h1, h2, h3⟩ := h
  exact ⟨hs, hk.own h1, fun j hj => by obtain ⟨u, e1, e2, e3⟩ := h2 j hj; exact ⟨u, e1, e2.kp hk, e3⟩, h3⟩
theorem GOn.turnL {w w' : World} {b : Nat} {ov lv lv' : Value} {rows : List (List Int)} (h : GOn w b ov rows lv) (hap : Apart ov lv) (ht : Turn (fun i => lv.ownBlock = some i) w w') (h4 : lv'.ownBlock = lv.ownBlock ∨ ∀ g, lv'.ownBlock = some g → w.heap.size ≤ g) : GOn w' b ov rows lv' := by
  obtain ⟨hs, h1, h2, h3⟩ := h
  refine ⟨hs, own_turn h1 ht (fun g hg hl => hap g hg hl), fun j hj => ?_, h3⟩
  obtain ⟨u, e1, e2, e3⟩ := h2 j hj
  refine ⟨u, e1, e2.turn ht (fun _ g hg hl => (e3 g hg).2 hl), fun g hg => ⟨(e3 g hg).1, fun hl => ?_⟩⟩
  rcases h4 with e | e
  · exact (e3 g hg).2 (e ▸ hl)
  · have h5 := e g hl
    have h6 := e2.lt (.inr (by simp)) g hg
    omega
theorem GRow.snoc {w w' : World} {b g' m c' : Nat} {hs : List Value} {ov lv u : Value} {rows : List (List Int)} {r : List Int} (h : GRow w b hs rows ov lv) (hl : hs.length = rows.length) (ht : Turn (fun i => ov.ownBlock = some i) w w') (h4 : ov.ownBlock = some g' ∨ w.heap.size ≤ g') (hu : RowP w (some b) u r) (hd : ∀ g, u.ownBlock = some g → ov.ownBlock ≠ some g ∧ lv.ownBlock ≠ some g) : GRow w' b (hs ++ [u]) (rows ++ [r]) (.slice (some ⟨g', 0, none⟩) m c') lv := by
  have key : ∀ (x : Value) (xs : List Int), RowP w (some b) x xs → (∀ g, x.ownBlock = some g → ov.ownBlock ≠ some g ∧ lv.ownBlock ≠ some g) → RowP w' (some b) x xs ∧ ∀ g, x.ownBlock = some g → (Value.slice (some ⟨g', 0, none⟩) m c').ownBlock ≠ some g ∧ lv.ownBlock ≠ some g := by
    intro x xs hx hxd
    refine ⟨hx.turn ht (fun _ g hg hl => (hxd g hg).1 hl), fun g hg => ⟨fun e => ?_, (hxd g hg).2⟩⟩
    have e2 : g' = g := by simpa [Value.ownBlock] using e
    subst e2
    rcases h4 with h5 | h5
    · exact (hxd g' hg).1 h5
    · have := hx.lt (.inr (by simp)) g' hg; omega
  intro j hj
  by_cases hlt : j < rows.length
  · obtain ⟨x, e1, e2, e3⟩ := h j hlt
    have k := key x _ e2 e3
    exact ⟨x, by rw [List.getElem?_append_left (by omega)]; exact e1, by rw [List.getElem_append_left hlt]; exact k.1, k.2⟩
  · have hj2 : j = rows.length := by simp at hj; omega
    subst hj2
    have k := key u r hu hd
    refine ⟨u, by rw [List.getElem?_append_right (by omega), hl]; simp, ?_, k.2⟩
    simpa using k.1
theorem GRow.below {w : World} {b : Nat} {hs : List Value} {rows : List (List Int)} {ov lv x : Value} (h : GRow w b hs rows ov lv) (hl : hs.length = rows.length) {j g : Nat} (hj : hs[j]? = some x) (hx : x.ownBlock = some g) : g < w.heap.size := by
  have hjl : j < hs.length := by
    rcases Nat.lt_or_ge j hs.length with h1 | h1
    · exact h1
    · rw [List.getElem?_eq_none h1] at hj; cases hj
  obtain ⟨u, e1, e2, _⟩ := h j (by omega)
  rw [hj] at e1
  cases e1
  exact e2.lt (.inr (by simp)) g hx
theorem GPair.snoc {hs : List Value} {u : Value} (h : GPair hs) (hn : ∀ (j : Nat) (x : Value) (g : Nat), hs[j]? = some x → x.ownBlock = some g → u.ownBlock ≠ some g) : GPair (hs ++ [u]) := by
  intro i j a v g hij ha hv hg
  have hjl : j < (hs ++ [u]).length := by
    rcases Nat.lt_or_ge j (hs ++ [u]).length with h1 | h1
    · exact h1
    · rw [List.getElem?_eq_none h1] at hv; cases hv
  rw [List.length_append] at hjl
  simp at hjl
  have hil : i < hs.length := by omega
  rw [List.getElem?_append_left hil] at ha
  by_cases hlt : j < hs.length
  · rw [List.getElem?_append_left hlt] at hv
    exact h i j a v g hij ha hv hg
  · obtain rfl : j = hs.length := by omega
    rw [List.getElem?_append_right (by omega)] at hv
    simp at hv
    subst hv
    exact hn i a g ha hg
theorem GOn.mono {w : World} {b b' : Nat} {ov lv : Value} {rows : List (List Int)} (h : GOn w b ov rows lv) (hb : b' ≤ b) : GOn w b' ov rows lv := by
  obtain ⟨hs, h1, h2, h3⟩ := h
  refine ⟨hs, ⟨h1.1, ?_⟩, fun j hj => by obtain ⟨u, e1, e2, e3⟩ := h2 j hj; exact ⟨u, e1, e2.mono hb, e3⟩, h3⟩
  rcases h1.2 with h | ⟨g, cap, cur, e, h3, h4⟩
  · exact .inl h
  · exact .inr ⟨g, cap, cur, e, Nat.le_trans hb h3, h4⟩
theorem GOn.grid {w : World} {b : Nat} {ov lv : Value} {rows : List (List Int)} (h : GOn w b ov rows lv) : OwnGrid w b ov rows.length (rowAt rows) := by
  obtain ⟨hs, h1, h2, h3⟩ := h
  have hl := GOn.lenH h1
  have key : ∀ j (hj : j < rows.length), hs[j]? = some (hs.getD j (.slice none 0 0)) := fun j hj => by
    rw [List.getElem?_eq_getElem (by omega)]
    simp [List.getD, show j < hs.length by omega]
  have em : (List.range rows.length).map (fun j => hs.getD j (.slice none 0 0)) = hs := by
    apply List.ext_getElem
    · simp [hl]
    · intro i hi hi2
      simp [List.getD, hi2]
  refine ⟨fun j => hs.getD j (.slice none 0 0), by rw [em]; exact h1, fun j hj => ?_, fun i j g hij hj hg => h3 i j _ _ g hij (key i (by omega)) (key j hj) hg⟩
  obtain ⟨u, e1, e2, _⟩ := h2 j hj
  rw [key j hj] at e1
  have e3 : hs.getD j (.slice none 0 0) = u := Option.some.inj e1
  have e4 : rowAt rows j = rows[j] := by simp [rowAt, List.getD, hj]
  show Own w b (hs.getD j (.slice none 0 0)) (rowAt rows j)
  rw [e3, e4]
  exact e2.2 b rfl
theorem bits_nil {n b : Nat} (hb : b < 2 ^ n) : bitsL n b = [] ↔ b = 0 := by
  constructor
  · intro h
    exact bitsL_inj hb (Nat.two_pow_pos n) (h.trans (bits_zero n).symm)
  · rintro rfl; exact bits_zero n
theorem first_lt0 {F : Fld} (i : Nat) (h : 1 ≤ F.op.length) {k : Nat} (hk : k ≤ F.op.length) : firstT F i k < F.op.length := by
  by_cases h0 : k = 0
  · subst h0; exact h
  · have := first_lt F i k (by omega); omega
end Go.Proofs.Ytghpkjllcapbpaa

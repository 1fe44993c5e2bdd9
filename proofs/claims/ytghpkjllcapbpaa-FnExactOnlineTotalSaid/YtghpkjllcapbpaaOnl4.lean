/- Openings as the clients come: the program's walk. No condition. -/
import Derived.Test.YtghpkjllcapbpaaOnl3
import Derived.Test.YtghpkjllcapbpaaPart
namespace Go.Proofs.Ytghpkjllcapbpaa
open Go.RowKit Go.Sort

/-- Rows of the call's own behind headers, apart from the outer slice and from one more slice. -/
def GRow (w : World) (b : Nat) (hs : List Value) (rows : List (List Int)) (ov lv : Value) : Prop :=
  ∀ j (hj : j < rows.length), ∃ u, hs[j]? = some u ∧ RowP w (some b) u rows[j] ∧ ∀ g, u.ownBlock = some g → ov.ownBlock ≠ some g ∧ lv.ownBlock ≠ some g
def GOn (w : World) (b : Nat) (ov : Value) (rows : List (List Int)) (lv : Value) : Prop := ∃ hs : List Value, w.ownsRow b 22 1 ov rows.length hs ∧ GRow w b hs rows ov lv
theorem GOn.gown {w : World} {b : Nat} {ov lv : Value} {rows : List (List Int)} (h : GOn w b ov rows lv) : GOwn w (some b) b ov rows := by
  obtain ⟨hs, h1, h2⟩ := h
  exact ⟨hs, h1, fun j hj => by obtain ⟨u, e1, e2, e3⟩ := h2 j hj; exact ⟨u, e1, e2, fun _ g hg => (e3 g hg).1⟩⟩
theorem GOn.nil {w : World} {b : Nat} {ov lv : Value} (h : GOwn w (some b) b ov []) : GOn w b ov [] lv := by
  obtain ⟨hs, h1, _⟩ := h
  exact ⟨hs, h1, fun j hj => absurd hj (by simp)⟩
theorem GOn.kp {w w' : World} {b : Nat} {ov lv : Value} {rows : List (List Int)} (h : GOn w b ov rows lv) (hk : Kp w w') : GOn w' b ov rows lv := by
  obtain ⟨hs, h1, h2⟩ := h
  exact ⟨hs, hk.own h1, fun j hj => by obtain ⟨u, e1, e2, e3⟩ := h2 j hj; exact ⟨u, e1, e2.kp hk, e3⟩⟩
theorem GOn.turnL {w w' : World} {b : Nat} {ov lv lv' : Value} {rows : List (List Int)} (h : GOn w b ov rows lv) (hap : Apart ov lv) (ht : Turn (fun i => lv.ownBlock = some i) w w') (h4 : lv'.ownBlock = lv.ownBlock ∨ ∀ g, lv'.ownBlock = some g → w.heap.size ≤ g) : GOn w' b ov rows lv' := by
  obtain ⟨hs, h1, h2⟩ := h
  refine ⟨hs, own_turn h1 ht (fun g hg hl => hap g hg hl), fun j hj => ?_⟩
  obtain ⟨u, e1, e2, e3⟩ := h2 j hj
  refine ⟨u, e1, e2.turn ht (fun _ g hg hl => (e3 g hg).2 hl), fun g hg => ⟨(e3 g hg).1, fun hl => ?_⟩⟩
  rcases h4 with e | e
  · exact (e3 g hg).2 (e ▸ hl)
  · have h5 := e g hl
    have h6 := e2.lt (.inr (by simp)) g hg
    omega
theorem GRow.snoc {w w' : World} {b g' m c' : Nat} {hs : List Value} {ov lv u : Value} {rows : List (List Int)} {r : List Int} (h : GRow w b hs rows ov lv) (hl : hs.length = rows.length) (ht : Turn (fun i => ov.ownBlock = some i) w w') (h4 : ov.ownBlock = some g' ∨ w.heap.size ≤ g') (hu : RowP w (some b) u r) (hd : ∀ g, u.ownBlock = some g → ov.ownBlock ≠ some g ∧ lv.ownBlock ≠ some g) : GRow w' b (hs ++ [u]) (rows ++ [r]) (.slice (some ⟨g', 0, none⟩) m c') lv := by
  have key : ∀ (x : Value) (xs : List Int), RowP w (some b) x xs → (∀ g, x.ownBlock = some g → ov.ownBlock ≠ some g ∧ lv.ownBlock ≠ some g) → RowP w' (some b) x xs ∧ ∀ g, x.ownBlock = some g → (Value.slice (some ⟨g', 0, none⟩) m c').ownBlock ≠ some g ∧ lv.ownBlock ≠ some g := by
    intro x xs hx hxd
    refine ⟨hx.turn ht (fun _ g hg hl => (hxd g hg).1 hl), fun g hg => ⟨fun e => ?_, (hxd g hg).2⟩⟩
    have e2 : g' = g := by simpa [Value.ownBlock] using e
    subst e2
    rcases h4 with h5 | h5
    · exact (hxd g' hg).1 h5
    · have := hx.lt (.inr (by simp)) g' hg; omega
  intro j hj
  by_cases hlt : j < rows.length
  · obtain ⟨x, e1, e2, e3⟩ := h j hlt
    have k := key x _ e2 e3
    exact ⟨x, by rw [List.getElem?_append_left (by omega)]; exact e1, by rw [List.getElem_append_left hlt]; exact k.1, k.2⟩
  · have hj2 : j = rows.length := by simp at hj; omega
    subst hj2
    have k := key u r hu hd
    refine ⟨u, by rw [List.getElem?_append_right (by omega), hl]; simp, ?_, k.2⟩
    simpa using k.1
theorem GOn.lenH {w : World} {b n : Nat} {ov : Value} {hs : List Value} (h : w.ownsRow b 22 1 ov n hs) : hs.length = n := by have := h.1; simpa using this
theorem bits_nil {n b : Nat} (hb : b < 2 ^ n) : bitsL n b = [] ↔ b = 0 := by
  constructor
  · intro h
    exact bitsL_inj hb (Nat.two_pow_pos n) (h.trans (bits_zero n).symm)
  · rintro rfl; exact bits_zero n
theorem first_lt0 {F : Fld} (i : Nat) (h : 1 ≤ F.op.length) {k : Nat} (hk : k ≤ F.op.length) : firstT F i k < F.op.length := by
  by_cases h0 : k = 0
  · subst h0; exact h
  · have := first_lt F i k (by omega); omega
end Go.Proofs.Ytghpkjllcapbpaa

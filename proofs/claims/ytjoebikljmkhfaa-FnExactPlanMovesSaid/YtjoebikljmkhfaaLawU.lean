/- Small words for the walks of laws. No condition. -/
import Derived.Test.YtjoebikljmkhfaaMark2
import Derived.Test.YtjoebikljmkhfaaGood
import Derived.Deep.RegionWith
import Derived.Deep.DeepCutAuto
namespace Go.Proofs.Ytjoebikljmkhfaa
open Go.RowKit

theorem left_small {n : Nat} (h : n ≤ 1048576) : left1 n 1048576 = 1048576 - n := by unfold left1; rw [if_pos (by omega)]
theorem left_big {n : Nat} (h : ¬ n ≤ 1048576) : left1 n 1048576 = -1 := by unfold left1; rw [if_neg (by omega)]
theorem OwnFld.small {w : World} {base : Nat} {v : Value} {F : Fld} (h : OwnFld w base v F) (hb : F.bulk ≤ 1048576) : FldAt w v F :=
  h.fld (by unfold Fld.bulk at hb; omega) (by unfold Fld.bulk at hb; omega) (fun r hr => by
    obtain ⟨k, hk, rfl⟩ := List.getElem_of_mem hr
    have := rowSum_mem hk
    unfold Fld.bulk at hb; omega)
theorem OwnFld.agg {w : World} {base : Nat} {v : Value} {F : Fld} (h : OwnFld w base v F) : ∃ A c B d, v = .agg #[.slice A F.op.length c, .slice B F.di.length d] := by
  obtain ⟨a, b, _, rfl, _, ha, _, hb⟩ := h
  obtain ⟨A, c, rfl⟩ := ha.shape
  obtain ⟨B, d, rfl⟩ := hb.shape
  exact ⟨A, c, B, d, rfl⟩
theorem IntRow.ats {w w' : World} {g : Nat} {xs : List Int} {m : Nat} (h : IntRow w g xs) (hn : xs.length = m) (hb : m ≤ 1048576) (hk : Kp w w') : IntsAt w' (some ⟨g, 0, none⟩) xs := (h.kp hk).ints (by omega)
theorem Own.intsOf {w : World} {base n c : Nat} {A : Option Addr} {xs : List Int} (h : Own w base (.slice A n c) xs) (hl : xs.length ≤ 9223372036854775807) : IntsAt w A xs := by
  obtain ⟨A', c', e, hi⟩ := h.ints hl
  simp only [Value.slice.injEq] at e
  rw [e.1]; exact hi
theorem Own.ofRow {w : World} {base g m : Nat} {xs : List Int} (h : IntRow w g xs) (hn : xs.length = m) (hb : m ≤ 1048576) (hg : base ≤ g) : Own w base (.slice (some ⟨g, 0, none⟩) m m) xs := by
  have := Own.of_row h hg (by omega)
  rw [hn] at this; exact this
theorem box2 (w : World) (a b : Value) (t : TypeId) : (w.alloc (.cells #[a, b] t)).cell? ⟨w.heap.size, 0, none⟩ = some a ∧ (w.alloc (.cells #[a, b] t)).cell? ⟨w.heap.size, 1, none⟩ = some b := by
  constructor <;> (rw [World.cell?_alloc_at _ _ _ _ rfl]; rfl)
end Go.Proofs.Ytjoebikljmkhfaa

/- The drawing of arguments for the laws on gains. No condition. -/
import Derived.Test.YtcccmndkolmboaaQAo
namespace Go.Proofs.Ytcccmndkolmboaa
open Go.RowKit Go.Sort

/-- A new cursor. -/
theorem cur_new {w : World} {A : Option Addr} {n c : Nat} {t : TypeId} (hb : BytesAt w A n) : Cur (w.alloc (.cells #[.slice A n c, .int .i64 0, .int .u64 0] t)) w.heap.size 0 := by
  have hk : Kp w (w.alloc (.cells #[.slice A n c, .int .i64 0, .int .u64 0] t)) := (Kp.refl w).alloc _
  refine ⟨⟨A, n, c, 0, 0, ?_, ?_, ?_, Nat.le_refl _, hb.kp hk, fun ad e h0 => ?_⟩, there_newD w [.slice A n c, .int .i64 0, .int .u64 0] t⟩
  · rw [World.cell?_alloc_at _ _ _ _ rfl]; rfl
  · rw [World.cell?_alloc_at _ _ _ _ rfl]; rfl
  · rw [World.cell?_alloc_at _ _ _ _ rfl]; rfl
  · obtain ⟨ad', b, e', hc, _⟩ := hb.2 0 h0
    rw [e] at e'
    cases e'
    have := World.block_lt_of_cell? _ _ hc
    rwa [blk_add] at this
theorem BytesAt.kpD {w w' : World} {A : Option Addr} {n : Nat} (h : BytesAt w A n) (hk : Kp w w') : BytesAt w' A n := h.kp hk
/-- The results of a draw whose first one is a field. -/
theorem drw_ret {w w2 : World} {rb b : Nat} {x y : Value} (hf : DFld w2 b (.agg #[x, y])) (hb : rb < b) (ht : w2.there rb 0 2) (k : Kp w w2) (hr : w.heap.size ≤ rb) : (w2.setCells rb 0 [x, y]).cell? ⟨rb, 0, none⟩ = some x ∧ (w2.setCells rb 0 [x, y]).cell? ⟨rb, 1, none⟩ = some y ∧ DFld (w2.setCells rb 0 [x, y]) w.heap.size (.agg #[x, y]) ∧ Kp w (w2.setCells rb 0 [x, y]) ∧ Turn (fun i => i = rb) w2 (w2.setCells rb 0 [x, y]) := by
  have ts := turn_setCellsD rb [x, y] 0 w2
  have hg := World.rangeAt_setCells_same w2 rb 0 [x, y] ht
  exact ⟨hg 0 _ rfl, hg 1 _ rfl, (hf.turn ts (fun i hi => by omega)).mono (by omega), k.turn ts (fun i hi => by omega), ts⟩
def MgPost (w : World) (e : Ending) (w' : World) : Prop := ∃ v r l a, e = .returned (.tuple #[v, .int .i64 r, l, .int .i64 a]) ∧ DFld w' w.heap.size v ∧ DInts w' w.heap.size l ∧ Kp w w'
def WrPost (w : World) (e : Ending) (w' : World) : Prop := ∃ v l a, e = .returned (.tuple #[v, l, .int .i64 a]) ∧ DFld w' w.heap.size v ∧ DInts w' w.heap.size l ∧ Kp w w'
end Go.Proofs.Ytcccmndkolmboaa

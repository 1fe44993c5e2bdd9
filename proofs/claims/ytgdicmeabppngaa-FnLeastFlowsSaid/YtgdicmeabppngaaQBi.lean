/- LeastFlow: which numbers of the reference's net may grow, written. No condition. -/
import Derived.Test.YtgdicmeabppngaaQAs
import Derived.Test.YtgdicmeabppngaaQAt
namespace Go.Proofs.Ytgdicmeabppngaa
open Go.RowKit Go.Sort

def upd2b (f : Nat → Nat → Bool) (j a : Nat) (x : Bool) (i b : Nat) : Bool := if i = j ∧ b = a then x else f i b
theorem boolRow_set {M : Nat} {p : Nat → Bool} {a : Nat} {x : Bool} : (boolRow M p).set a (.bool x) = boolRow M (fun b => if b = a then x else p b) := by
  apply List.ext_getElem
  · simp [boolRow]
  · intro i h1 h2
    simp only [boolRow, List.getElem_set, List.getElem_map, List.getElem_range]
    by_cases e : a = i
    · subst e; simp
    · rw [if_neg e, if_neg (Ne.symm e)]
theorem NetS.setMay {w : World} {base : Nat} {L : NetL} {J M : Nat} {nl lf : Nat → Int} {fl : Nat → Nat → Int} {may : Nat → Nat → Bool} (h : NetS w base L J M nl lf fl may) (hA : ∀ i j, i < J → j < J → i ≠ j → L.Bm i ≠ L.Bm j) {j a : Nat} (hj : j < J) (ha : a < M) :
    w.cell? ⟨L.gm, j, none⟩ = some (.slice (some ⟨L.Bm j, 0, none⟩) M (L.Cm j)) ∧ w.cell? ⟨L.Bm j, a, none⟩ = some (.bool (may j a)) ∧ w.frozen? ⟨L.Bm j, a, none⟩ = false ∧ base ≤ L.Bm j ∧
    ∀ z : Bool, NetS (w.setCell ⟨L.Bm j, a, none⟩ (.bool z)) base L J M nl lf fl (upd2b may j a z) ∧ Turn (fun i => i = L.Bm j) w (w.setCell ⟨L.Bm j, a, none⟩ (.bool z)) := by
  have hJ : 0 < J := by omega
  have ho := h.mr j hj
  obtain ⟨c0, c1⟩ := h.hcell hj
  have hlt := World.ownsRow.lt ho (L.Bm j) rfl
  have hfz : w.frozen? ⟨L.Bm j, a, none⟩ = false := by
    rcases ho.2 with ⟨e, _⟩ | ⟨g, cap, cur, e, _, hg, _⟩
    · cases e
    · cases e
      simp [World.frozen?, hg]
  have hne : ∀ {e : TypeId} {v : Value} {n : Nat} {hs : List Value} {b : Nat}, w.ownsRow base e 1 v n hs → 4 ≠ e → v.ownBlock = some b → b ≠ L.Bm j := fun h2 h3 h4 e => own_blocks_ne ho h2 h3 (g := L.Bm j) rfl (by rw [h4, e])
  refine ⟨c0, c1 a ha, hfz, hlt.1, fun z => ?_⟩
  have t1 : Turn (fun i => i = L.Bm j) w (w.setCell ⟨L.Bm j, a, none⟩ (.bool z)) := turn_cell w ⟨L.Bm j, a, none⟩ (.bool z)
  have o1 := (World.ownsRow.stored ho a (.bool z)).1
  rw [boolRow_set] at o1
  refine ⟨⟨fun _ => (h.nd hJ).turn t1 (fun b hb => hne (h.nd hJ) (by decide) hb), h.na, h.rm.turn t1 (fun b hb => hne h.rm (by decide) hb), h.fa, fun _ => (h.fl hJ).turn t1 (hne (h.fl hJ).hd (by decide) rfl) (fun i hi => hne ((h.fl hJ).row i hi) (by decide) rfl), h.ma,
    fun _ => own_turn (h.mh hJ) t1 (fun b hb => hne (h.mh hJ) (by decide) hb), fun i hi => ?_, h.a1, h.a2⟩, t1⟩
  by_cases e : i = j
  · subst e
    have e2 : boolRow M (upd2b may i a z i) = boolRow M (fun b => if b = a then z else may i b) := by
      unfold boolRow
      exact List.map_congr_left (fun b _ => by unfold upd2b; simp)
    rw [e2]; exact o1
  · have e2 : boolRow M (upd2b may j a z i) = boolRow M (may i) := by
      unfold boolRow
      exact List.map_congr_left (fun b _ => by unfold upd2b; rw [if_neg (fun h => e h.1)])
    rw [e2]
    exact own_turn (h.mr i hi) t1 (fun b hb e3 => hA i j hi hj e (by have : L.Bm i = b := (by simpa [Value.ownBlock] using hb); omega))
end Go.Proofs.Ytgdicmeabppngaa

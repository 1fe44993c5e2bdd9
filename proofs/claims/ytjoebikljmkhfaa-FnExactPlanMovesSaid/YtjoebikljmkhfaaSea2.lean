/- Seasons: an argument that is one; copies, sizes and comparison of seasons. No condition. -/
import Derived.Test.YtjoebikljmkhfaaSea
import Derived.Test.YtjoebikljmkhfaaFrame2
import Derived.Deep.Slices
namespace Go.Proofs.Ytjoebikljmkhfaa
open Go.ChangeShapes Go.WideShapes Go.ChangeAt Go.RowKit Go.Deep Go.Joins

section
variable {H : Type} {enc : TypeId × Value → H} {P : Program} {W : World}
theorem gridsAt_of_trod {t e q r : TypeId} {fuel : Nat} {v : Value} {y : DataW H × List MemPlace} (ht : P.underlying t = some (.slice e)) (he : P.underlying e = some (.slice q)) (hq : P.underlying q = some (.slice r)) (hr : P.underlying r = some (.int .i64)) (ce : P.cellsOf e = 1) (cq : P.cellsOf q = 1) (cr : P.cellsOf r = 1)
    (hf : DataW.trod enc P W 0 (fun _ => true) true fuel t [v] = some y) : ∃ B rows c, v = .slice B rows.length c ∧ GridsAt W B rows := by
  rcases open_slice1 ht ce hf with ⟨hcs, _⟩ | ⟨a, len, cap, m, n, V, D, Pl, hcs, _, hl, hm, hmm, _, hx⟩
  · simp at hcs
    subst hcs
    exact ⟨none, [], 0, rfl, by simp, fun k hk => absurd hk (by simp)⟩
  · simp at hcs
    subst hcs
    simp only [if_true] at hmm
    subst hmm
    have each : ∀ k, ∃ z : Option Addr × List (List Int) × Nat, k < m → V k = .slice z.1 z.2.1.length z.2.2 ∧ GridAt W z.1 z.2.1 := fun k => by
      by_cases hk : k < m
      · obtain ⟨B, rows, c, e1, e2⟩ := gridAt_of_trod he hq hr cq cr (hx k hk).2
        exact ⟨(B, rows, c), fun _ => ⟨e1, e2⟩⟩
      · exact ⟨(none, [], 0), fun h => absurd h hk⟩
    obtain ⟨Z, hZ⟩ := Classical.axiomOfChoice each
    have hlen : ((List.range len).map fun k => (Z k).2.1).length = len := by simp
    refine ⟨some a, (List.range len).map fun k => (Z k).2.1, _, by rw [hlen], by rw [hlen]; unfold maxLen at hm; omega, fun k hk => ?_⟩
    rw [hlen] at hk
    have hkm : k < m := by omega
    have e1 : ((List.range len).map fun k => (Z k).2.1).getD k [] = (Z k).2.1 := by simp [List.getD, hk]
    rw [e1]
    refine ⟨a, (Z k).1, (Z k).2.2, rfl, ?_, (hZ k hkm).2⟩
    rw [(hx k hkm).1, (hZ k hkm).1]
end
theorem cellsLSeason : Try.prog.cellsOf 25 = 4 := by kernel_rfl
theorem cellsGrid : Try.prog.cellsOf 26 = 1 := by kernel_rfl
set_option maxRecDepth 100000 in
/-- An argument that is a season. -/
theorem open_seasonAt {H : Type} {enc : TypeId × Value → H} {W : World} {v : Value} {d : DataW H} {p : List MemPlace} {b0 : Nat}
    (hv : Value.okWide Try.prog W .any b0 25 v) (h : DataW.Trod enc Try.prog W 0 (fun _ => true) true 25 v d p) : ∃ F, SeaAt W v F := by
  obtain ⟨c0, c1, c2, c3, y0, y1, y2, y3, m, rfl, rfl, rfl, hy0, hy1, hy2, hy3⟩ := open_agg4 Try.underlying25 (by kernel_rfl) cellsLSeason hv h
  obtain ⟨A, xs, a, rfl, hA⟩ := intsAt_of_trod Try.underlying22 Try.underlying3 cellsInt hy0
  obtain ⟨B, ys, b, rfl, hB⟩ := intsAt_of_trod Try.underlying22 Try.underlying3 cellsInt hy1
  obtain ⟨C, zs, c, rfl, hC⟩ := intsAt_of_trod Try.underlying22 Try.underlying3 cellsInt hy2
  obtain ⟨D, rows, d, rfl, hD⟩ := gridsAt_of_trod Try.underlying23 Try.underlying26 Try.underlying22 Try.underlying3 cellsGrid cellsInts cellsInt hy3
  exact ⟨⟨xs, ys, zs, rows⟩, A, a, B, b, C, c, D, d, rfl, hA, hB, hC, hD⟩

/-- What stays true of the memory whatever becomes of the blocks below base. -/
def Sta (base : Nat) (w : World) (Q : World → Prop) : Prop := ∀ w2, Turn (fun i => i < base) w w2 → Q w2
theorem Sta.now {base : Nat} {w : World} {Q : World → Prop} (h : Sta base w Q) : Q w := h w (Turn.refl _ _)
theorem Sta.turn {base : Nat} {w w' : World} {Q : World → Prop} (h : Sta base w Q) (ht : Turn (fun i => i < base) w w') : Sta base w' Q := fun w2 h2 => h w2 (ht.trans h2)
theorem Sta.kp {base : Nat} {w w' : World} {Q : World → Prop} (h : Sta base w Q) (hk : Kp w w') : Sta base w' Q := h.turn (Turn.of_kp hk)
theorem Sta.mono {base base' : Nat} {w : World} {Q : World → Prop} (h : Sta base w Q) (hb : base' ≤ base) : Sta base' w Q := fun w2 h2 => h w2 (h2.mono fun i hi => Nat.lt_of_lt_of_le hi hb)
theorem Sta.set {base : Nat} {w : World} {Q : World → Prop} (h : Sta base w Q) {p : Addr} (hp : p.block < base) (u : Value) : Sta base (w.setCell p u) Q :=
  h.turn ⟨rfl, rfl, rfl, by simp [World.setCell], fun i hi hn => Below.heap_setCell _ _ _ _ (fun e => hn (by rw [e]; exact hp))⟩
theorem turn_lt_row {base g : Nat} {w w' : World} {t : TypeId} {n : Nat} {f : Nat → Value} (h : w.rowIs g t n f) (hb : base ≤ g) (ht : Turn (fun i => i < base) w w') : w'.rowIs g t n f :=
  h.of_block (ht.block g h.lt (by omega))
theorem IntRow.sta {w : World} {base g : Nat} {xs : List Int} (h : IntRow w g xs) (hb : base ≤ g) (hl : xs.length ≤ 9223372036854775807) : Sta base w (fun w => IntsAt w (some ⟨g, 0, none⟩) xs) := fun _ h2 => IntRow.ints (turn_lt_row h hb h2) hl
theorem OwnGrid.sta {w : World} {base : Nat} {A : Option Addr} {n c : Nat} {R : Nat → List Int} {rows : List (List Int)} (h : OwnGrid w base (.slice A n c) n R) (hn : rows.length = n) (hR : ∀ j, j < n → R j = rows.getD j []) (hl : n ≤ 9223372036854775807)
    (hr : ∀ j, j < n → (R j).length ≤ 9223372036854775807) : Sta base w (fun w => GridAt w A rows) := fun w2 h2 => by
  obtain ⟨A', c', e, hg⟩ := (h.turn h2 (fun i hi _ => by omega)).grid hn hR hl hr
  simp only [Value.slice.injEq] at e
  rw [e.1]; exact hg
set_option maxHeartbeats 400000 in
theorem toIntSSS_any (B : Option Addr) (rs : List (List (List Int))) (m c : Nat) (w : World) (hx : GridsAt w B rs) (hm : rs.length = m) (hb : m ≤ 1048576) (hs : ∀ k (h : k < rs.length), rs[k].length ≤ 1048576 ∧ ∀ j (hj : j < rs[k].length), rs[k][j].length ≤ 1048576) :
    Calls Try.prog 23 #[.slice B m c] w fun e w' => ∃ g, e = .returned (.slice (some ⟨g, 0, none⟩) m m) ∧ Sta w.heap.size w' (fun w => GridsAt w (some ⟨g, 0, none⟩) rs) ∧ Kp w w' := by
  have Hm := Lib.hid hm; clear hm
  have Hs := Lib.hid hs; clear hs
  have hmk := run_make_row' (P := Try.prog) 23 26 (.slice none 0 0) 24 Try.underlying23 infoGrid rfl .i64 .i64 m (by omega) (by omega)
  go_enter Try.func23, Try.ntmps23
  go_wp2_with fail
  go_loopw [4] (fun ix wr => ∃ (k : Nat) (G : Nat → Option Addr) (C : Nat → Nat), k ≤ m ∧ ix = .int .i64 k ∧ wr.rowIs w.heap.size 26 m (fun i => if i < k then .slice (G i) (rs.getD i []).length (C i) else .slice none 0 0) ∧ (∀ i, i < k → Sta (w.heap.size + 1) wr (fun w => GridAt w (G i) (rs.getD i []))) ∧ Kp w wr) (fun ix _ => m - (intOf ix).toNat)
  case atStart => exact ⟨0, fun _ => none, fun _ => 0, by omega, rfl, (World.rowIs_made w _ m _).congr (fun i _ => by simp), fun i hi => absurd hi (by omega), (Kp.refl w).alloc _⟩
  case round =>
    obtain ⟨k, G, C, hk, rfl, hrow, hG, hkb⟩ := hrel
    by_cases hlt : k < m
    · have lx : k < rs.length := by rw [Hm.out]; exact hlt
      obtain ⟨bd, A, ca, rfl, hc, hr⟩ := (hx.kp hkb).at_ lx
      have HG := Lib.hid hG
      have Hr := Lib.hid hrow
      have hfl := hrow.lt
      clear hG hrow
      go_wp2_with fail
      have CC := Lib.hid (toIntSS_any A rs[k] _ ca _ hr rfl (Hs.out k lx).1 (Hs.out k lx).2)
      with_reducible refine Calls.mono CC.out ?_
      rintro e w1 ⟨v, rfl, hog, hk1⟩
      clear CC
      obtain ⟨A2, c2, rfl⟩ := hog.shape
      have hrow := hk1.row Hr.out
      have hc1 := hrow.cell (i := k) hlt
      have hf1 := hrow.frozen k
      rw [if_neg (by omega)] at hc1
      have hrl := Lib.hid (show ∀ j, j < rs[k].length → (rs[k].getD j []).length ≤ 9223372036854775807 from fun j hj => by
        have := (Hs.out k lx).2 j hj
        simp [List.getD, hj]; omega)
      have hnew : Hid (Sta (w.heap.size + 1) (w1.setCell ⟨w.heap.size, k, none⟩ (.slice A2 rs[k].length c2)) (fun w => GridAt w A2 rs[k])) :=
        ((hog.sta rfl (fun j hj => rfl) (by have := (Hs.out k lx).1; omega) hrl.out).mono (by omega)).set (by show w.heap.size < _; omega) _
      have hall : Hid (∀ i, i < k → Sta (w.heap.size + 1) (w1.setCell ⟨w.heap.size, k, none⟩ (.slice A2 rs[k].length c2)) (fun w => GridAt w (G i) (rs.getD i []))) :=
        fun i hi => ((HG.out i hi).kp hk1).set (by show w.heap.size < _; omega) _
      have hset := Lib.hid (hrow.set k (.slice A2 rs[k].length c2))
      have hkk := Lib.hid (hkb.trans hk1 |>.setCell (p := ⟨w.heap.size, k, none⟩) (Nat.le_refl _) (.slice A2 rs[k].length c2))
      clear hrow hog hrl
      go_wp2_with fail
      go_roundw
      case rel =>
        refine ⟨k + 1, fun i => if i = k then A2 else G i, fun i => if i = k then c2 else C i, by omega, by go_num, hset.out.congr (fun i hi => ?_), fun i hi => ?_, hkk.out⟩
        · by_cases e : i = k
          · subst e
            have e2 : rs.getD i [] = rs[i] := by simp [List.getD, lx]
            rw [if_pos rfl, if_pos (by omega)]
            simp only [if_true, e2]
          · rw [if_neg e]
            simp only [if_neg e]
            by_cases h2 : i < k
            · rw [if_pos h2, if_pos (by omega)]
            · rw [if_neg h2, if_neg (by omega)]
        · by_cases e : i = k
          · subst e
            have e2 : rs.getD i [] = rs[i] := by simp [List.getD, lx]
            simp only [if_true, e2]
            exact hnew.out
          · simp only [if_neg e]
            exact hall.out i (by omega)
      case measure => simp [intOf]; omega
    · obtain rfl : k = m := by omega
      go_wp2_with fail
      go_ret
      refine ⟨_, rfl, fun w2 h2 => ⟨by rw [Hm.out]; omega, fun i hi => ?_⟩, hkb⟩
      have hi' : i < k := by rw [Hm.out] at hi; exact hi
      have hr2 := turn_lt_row hrow (Nat.le_refl _) h2
      have hc2 := hr2.cell (i := i) hi'
      rw [if_pos hi'] at hc2
      refine ⟨_, G i, C i, rfl, by rw [add0]; exact hc2, hG i hi' w2 (h2.mono fun j hj => by omega)⟩
end Go.Proofs.Ytjoebikljmkhfaa

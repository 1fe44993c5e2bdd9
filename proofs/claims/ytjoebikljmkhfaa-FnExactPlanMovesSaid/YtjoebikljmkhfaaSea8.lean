/- Seasons of the call's own, and marks in them. No condition. -/
import Derived.Test.YtjoebikljmkhfaaSeaLaw
namespace Go.Proofs.Ytjoebikljmkhfaa
open Go.RowKit

theorem OwnGridB.mono {w : World} {base base' hi : Nat} {v : Value} {n : Nat} {R : Nat → List Int} (h : OwnGridB w base hi v n R) (hb : base' ≤ base) : OwnGridB w base' hi v n R := by
  obtain ⟨C, h1, h2, h3, h4⟩ := h
  refine ⟨C, ⟨h1.1, ?_⟩, fun j hj => (h2 j hj).mono hb, h3, h4⟩
  rcases h1.2 with hh | ⟨g, cap, cur, e, hg, rest⟩
  · exact .inl hh
  · exact .inr ⟨g, cap, cur, e, Nat.le_trans hb hg, rest⟩
/-- A slice of slices that lies between two bounds. -/
def GIn (w : World) (lo hi : Nat) (v : Value) (rows : List (List Int)) : Prop := OwnGridB w lo hi v rows.length (fun j => rows.getD j []) ∧ (∀ k, v.ownBlock = some k → lo ≤ k ∧ k < hi)
theorem GIn.turn {S : Nat → Prop} {w w' : World} {lo hi : Nat} {v : Value} {rows : List (List Int)} (h : GIn w lo hi v rows) (ht : Turn S w w') (hS : ∀ i, lo ≤ i → i < hi → ¬ S i) : GIn w' lo hi v rows := by
  obtain ⟨⟨C, h1, h2, h3, h4⟩, h5⟩ := h
  refine ⟨⟨C, own_turn h1 ht (fun g hg => hS g (h5 g hg).1 (h5 g hg).2), fun j hj => (h2 j hj).turn ht (fun g hg => hS g ((h2 j hj).lt g hg).1 (h4 j hj g hg)), h3, h4⟩, h5⟩
theorem GIn.kp {w w' : World} {lo hi : Nat} {v : Value} {rows : List (List Int)} (h : GIn w lo hi v rows) (hk : Kp w w') : GIn w' lo hi v rows := ⟨h.1.kp hk, h.2⟩
theorem GIn.of {w : World} {lo base : Nat} {v : Value} {rows : List (List Int)} (h : OwnGrid w base v rows.length (fun j => rows.getD j [])) (hb : lo ≤ base) : GIn w lo w.heap.size v rows :=
  ⟨h.bounded.mono hb, fun k hk => by have := h.lt k hk; omega⟩
/-- Three levels. -/
structure Own3 (w : World) (g lo hi : Nat) (G : Nat → Value) (Lo : Nat → Nat) (rs : List (List (List Int))) : Prop where
  row : w.rowIs g 26 rs.length G
  g0 : lo ≤ g
  lo0 : g < Lo 0
  mono : ∀ i, i < rs.length → Lo i ≤ Lo (i + 1)
  top : Lo rs.length ≤ hi
  at_ : ∀ i, i < rs.length → GIn w (Lo i) (Lo (i + 1)) (G i) (rs.getD i [])
theorem lo_le {Lo : Nat → Nat} {n : Nat} (h : ∀ i, i < n → Lo i ≤ Lo (i + 1)) {i : Nat} : ∀ j, i ≤ j → j ≤ n → Lo i ≤ Lo j
  | 0, hij, _ => by obtain rfl : i = 0 := by omega
                    exact Nat.le_refl _
  | j + 1, hij, hj => by
    by_cases e : i = j + 1
    · subst e; exact Nat.le_refl _
    · exact Nat.le_trans (lo_le h j (by omega) (by omega)) (h j (by omega))
theorem Own3.turn {S : Nat → Prop} {w w' : World} {g lo hi : Nat} {G : Nat → Value} {Lo : Nat → Nat} {rs : List (List (List Int))} (h : Own3 w g lo hi G Lo rs) (ht : Turn S w w') (hS : ∀ i, lo ≤ i → i < hi → ¬ S i) : Own3 w' g lo hi G Lo rs := by
  have hL : Lo 0 ≤ hi := Nat.le_trans (lo_le h.mono _ (Nat.zero_le _) (Nat.le_refl _)) h.top
  have h0 := h.lo0; have hg := h.g0
  refine ⟨h.row.of_block (ht.block g h.row.lt (hS g hg (by omega))), hg, h0, h.mono, h.top, fun i hi' => (h.at_ i hi').turn ht (fun k h1 h2 => ?_)⟩
  have e1 := lo_le h.mono i (Nat.zero_le _) (by omega)
  have e2 := lo_le h.mono (i := i + 1) rs.length (by omega) (Nat.le_refl _)
  have := h.top
  exact hS k (by omega) (by omega)
theorem Own3.grids {w : World} {g lo hi : Nat} {G : Nat → Value} {Lo : Nat → Nat} {rs : List (List (List Int))} (h : Own3 w g lo hi G Lo rs) (hm : rs.length ≤ 1048576) (hs : ∀ k (h : k < rs.length), rs[k].length ≤ 1048576 ∧ ∀ j (hj : j < rs[k].length), rs[k][j].length ≤ 1048576) : GridsAt w (some ⟨g, 0, none⟩) rs :=
  ⟨by omega, fun i hi' => by
    have e2 : rs.getD i [] = rs[i] := by simp [List.getD, hi']
    obtain ⟨⟨C, h1, h2, h3, _⟩, _⟩ := h.at_ i hi'
    have ho : OwnGrid w (Lo i) (G i) (rs.getD i []).length (fun j => (rs.getD i []).getD j []) := ⟨C, h1, h2, h3⟩
    have hsi := hs i hi'
    obtain ⟨A, c, e, hg⟩ := ho.grid rfl (fun j _ => rfl) (by rw [e2]; omega) (fun j hj => by
      rw [e2] at hj ⊢
      have := hsi.2 j hj
      have e3 : rs[i].getD j [] = rs[i][j] := by simp [List.getD, hj]
      rw [e3]; omega)
    exact ⟨_, A, c, rfl, by rw [add0, h.row.cell hi', e], hg⟩⟩
def LvI (w : World) (b k : Nat) (Lo : Nat → Nat) (G : Nat → Value) (rs : List (List (List Int))) : Prop :=
  b < Lo 0 ∧ (∀ i, i < k → Lo i ≤ Lo (i + 1)) ∧ Lo k ≤ w.heap.size ∧ ∀ i, i < k → GIn w (Lo i) (Lo (i + 1)) (G i) (rs.getD i [])
set_option maxHeartbeats 400000 in
theorem toIntSSS_own (B : Option Addr) (rs : List (List (List Int))) (m c : Nat) (w : World) (hx : GridsAt w B rs) (hm : rs.length = m) (hb : m ≤ 1048576) (hs : ∀ k (h : k < rs.length), rs[k].length ≤ 1048576 ∧ ∀ j (hj : j < rs[k].length), rs[k][j].length ≤ 1048576) :
    Calls Try.prog 23 #[.slice B m c] w fun e w' => ∃ g G Lo, e = .returned (.slice (some ⟨g, 0, none⟩) m m) ∧ Own3 w' g w.heap.size w'.heap.size G Lo rs ∧ Kp w w' := by
  have Hm := Lib.hid hm; clear hm
  have Hs := Lib.hid hs; clear hs
  have hmk := run_make_row' (P := Try.prog) 23 26 (.slice none 0 0) 24 Try.underlying23 infoGrid rfl .i64 .i64 m (by omega) (by omega)
  go_enter Try.func23, Try.ntmps23
  go_wp2_with fail
  go_loopw [4] (fun ix wr => ∃ (k : Nat) (G : Nat → Value) (Lo : Nat → Nat), k ≤ m ∧ ix = .int .i64 k ∧ wr.rowIs w.heap.size 26 m (fun i => if i < k then G i else .slice none 0 0) ∧ Hid (LvI wr w.heap.size k Lo G rs) ∧ Kp w wr) (fun ix _ => m - (intOf ix).toNat)
  case atStart => exact ⟨0, fun _ => .slice none 0 0, fun _ => w.heap.size + 1, by omega, rfl, (World.rowIs_made w _ m _).congr (fun i _ => by simp), ⟨by show w.heap.size < w.heap.size + 1; omega, fun i hi => absurd hi (by omega), by simp, fun i hi => absurd hi (by omega)⟩, (Kp.refl w).alloc _⟩
  case round =>
    obtain ⟨k, G, Lo, hk, rfl, hrow, HI, hkb⟩ := hrel
    by_cases hlt : k < m
    · have lx : k < rs.length := by rw [Hm.out]; exact hlt
      obtain ⟨bd, A, ca, rfl, hc, hr⟩ := (hx.kp hkb).at_ lx
      have Hr := Lib.hid hrow
      have hfl := hrow.lt
      clear hrow
      go_wp2_with fail
      have CC := Lib.hid (toIntSS_any A rs[k] _ ca _ hr rfl (Hs.out k lx).1 (Hs.out k lx).2)
      with_reducible refine Calls.mono CC.out ?_
      rintro e w1 ⟨v, rfl, hog, hk1⟩
      clear CC
      obtain ⟨A2, c2, rfl⟩ := hog.shape
      have hrow := hk1.row Hr.out
      have hc1 := hrow.cell (i := k) hlt
      have hf1 := hrow.frozen k
      rw [if_neg (by omega)] at hc1
      have hset := Lib.hid (hrow.set k (.slice A2 rs[k].length c2))
      have hkk := Lib.hid (hkb.trans hk1 |>.setCell (p := ⟨w.heap.size, k, none⟩) (Nat.le_refl _) (.slice A2 rs[k].length c2))
      have htn : Turn (fun i => i = w.heap.size) w1 (w1.setCell ⟨w.heap.size, k, none⟩ (.slice A2 rs[k].length c2)) := ⟨rfl, rfl, rfl, by simp [World.setCell], fun i hi hn => Below.heap_setCell _ _ _ _ hn⟩
      have e2 : rs.getD k [] = rs[k] := by simp [List.getD, lx]
      obtain ⟨Lo2, hL2⟩ : ∃ fn : Nat → Nat, Hid (fn = fun i => if i = k + 1 then w1.heap.size else Lo i) := ⟨_, rfl⟩
      obtain ⟨G2, hG2⟩ : ∃ fn : Nat → Value, fn = (fun i => if i = k then Value.slice A2 rs[k].length c2 else G i) := ⟨_, rfl⟩
      replace hG2 := Lib.hid hG2
      have HI2 : Hid (LvI (w1.setCell ⟨w.heap.size, k, none⟩ (.slice A2 rs[k].length c2)) w.heap.size (k + 1) Lo2 G2 rs) := by
        show LvI _ _ _ _ _ _
        rw [hL2.out, hG2.out]
        obtain ⟨i1, i2, i3, i4⟩ := HI.out
        have hle := hk1.le
        have hlo : ∀ i, i ≤ k → w.heap.size < Lo i := fun i hi => Nat.lt_of_lt_of_le i1 (lo_le i2 i (Nat.zero_le _) hi)
        refine ⟨by show _ < if _ then _ else _; rw [if_neg (by omega)]; exact i1, fun i hi => ?_, by simp [World.setCell], fun i hi => ?_⟩
        · show (if _ then _ else _) ≤ if _ then _ else _
          rw [if_neg (by omega)]
          by_cases e : i = k
          · subst e; rw [if_pos rfl]; omega
          · rw [if_neg (by omega)]; exact i2 i (by omega)
        · show GIn _ (if _ then _ else _) (if _ then _ else _) (if _ then _ else _) _
          rw [if_neg (by omega)]
          by_cases e : i = k
          · subst e
            rw [if_pos rfl, if_pos rfl, e2]
            exact (GIn.of hog i3).turn htn (fun b h1 _ h2 => by have := hlo i (Nat.le_refl _); omega)
          · rw [if_neg (by omega), if_neg e]
            exact ((i4 i (by omega)).kp hk1).turn htn (fun b h1 _ h2 => by have := hlo i (by omega); omega)
      clear hrow hog htn
      go_wp2_with fail
      go_roundw
      case rel =>
        refine ⟨k + 1, G2, Lo2, by omega, by go_num, hset.out.congr (fun i hi => ?_), HI2, hkk.out⟩
        rw [hG2.out]
        show (if i = k then _ else _) = if i < k + 1 then (if i = k then _ else _) else _
        by_cases e : i = k
        · subst e
          rw [if_pos rfl, if_pos (by omega), if_pos rfl]
        · rw [if_neg e]
          by_cases h2 : i < k
          · rw [if_pos h2, if_pos (by omega), if_neg e]
          · rw [if_neg h2, if_neg (by omega)]
      case measure => simp [intOf]; omega
    · obtain rfl : k = m := by omega
      have hrow2 : wr.rowIs w.heap.size 26 rs.length G := by
        rw [Hm.out]
        exact hrow.congr (fun i hi => if_pos hi)
      go_wp2_with fail
      go_ret
      obtain ⟨i1, i2, i3, i4⟩ := HI.out
      exact ⟨_, G, Lo, rfl, ⟨hrow2, Nat.le_refl _, i1, by rw [Hm.out]; exact i2, by rw [Hm.out]; exact i3, by rw [Hm.out]; exact i4⟩, hkb⟩
theorem IntRow.sta2 {w : World} {base g : Nat} {xs : List Int} (h : IntRow w g xs) (hb : base ≤ g) : Sta base w (fun w => IntRow w g xs) := fun _ h2 => turn_lt_row h hb h2
theorem Own3.sta {w : World} {g lo hi : Nat} {G : Nat → Value} {Lo : Nat → Nat} {rs : List (List (List Int))} (h : Own3 w g lo hi G Lo rs) : Sta lo w (fun w => Own3 w g lo hi G Lo rs) := fun _ h2 => h.turn h2 (fun i h1 _ h3 => by omega)
/-- A season of the call's own. -/
def OwnSea (w : World) (base hi : Nat) (v : Value) (S : Sea) : Prop :=
  ∃ (g1 g2 g3 g4 lo : Nat) (G : Nat → Value) (Lo : Nat → Nat), v = .agg #[.slice (some ⟨g1, 0, none⟩) S.op.length S.op.length, .slice (some ⟨g2, 0, none⟩) S.cl.length S.cl.length, .slice (some ⟨g3, 0, none⟩) S.ke.length S.ke.length, .slice (some ⟨g4, 0, none⟩) S.ro.length S.ro.length] ∧
    IntRow w g1 S.op ∧ IntRow w g2 S.cl ∧ IntRow w g3 S.ke ∧ Own3 w g4 lo hi G Lo S.ro ∧ base ≤ g1 ∧ g1 < g2 ∧ g2 < g3 ∧ g3 < lo
theorem OwnSea.kp {w w' : World} {base hi : Nat} {v : Value} {S : Sea} (h : OwnSea w base hi v S) (hk : Kp w w') : OwnSea w' base hi v S := by
  obtain ⟨g1, g2, g3, g4, lo, G, Lo, e, i1, i2, i3, i4, r⟩ := h
  exact ⟨g1, g2, g3, g4, lo, G, Lo, e, i1.kp hk, i2.kp hk, i3.kp hk, ⟨hk.row i4.row, i4.g0, i4.lo0, i4.mono, i4.top, fun i hi => (i4.at_ i hi).kp hk⟩, r⟩
theorem OwnSea.at_ {w : World} {base hi : Nat} {v : Value} {S : Sea} (h : OwnSea w base hi v S) (hb : S.bulk ≤ 1048576) : SeaAt w v S := by
  obtain ⟨g1, g2, g3, g4, lo, G, Lo, e, i1, i2, i3, i4, r⟩ := h
  have hs := small_rows hb
  unfold Sea.bulk at hb
  exact ⟨_, _, _, _, _, _, _, _, e, i1.ints (by omega), i2.ints (by omega), i3.ints (by omega), i4.grids (by omega) hs⟩
set_option maxRecDepth 100000 in
set_option maxHeartbeats 1000000 in
theorem toSeason_own (f : Value) (S : Sea) (w : World) (hf : SeaAt w f S) (hb : S.bulk ≤ 1048576) :
    Calls Try.prog 7 #[f] w fun e w' => ∃ v, e = .returned v ∧ OwnSea w' w.heap.size w'.heap.size v S ∧ Kp w w' := by
  obtain ⟨A, a, B, b, C, c, D, d, rfl, hA, hB, hC, hD⟩ := hf
  have Hrows := Lib.hid (small_rows hb)
  unfold Sea.bulk at hb
  have r0 := ((row4f w (.slice A S.op.length a) (.slice B S.cl.length b) (.slice C S.ke.length c) (.slice D S.ro.length d) 25).alloc (.cells #[.slice none 0 0, .slice none 0 0, .slice none 0 0, .slice none 0 0] 31)).alloc (.cells #[.slice none 0 0, .slice none 0 0, .slice none 0 0, .slice none 0 0] 31)
  have r1 := (row4f (w.alloc (.cells #[.slice A S.op.length a, .slice B S.cl.length b, .slice C S.ke.length c, .slice D S.ro.length d] 25)) (.slice none 0 0) (.slice none 0 0) (.slice none 0 0) (.slice none 0 0) 31).alloc (.cells #[.slice none 0 0, .slice none 0 0, .slice none 0 0, .slice none 0 0] 31)
  have r2 := row4f ((w.alloc (.cells #[.slice A S.op.length a, .slice B S.cl.length b, .slice C S.ke.length c, .slice D S.ro.length d] 25)).alloc (.cells #[.slice none 0 0, .slice none 0 0, .slice none 0 0, .slice none 0 0] 31)) (.slice none 0 0) (.slice none 0 0) (.slice none 0 0) (.slice none 0 0) 31
  have K : Kp w (((w.alloc (.cells #[.slice A S.op.length a, .slice B S.cl.length b, .slice C S.ke.length c, .slice D S.ro.length d] 25)).alloc (.cells #[.slice none 0 0, .slice none 0 0, .slice none 0 0, .slice none 0 0] 31)).alloc (.cells #[.slice none 0 0, .slice none 0 0, .slice none 0 0, .slice none 0 0] 31)) := (((Kp.refl w).alloc _).alloc _).alloc _
  simp only [World.size_alloc] at r0 r1 r2
  have hsz : w.heap.size + 1 + 1 + 1 ≤ (((w.alloc (.cells #[.slice A S.op.length a, .slice B S.cl.length b, .slice C S.ke.length c, .slice D S.ro.length d] 25)).alloc (.cells #[.slice none 0 0, .slice none 0 0, .slice none 0 0, .slice none 0 0] 31)).alloc (.cells #[.slice none 0 0, .slice none 0 0, .slice none 0 0, .slice none 0 0] 31)).heap.size := by simp
  go_enter Try.func7, Try.ntmps7
  go_wp2_with fail
  generalize (((w.alloc (.cells #[.slice A S.op.length a, .slice B S.cl.length b, .slice C S.ke.length c, .slice D S.ro.length d] 25)).alloc (.cells #[.slice none 0 0, .slice none 0 0, .slice none 0 0, .slice none 0 0] 31)).alloc (.cells #[.slice none 0 0, .slice none 0 0, .slice none 0 0, .slice none 0 0] 31)) = w0 at *
  have CC := Lib.hid (toIntS_any A S.op S.op.length a w0 (hA.kp K) rfl (by omega))
  with_reducible refine Calls.mono CC.out ?_
  rintro e w1 ⟨g1, rfl, hg1, i1, hk1⟩
  clear CC
  replace r0 := hk1.row r0; replace r1 := hk1.row r1; replace r2 := hk1.row r2; replace K := K.trans hk1
  have p1 := (i1.sta2 hg1).mono hsz
  have hz1 := Nat.le_trans hsz hk1.le
  have hkS : Kp w (w1.setCell ⟨w.heap.size + 1 + 1, 0, none⟩ (.slice (some ⟨g1, 0, none⟩) S.op.length S.op.length)) := K.setCell (p := ⟨w.heap.size + 1 + 1, 0, none⟩) (by show w.heap.size ≤ w.heap.size + 1 + 1; omega) _
  have s0 := r0.setOther (a := ⟨w.heap.size + 1 + 1, 0, none⟩) (by show w.heap.size ≠ w.heap.size + 1 + 1; omega) (.slice (some ⟨g1, 0, none⟩) S.op.length S.op.length)
  have s1 := r1.setOther (a := ⟨w.heap.size + 1 + 1, 0, none⟩) (by show w.heap.size + 1 ≠ w.heap.size + 1 + 1; omega) (.slice (some ⟨g1, 0, none⟩) S.op.length S.op.length)
  have s2 := (set4 r2 (.slice (some ⟨g1, 0, none⟩) S.op.length S.op.length)).1
  replace p1 := p1.set (p := ⟨w.heap.size + 1 + 1, 0, none⟩) (by show w.heap.size + 1 + 1 < _; omega) (.slice (some ⟨g1, 0, none⟩) S.op.length S.op.length)
  obtain ⟨_, b1, _, _, _⟩ := at4 r0
  obtain ⟨c0, _, _, _, cf⟩ := at4 r2
  have cf0 := cf 0
  have l1 : g1 < (w1.setCell ⟨w.heap.size + 1 + 1, 0, none⟩ (.slice (some ⟨g1, 0, none⟩) S.op.length S.op.length)).heap.size := by have := World.rowIs.lt i1; simpa [World.setCell] using this
  have hz1' : w.heap.size + 1 + 1 + 1 ≤ (w1.setCell ⟨w.heap.size + 1 + 1, 0, none⟩ (.slice (some ⟨g1, 0, none⟩) S.op.length S.op.length)).heap.size := by simp [World.setCell]; omega
  clear r0 r1 r2 K cf i1
  go_wp2_with fail
  generalize w1.setCell ⟨w.heap.size + 1 + 1, 0, none⟩ (.slice (some ⟨g1, 0, none⟩) S.op.length S.op.length) = w2 at *
  clear c0 b1 cf0
  have CC := Lib.hid (toIntS_any B S.cl S.cl.length b w2 (hB.kp hkS) rfl (by omega))
  with_reducible refine Calls.mono CC.out ?_
  rintro e w3 ⟨g2, rfl, hg2, i2, hk2⟩
  clear CC
  have r0 := hk2.row s0; have r1 := hk2.row s1; have r2 := hk2.row s2; have K := hkS.trans hk2
  clear s0 s1 s2 hkS
  replace p1 := p1.kp hk2
  have p2 := (i2.sta2 hg2).mono hz1'
  have hz2 := Nat.le_trans hz1' hk2.le
  have hkS : Kp w (w3.setCell ⟨w.heap.size + 1 + 1, 1, none⟩ (.slice (some ⟨g2, 0, none⟩) S.cl.length S.cl.length)) := K.setCell (p := ⟨w.heap.size + 1 + 1, 1, none⟩) (by show w.heap.size ≤ w.heap.size + 1 + 1; omega) _
  have s0 := r0.setOther (a := ⟨w.heap.size + 1 + 1, 1, none⟩) (by show w.heap.size ≠ w.heap.size + 1 + 1; omega) (.slice (some ⟨g2, 0, none⟩) S.cl.length S.cl.length)
  have s1 := r1.setOther (a := ⟨w.heap.size + 1 + 1, 1, none⟩) (by show w.heap.size + 1 ≠ w.heap.size + 1 + 1; omega) (.slice (some ⟨g2, 0, none⟩) S.cl.length S.cl.length)
  have s2 := (set4 r2 (.slice (some ⟨g2, 0, none⟩) S.cl.length S.cl.length)).2.1
  replace p1 := p1.set (p := ⟨w.heap.size + 1 + 1, 1, none⟩) (by show w.heap.size + 1 + 1 < _; omega) (.slice (some ⟨g2, 0, none⟩) S.cl.length S.cl.length)
  replace p2 := p2.set (p := ⟨w.heap.size + 1 + 1, 1, none⟩) (by show w.heap.size + 1 + 1 < _; omega) (.slice (some ⟨g2, 0, none⟩) S.cl.length S.cl.length)
  obtain ⟨_, _, b2, _, _⟩ := at4 r0
  obtain ⟨_, c1, _, _, cf⟩ := at4 r2
  have cf1 := cf 1
  have l2 : g2 < (w3.setCell ⟨w.heap.size + 1 + 1, 1, none⟩ (.slice (some ⟨g2, 0, none⟩) S.cl.length S.cl.length)).heap.size := by have := World.rowIs.lt i2; simpa [World.setCell] using this
  have hz2' : w.heap.size + 1 + 1 + 1 ≤ (w3.setCell ⟨w.heap.size + 1 + 1, 1, none⟩ (.slice (some ⟨g2, 0, none⟩) S.cl.length S.cl.length)).heap.size := by simp [World.setCell]; omega
  clear r0 r1 r2 K cf i2
  go_wp2_with fail
  generalize w3.setCell ⟨w.heap.size + 1 + 1, 1, none⟩ (.slice (some ⟨g2, 0, none⟩) S.cl.length S.cl.length) = w4 at *
  clear c1 b2 cf1
  have CC := Lib.hid (toIntS_any C S.ke S.ke.length c w4 (hC.kp hkS) rfl (by omega))
  with_reducible refine Calls.mono CC.out ?_
  rintro e w5 ⟨g3, rfl, hg3, i3, hk3⟩
  clear CC
  have r0 := hk3.row s0; have r1 := hk3.row s1; have r2 := hk3.row s2; have K := hkS.trans hk3
  clear s0 s1 s2 hkS
  replace p1 := p1.kp hk3; replace p2 := p2.kp hk3
  have p3 := (i3.sta2 hg3).mono hz2'
  have hz3 := Nat.le_trans hz2' hk3.le
  have hkS : Kp w (w5.setCell ⟨w.heap.size + 1 + 1, 2, none⟩ (.slice (some ⟨g3, 0, none⟩) S.ke.length S.ke.length)) := K.setCell (p := ⟨w.heap.size + 1 + 1, 2, none⟩) (by show w.heap.size ≤ w.heap.size + 1 + 1; omega) _
  have s0 := r0.setOther (a := ⟨w.heap.size + 1 + 1, 2, none⟩) (by show w.heap.size ≠ w.heap.size + 1 + 1; omega) (.slice (some ⟨g3, 0, none⟩) S.ke.length S.ke.length)
  have s1 := r1.setOther (a := ⟨w.heap.size + 1 + 1, 2, none⟩) (by show w.heap.size + 1 ≠ w.heap.size + 1 + 1; omega) (.slice (some ⟨g3, 0, none⟩) S.ke.length S.ke.length)
  have s2 := (set4 r2 (.slice (some ⟨g3, 0, none⟩) S.ke.length S.ke.length)).2.2.1
  replace p1 := p1.set (p := ⟨w.heap.size + 1 + 1, 2, none⟩) (by show w.heap.size + 1 + 1 < _; omega) (.slice (some ⟨g3, 0, none⟩) S.ke.length S.ke.length)
  replace p2 := p2.set (p := ⟨w.heap.size + 1 + 1, 2, none⟩) (by show w.heap.size + 1 + 1 < _; omega) (.slice (some ⟨g3, 0, none⟩) S.ke.length S.ke.length)
  replace p3 := p3.set (p := ⟨w.heap.size + 1 + 1, 2, none⟩) (by show w.heap.size + 1 + 1 < _; omega) (.slice (some ⟨g3, 0, none⟩) S.ke.length S.ke.length)
  obtain ⟨_, _, _, b3, _⟩ := at4 r0
  obtain ⟨_, _, c2, _, cf⟩ := at4 r2
  have cf2 := cf 2
  have l3 : g3 < (w5.setCell ⟨w.heap.size + 1 + 1, 2, none⟩ (.slice (some ⟨g3, 0, none⟩) S.ke.length S.ke.length)).heap.size := by have := World.rowIs.lt i3; simpa [World.setCell] using this
  have hz3' : w.heap.size + 1 + 1 + 1 ≤ (w5.setCell ⟨w.heap.size + 1 + 1, 2, none⟩ (.slice (some ⟨g3, 0, none⟩) S.ke.length S.ke.length)).heap.size := by simp [World.setCell]; omega
  clear r0 r1 r2 K cf i3
  go_wp2_with fail
  generalize w5.setCell ⟨w.heap.size + 1 + 1, 2, none⟩ (.slice (some ⟨g3, 0, none⟩) S.ke.length S.ke.length) = w6 at *
  clear c2 b3 cf2
  have CC := Lib.hid (toIntSSS_own D S.ro S.ro.length d w6 (hD.kp hkS) rfl (by omega) Hrows.out)
  with_reducible refine Calls.mono CC.out ?_
  rintro e w7 ⟨g4, G4, Lo4, rfl, p4o, hk4⟩
  have p4 := p4o.sta
  clear p4o
  clear CC
  have r0 := hk4.row s0; have r1 := hk4.row s1; have r2 := hk4.row s2; have K := hkS.trans hk4
  clear s0 s1 s2 hkS
  replace p1 := p1.kp hk4; replace p2 := p2.kp hk4; replace p3 := p3.kp hk4
  replace p4 := p4.mono hz3'
  obtain ⟨y0, y1, y2, y3, yf⟩ := at4 r2
  obtain ⟨z0, z1, z2, z3, zf⟩ := at4 r1
  have yf3 := yf 3
  have zf0 := zf 0; have zf1 := zf 1; have zf2 := zf 2; have zf3 := zf 3
  have q1 := (set4 (r1.setOther (a := ⟨w.heap.size + 1 + 1, 3, none⟩) (by show w.heap.size + 1 ≠ w.heap.size + 1 + 1; omega) (.slice (some ⟨g4, 0, none⟩) S.ro.length S.ro.length)) (.slice (some ⟨g1, 0, none⟩) S.op.length S.op.length)).1
  replace q1 := (set4 q1 (.slice (some ⟨g2, 0, none⟩) S.cl.length S.cl.length)).2.1
  replace q1 := (set4 q1 (.slice (some ⟨g3, 0, none⟩) S.ke.length S.ke.length)).2.2.1
  replace q1 := (set4 q1 (.slice (some ⟨g4, 0, none⟩) S.ro.length S.ro.length)).2.2.2
  have ht : Turn (fun i => i < w.heap.size + 1 + 1 + 1) w7 (((((w7.setCell ⟨w.heap.size + 1 + 1, 3, none⟩ (.slice (some ⟨g4, 0, none⟩) S.ro.length S.ro.length)).setCell ⟨w.heap.size + 1, 0, none⟩ (.slice (some ⟨g1, 0, none⟩) S.op.length S.op.length)).setCell ⟨w.heap.size + 1, 1, none⟩ (.slice (some ⟨g2, 0, none⟩) S.cl.length S.cl.length)).setCell ⟨w.heap.size + 1, 2, none⟩ (.slice (some ⟨g3, 0, none⟩) S.ke.length S.ke.length)).setCell ⟨w.heap.size + 1, 3, none⟩ (.slice (some ⟨g4, 0, none⟩) S.ro.length S.ro.length)) :=
    ⟨rfl, rfl, rfl, by simp [World.setCell], fun i hi hn => by
      have n1 : i ≠ w.heap.size + 1 := by omega
      have n2 : i ≠ w.heap.size + 1 + 1 := by omega
      rw [Below.heap_setCell _ _ _ _ n1, Below.heap_setCell _ _ _ _ n1, Below.heap_setCell _ _ _ _ n1, Below.heap_setCell _ _ _ _ n1, Below.heap_setCell _ _ _ _ n2]⟩
  obtain ⟨x0, x1, x2, x3, _⟩ := at4 q1
  have X0 := Lib.hid x0; have X1 := Lib.hid x1; have X2 := Lib.hid x2; have X3 := Lib.hid x3
  have HT := Lib.hid ht
  have P1 := Lib.hid (p1 _ ht); have P2 := Lib.hid (p2 _ ht); have P3 := Lib.hid (p3 _ ht); have P4 := Lib.hid (p4 _ ht)
  have HK := Lib.hid (((((K.setCell (p := ⟨w.heap.size + 1 + 1, 3, none⟩) (by show w.heap.size ≤ w.heap.size + 1 + 1; omega) (.slice (some ⟨g4, 0, none⟩) S.ro.length S.ro.length)).setCell (p := ⟨w.heap.size + 1, 0, none⟩) (by show w.heap.size ≤ w.heap.size + 1; omega) (.slice (some ⟨g1, 0, none⟩) S.op.length S.op.length)).setCell (p := ⟨w.heap.size + 1, 1, none⟩) (by show w.heap.size ≤ w.heap.size + 1; omega) (.slice (some ⟨g2, 0, none⟩) S.cl.length S.cl.length)).setCell (p := ⟨w.heap.size + 1, 2, none⟩) (by show w.heap.size ≤ w.heap.size + 1; omega) (.slice (some ⟨g3, 0, none⟩) S.ke.length S.ke.length)).setCell (p := ⟨w.heap.size + 1, 3, none⟩) (by show w.heap.size ≤ w.heap.size + 1; omega) (.slice (some ⟨g4, 0, none⟩) S.ro.length S.ro.length))
  clear p1 p2 p3 p4 r0 r1 r2 x0 x1 x2 x3 q1 ht yf zf
  go_wp2_with fail
  have x0 := X0.out; have x1 := X1.out; have x2 := X2.out; have x3 := X3.out
  refine bodyPost_ret (v := .agg #[.slice (some ⟨g1, 0, none⟩) S.op.length S.op.length, .slice (some ⟨g2, 0, none⟩) S.cl.length S.cl.length, .slice (some ⟨g3, 0, none⟩) S.ke.length S.ke.length, .slice (some ⟨g4, 0, none⟩) S.ro.length S.ro.length]) (by simp [results, Try.results7, go_sem, x0, x1, x2, x3]) rfl ⟨_, rfl, ⟨g1, g2, g3, g4, w6.heap.size, G4, Lo4, rfl, P1.out, P2.out, P3.out, by simpa [World.setCell] using P4.out, by omega, by omega, by omega, by omega⟩, HK.out⟩
end Go.Proofs.Ytjoebikljmkhfaa

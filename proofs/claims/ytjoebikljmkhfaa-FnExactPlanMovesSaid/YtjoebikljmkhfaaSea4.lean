/- Seasons: a copy in new memory. No condition. -/
import Derived.Test.YtjoebikljmkhfaaSea3
namespace Go.Proofs.Ytjoebikljmkhfaa
open Go.RowKit

def f4 (a b c d : Value) (j : Nat) : Value := if j = 0 then a else if j = 1 then b else if j = 2 then c else d
theorem f4_0 (a b c d : Value) : f4 a b c d 0 = a := rfl
theorem f4_1 (a b c d : Value) : f4 a b c d 1 = b := rfl
theorem f4_2 (a b c d : Value) : f4 a b c d 2 = c := rfl
theorem f4_3 (a b c d : Value) : f4 a b c d 3 = d := rfl
theorem row4f (w : World) (a b c d : Value) (t : TypeId) : (w.alloc (.cells #[a, b, c, d] t)).rowIs w.heap.size t 4 (f4 a b c d) := row4 w a b c d t
theorem set4 {w : World} {g : Nat} {t : TypeId} {a b c d : Value} (h : w.rowIs g t 4 (f4 a b c d)) (v : Value) :
    (w.setCell ⟨g, 0, none⟩ v).rowIs g t 4 (f4 v b c d) ∧ (w.setCell ⟨g, 1, none⟩ v).rowIs g t 4 (f4 a v c d) ∧ (w.setCell ⟨g, 2, none⟩ v).rowIs g t 4 (f4 a b v d) ∧ (w.setCell ⟨g, 3, none⟩ v).rowIs g t 4 (f4 a b c v) := by
  refine ⟨(h.set 0 v).congr ?_, (h.set 1 v).congr ?_, (h.set 2 v).congr ?_, (h.set 3 v).congr ?_⟩ <;>
    (intro i hi
     have : i = 0 ∨ i = 1 ∨ i = 2 ∨ i = 3 := by omega
     rcases this with rfl | rfl | rfl | rfl <;> rfl)
theorem at4 {w : World} {g : Nat} {t : TypeId} {a b c d : Value} (h : w.rowIs g t 4 (f4 a b c d)) :
    w.cell? ⟨g, 0, none⟩ = some a ∧ w.cell? ⟨g, 1, none⟩ = some b ∧ w.cell? ⟨g, 2, none⟩ = some c ∧ w.cell? ⟨g, 3, none⟩ = some d ∧ ∀ j, w.frozen? ⟨g, j, none⟩ = false :=
  ⟨h.cell (i := 0) (by omega), h.cell (i := 1) (by omega), h.cell (i := 2) (by omega), h.cell (i := 3) (by omega), fun j => h.frozen j⟩
theorem small_rows {S : Sea} (hb : S.bulk ≤ 1048576) : ∀ k (h : k < S.ro.length), S.ro[k].length ≤ 1048576 ∧ ∀ j (hj : j < S.ro[k].length), S.ro[k][j].length ≤ 1048576 := fun k hk => by
  have h1 := gridSum_mem hk
  unfold Sea.bulk at hb
  exact ⟨by omega, fun j hj => by have := rowSum_mem hj; omega⟩
set_option maxRecDepth 100000 in
set_option maxHeartbeats 1000000 in
theorem toSeason_any (f : Value) (S : Sea) (w : World) (hf : SeaAt w f S) (hb : S.bulk ≤ 1048576) :
    Calls Try.prog 7 #[f] w fun e w' => ∃ v, e = .returned v ∧ SeaAt w' v S ∧ Kp w w' := by
  obtain ⟨A, a, B, b, C, c, D, d, rfl, hA, hB, hC, hD⟩ := hf
  have Hrows := Lib.hid (small_rows hb)
  unfold Sea.bulk at hb
  have r0 := ((row4f w (.slice A S.op.length a) (.slice B S.cl.length b) (.slice C S.ke.length c) (.slice D S.ro.length d) 25).alloc (.cells #[.slice none 0 0, .slice none 0 0, .slice none 0 0, .slice none 0 0] 31)).alloc (.cells #[.slice none 0 0, .slice none 0 0, .slice none 0 0, .slice none 0 0] 31)
  have r1 := (row4f (w.alloc (.cells #[.slice A S.op.length a, .slice B S.cl.length b, .slice C S.ke.length c, .slice D S.ro.length d] 25)) (.slice none 0 0) (.slice none 0 0) (.slice none 0 0) (.slice none 0 0) 31).alloc (.cells #[.slice none 0 0, .slice none 0 0, .slice none 0 0, .slice none 0 0] 31)
  have r2 := row4f ((w.alloc (.cells #[.slice A S.op.length a, .slice B S.cl.length b, .slice C S.ke.length c, .slice D S.ro.length d] 25)).alloc (.cells #[.slice none 0 0, .slice none 0 0, .slice none 0 0, .slice none 0 0] 31)) (.slice none 0 0) (.slice none 0 0) (.slice none 0 0) (.slice none 0 0) 31
  have K : Kp w (((w.alloc (.cells #[.slice A S.op.length a, .slice B S.cl.length b, .slice C S.ke.length c, .slice D S.ro.length d] 25)).alloc (.cells #[.slice none 0 0, .slice none 0 0, .slice none 0 0, .slice none 0 0] 31)).alloc (.cells #[.slice none 0 0, .slice none 0 0, .slice none 0 0, .slice none 0 0] 31)) := (((Kp.refl w).alloc _).alloc _).alloc _
  simp only [World.size_alloc] at r0 r1 r2
  have hsz : w.heap.size + 1 + 1 + 1 ≤ (((w.alloc (.cells #[.slice A S.op.length a, .slice B S.cl.length b, .slice C S.ke.length c, .slice D S.ro.length d] 25)).alloc (.cells #[.slice none 0 0, .slice none 0 0, .slice none 0 0, .slice none 0 0] 31)).alloc (.cells #[.slice none 0 0, .slice none 0 0, .slice none 0 0, .slice none 0 0] 31)).heap.size := by simp
  go_enter Try.func7, Try.ntmps7
  go_wp2_with fail
  generalize (((w.alloc (.cells #[.slice A S.op.length a, .slice B S.cl.length b, .slice C S.ke.length c, .slice D S.ro.length d] 25)).alloc (.cells #[.slice none 0 0, .slice none 0 0, .slice none 0 0, .slice none 0 0] 31)).alloc (.cells #[.slice none 0 0, .slice none 0 0, .slice none 0 0, .slice none 0 0] 31)) = w0 at *
  have CC := Lib.hid (toIntS_any A S.op S.op.length a w0 (hA.kp K) rfl (by omega))
  with_reducible refine Calls.mono CC.out ?_
  rintro e w1 ⟨g1, rfl, hg1, i1, hk1⟩
  clear CC
  replace r0 := hk1.row r0; replace r1 := hk1.row r1; replace r2 := hk1.row r2; replace K := K.trans hk1
  have p1 := (i1.sta hg1 (by omega)).mono hsz
  have hz1 := Nat.le_trans hsz hk1.le
  have hkS : Kp w (w1.setCell ⟨w.heap.size + 1 + 1, 0, none⟩ (.slice (some ⟨g1, 0, none⟩) S.op.length S.op.length)) := K.setCell (p := ⟨w.heap.size + 1 + 1, 0, none⟩) (by show w.heap.size ≤ w.heap.size + 1 + 1; omega) _
  have s0 := r0.setOther (a := ⟨w.heap.size + 1 + 1, 0, none⟩) (by show w.heap.size ≠ w.heap.size + 1 + 1; omega) (.slice (some ⟨g1, 0, none⟩) S.op.length S.op.length)
  have s1 := r1.setOther (a := ⟨w.heap.size + 1 + 1, 0, none⟩) (by show w.heap.size + 1 ≠ w.heap.size + 1 + 1; omega) (.slice (some ⟨g1, 0, none⟩) S.op.length S.op.length)
  have s2 := (set4 r2 (.slice (some ⟨g1, 0, none⟩) S.op.length S.op.length)).1
  replace p1 := p1.set (p := ⟨w.heap.size + 1 + 1, 0, none⟩) (by show w.heap.size + 1 + 1 < _; omega) (.slice (some ⟨g1, 0, none⟩) S.op.length S.op.length)
  obtain ⟨_, b1, _, _, _⟩ := at4 r0
  obtain ⟨c0, _, _, _, cf⟩ := at4 r2
  have cf0 := cf 0
  have hz1' : w.heap.size + 1 + 1 + 1 ≤ (w1.setCell ⟨w.heap.size + 1 + 1, 0, none⟩ (.slice (some ⟨g1, 0, none⟩) S.op.length S.op.length)).heap.size := by simp [World.setCell]; omega
  clear r0 r1 r2 K cf i1
  go_wp2_with fail
  generalize w1.setCell ⟨w.heap.size + 1 + 1, 0, none⟩ (.slice (some ⟨g1, 0, none⟩) S.op.length S.op.length) = w2 at *
  clear c0 b1 cf0
  have CC := Lib.hid (toIntS_any B S.cl S.cl.length b w2 (hB.kp hkS) rfl (by omega))
  with_reducible refine Calls.mono CC.out ?_
  rintro e w3 ⟨g2, rfl, hg2, i2, hk2⟩
  clear CC
  have r0 := hk2.row s0; have r1 := hk2.row s1; have r2 := hk2.row s2; have K := hkS.trans hk2
  clear s0 s1 s2 hkS
  replace p1 := p1.kp hk2
  have p2 := (i2.sta hg2 (by omega)).mono hz1'
  have hz2 := Nat.le_trans hz1' hk2.le
  have hkS : Kp w (w3.setCell ⟨w.heap.size + 1 + 1, 1, none⟩ (.slice (some ⟨g2, 0, none⟩) S.cl.length S.cl.length)) := K.setCell (p := ⟨w.heap.size + 1 + 1, 1, none⟩) (by show w.heap.size ≤ w.heap.size + 1 + 1; omega) _
  have s0 := r0.setOther (a := ⟨w.heap.size + 1 + 1, 1, none⟩) (by show w.heap.size ≠ w.heap.size + 1 + 1; omega) (.slice (some ⟨g2, 0, none⟩) S.cl.length S.cl.length)
  have s1 := r1.setOther (a := ⟨w.heap.size + 1 + 1, 1, none⟩) (by show w.heap.size + 1 ≠ w.heap.size + 1 + 1; omega) (.slice (some ⟨g2, 0, none⟩) S.cl.length S.cl.length)
  have s2 := (set4 r2 (.slice (some ⟨g2, 0, none⟩) S.cl.length S.cl.length)).2.1
  replace p1 := p1.set (p := ⟨w.heap.size + 1 + 1, 1, none⟩) (by show w.heap.size + 1 + 1 < _; omega) (.slice (some ⟨g2, 0, none⟩) S.cl.length S.cl.length)
  replace p2 := p2.set (p := ⟨w.heap.size + 1 + 1, 1, none⟩) (by show w.heap.size + 1 + 1 < _; omega) (.slice (some ⟨g2, 0, none⟩) S.cl.length S.cl.length)
  obtain ⟨_, _, b2, _, _⟩ := at4 r0
  obtain ⟨_, c1, _, _, cf⟩ := at4 r2
  have cf1 := cf 1
  have hz2' : w.heap.size + 1 + 1 + 1 ≤ (w3.setCell ⟨w.heap.size + 1 + 1, 1, none⟩ (.slice (some ⟨g2, 0, none⟩) S.cl.length S.cl.length)).heap.size := by simp [World.setCell]; omega
  clear r0 r1 r2 K cf i2
  go_wp2_with fail
  generalize w3.setCell ⟨w.heap.size + 1 + 1, 1, none⟩ (.slice (some ⟨g2, 0, none⟩) S.cl.length S.cl.length) = w4 at *
  clear c1 b2 cf1
  have CC := Lib.hid (toIntS_any C S.ke S.ke.length c w4 (hC.kp hkS) rfl (by omega))
  with_reducible refine Calls.mono CC.out ?_
  rintro e w5 ⟨g3, rfl, hg3, i3, hk3⟩
  clear CC
  have r0 := hk3.row s0; have r1 := hk3.row s1; have r2 := hk3.row s2; have K := hkS.trans hk3
  clear s0 s1 s2 hkS
  replace p1 := p1.kp hk3; replace p2 := p2.kp hk3
  have p3 := (i3.sta hg3 (by omega)).mono hz2'
  have hz3 := Nat.le_trans hz2' hk3.le
  have hkS : Kp w (w5.setCell ⟨w.heap.size + 1 + 1, 2, none⟩ (.slice (some ⟨g3, 0, none⟩) S.ke.length S.ke.length)) := K.setCell (p := ⟨w.heap.size + 1 + 1, 2, none⟩) (by show w.heap.size ≤ w.heap.size + 1 + 1; omega) _
  have s0 := r0.setOther (a := ⟨w.heap.size + 1 + 1, 2, none⟩) (by show w.heap.size ≠ w.heap.size + 1 + 1; omega) (.slice (some ⟨g3, 0, none⟩) S.ke.length S.ke.length)
  have s1 := r1.setOther (a := ⟨w.heap.size + 1 + 1, 2, none⟩) (by show w.heap.size + 1 ≠ w.heap.size + 1 + 1; omega) (.slice (some ⟨g3, 0, none⟩) S.ke.length S.ke.length)
  have s2 := (set4 r2 (.slice (some ⟨g3, 0, none⟩) S.ke.length S.ke.length)).2.2.1
  replace p1 := p1.set (p := ⟨w.heap.size + 1 + 1, 2, none⟩) (by show w.heap.size + 1 + 1 < _; omega) (.slice (some ⟨g3, 0, none⟩) S.ke.length S.ke.length)
  replace p2 := p2.set (p := ⟨w.heap.size + 1 + 1, 2, none⟩) (by show w.heap.size + 1 + 1 < _; omega) (.slice (some ⟨g3, 0, none⟩) S.ke.length S.ke.length)
  replace p3 := p3.set (p := ⟨w.heap.size + 1 + 1, 2, none⟩) (by show w.heap.size + 1 + 1 < _; omega) (.slice (some ⟨g3, 0, none⟩) S.ke.length S.ke.length)
  obtain ⟨_, _, _, b3, _⟩ := at4 r0
  obtain ⟨_, _, c2, _, cf⟩ := at4 r2
  have cf2 := cf 2
  have hz3' : w.heap.size + 1 + 1 + 1 ≤ (w5.setCell ⟨w.heap.size + 1 + 1, 2, none⟩ (.slice (some ⟨g3, 0, none⟩) S.ke.length S.ke.length)).heap.size := by simp [World.setCell]; omega
  clear r0 r1 r2 K cf i3
  go_wp2_with fail
  generalize w5.setCell ⟨w.heap.size + 1 + 1, 2, none⟩ (.slice (some ⟨g3, 0, none⟩) S.ke.length S.ke.length) = w6 at *
  clear c2 b3 cf2
  have CC := Lib.hid (toIntSSS_any D S.ro S.ro.length d w6 (hD.kp hkS) rfl (by omega) Hrows.out)
  with_reducible refine Calls.mono CC.out ?_
  rintro e w7 ⟨g4, rfl, p4, hk4⟩
  clear CC
  have r0 := hk4.row s0; have r1 := hk4.row s1; have r2 := hk4.row s2; have K := hkS.trans hk4
  clear s0 s1 s2 hkS
  replace p1 := p1.kp hk4; replace p2 := p2.kp hk4; replace p3 := p3.kp hk4
  replace p4 := p4.mono hz3'
  obtain ⟨y0, y1, y2, y3, yf⟩ := at4 r2
  obtain ⟨z0, z1, z2, z3, zf⟩ := at4 r1
  have yf3 := yf 3
  have zf0 := zf 0; have zf1 := zf 1; have zf2 := zf 2; have zf3 := zf 3
  have q1 := (set4 (r1.setOther (a := ⟨w.heap.size + 1 + 1, 3, none⟩) (by show w.heap.size + 1 ≠ w.heap.size + 1 + 1; omega) (.slice (some ⟨g4, 0, none⟩) S.ro.length S.ro.length)) (.slice (some ⟨g1, 0, none⟩) S.op.length S.op.length)).1
  replace q1 := (set4 q1 (.slice (some ⟨g2, 0, none⟩) S.cl.length S.cl.length)).2.1
  replace q1 := (set4 q1 (.slice (some ⟨g3, 0, none⟩) S.ke.length S.ke.length)).2.2.1
  replace q1 := (set4 q1 (.slice (some ⟨g4, 0, none⟩) S.ro.length S.ro.length)).2.2.2
  have ht : Turn (fun i => i < w.heap.size + 1 + 1 + 1) w7 (((((w7.setCell ⟨w.heap.size + 1 + 1, 3, none⟩ (.slice (some ⟨g4, 0, none⟩) S.ro.length S.ro.length)).setCell ⟨w.heap.size + 1, 0, none⟩ (.slice (some ⟨g1, 0, none⟩) S.op.length S.op.length)).setCell ⟨w.heap.size + 1, 1, none⟩ (.slice (some ⟨g2, 0, none⟩) S.cl.length S.cl.length)).setCell ⟨w.heap.size + 1, 2, none⟩ (.slice (some ⟨g3, 0, none⟩) S.ke.length S.ke.length)).setCell ⟨w.heap.size + 1, 3, none⟩ (.slice (some ⟨g4, 0, none⟩) S.ro.length S.ro.length)) :=
    ⟨rfl, rfl, rfl, by simp [World.setCell], fun i hi hn => by
      have n1 : i ≠ w.heap.size + 1 := by omega
      have n2 : i ≠ w.heap.size + 1 + 1 := by omega
      rw [Below.heap_setCell _ _ _ _ n1, Below.heap_setCell _ _ _ _ n1, Below.heap_setCell _ _ _ _ n1, Below.heap_setCell _ _ _ _ n1, Below.heap_setCell _ _ _ _ n2]⟩
  obtain ⟨x0, x1, x2, x3, _⟩ := at4 q1
  have X0 := Lib.hid x0; have X1 := Lib.hid x1; have X2 := Lib.hid x2; have X3 := Lib.hid x3
  have HT := Lib.hid ht
  have P1 := Lib.hid (p1 _ ht); have P2 := Lib.hid (p2 _ ht); have P3 := Lib.hid (p3 _ ht); have P4 := Lib.hid (p4 _ ht)
  have HK := Lib.hid (((((K.setCell (p := ⟨w.heap.size + 1 + 1, 3, none⟩) (by show w.heap.size ≤ w.heap.size + 1 + 1; omega) (.slice (some ⟨g4, 0, none⟩) S.ro.length S.ro.length)).setCell (p := ⟨w.heap.size + 1, 0, none⟩) (by show w.heap.size ≤ w.heap.size + 1; omega) (.slice (some ⟨g1, 0, none⟩) S.op.length S.op.length)).setCell (p := ⟨w.heap.size + 1, 1, none⟩) (by show w.heap.size ≤ w.heap.size + 1; omega) (.slice (some ⟨g2, 0, none⟩) S.cl.length S.cl.length)).setCell (p := ⟨w.heap.size + 1, 2, none⟩) (by show w.heap.size ≤ w.heap.size + 1; omega) (.slice (some ⟨g3, 0, none⟩) S.ke.length S.ke.length)).setCell (p := ⟨w.heap.size + 1, 3, none⟩) (by show w.heap.size ≤ w.heap.size + 1; omega) (.slice (some ⟨g4, 0, none⟩) S.ro.length S.ro.length))
  clear p1 p2 p3 p4 r0 r1 r2 x0 x1 x2 x3 q1 ht yf zf
  go_wp2_with fail
  have x0 := X0.out; have x1 := X1.out; have x2 := X2.out; have x3 := X3.out
  refine bodyPost_ret (v := .agg #[.slice (some ⟨g1, 0, none⟩) S.op.length S.op.length, .slice (some ⟨g2, 0, none⟩) S.cl.length S.cl.length, .slice (some ⟨g3, 0, none⟩) S.ke.length S.ke.length, .slice (some ⟨g4, 0, none⟩) S.ro.length S.ro.length]) (by simp [results, Try.results7, go_sem, x0, x1, x2, x3]) rfl ⟨_, rfl, ⟨_, _, _, _, _, _, _, _, rfl, P1.out, P2.out, P3.out, P4.out⟩, HK.out⟩
end Go.Proofs.Ytjoebikljmkhfaa

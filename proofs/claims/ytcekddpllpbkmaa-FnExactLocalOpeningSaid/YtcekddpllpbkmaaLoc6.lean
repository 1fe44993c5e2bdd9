/- IsLocalOpening: reference and program. No condition. -/
import Derived.Test.YtcekddpllpbkmaaLoc5
import Derived.Test.YtcekddpllpbkmaaOpened
namespace Go.Proofs.Ytcekddpllpbkmaa
open Go.RowKit Go.Sort

theorem run_neq_nil (w : World) (a : Option Addr) (n c : Nat) : (binOp .neq 22 (.slice a n c) (.slice none 0 0)).run Try.prog w = .ok (.bool (!a.isNone)) w := by
  simp only [binOp]
  simp [Op.equal, Op.maxDepth, Lib.run_equalIn_slice_nil (P := Try.prog) w 9999 22 3 a n c 0 0 Try.underlying22]
theorem row1 (w : World) (v : Value) (t : TypeId) : (w.alloc (.cells #[v] t)).rowIs w.heap.size t 1 (fun _ => v) :=
  World.rowIs_alloc w #[v] t _ (fun i hi => by
    have : i = 0 := by simp at hi; omega
    subst this; rfl)
theorem Own.setOther {w : World} {base po : Nat} {v u : Value} {xs : List Int} (h : Own w base v xs) (hp : po < base) : Own (w.setCell ⟨po, 0, none⟩ u) base v xs :=
  h.turn (S := fun i => i = po) ⟨rfl, rfl, rfl, by simp [World.setCell], fun i hi hn => Below.heap_setCell _ _ _ _ (fun e => hn e)⟩ (fun g hg e => by have := (h.lt g hg).1; omega)
set_option maxRecDepth 100000 in
set_option maxHeartbeats 1000000 in
theorem better_any (f : Value) (F : Fld) (A0 : Option Addr) (S : List Int) (n c0 : Nat) (w : World) (hf : FldAt w f F) (hS : IntsAt w A0 S) (hn : S.length = n) (hg : goodF F = true) (hs : setB F S = true) (hne : S ≠ []) :
    Calls Try.prog 69 #[f, .slice A0 n c0] w fun e w' => ∃ v, e = .returned (.tuple #[v, .bool (betF F S).isSome]) ∧ Own w' w.heap.size v ((betF F S).getD []) ∧ Kp w w' := by
  obtain ⟨A, c, B, d, rfl, hA, hB⟩ := hf
  have hk0 : Kp w (w.alloc (.cells #[.slice A F.op.length c, .slice B F.di.length d] 29)) := (Kp.refl w).alloc _
  obtain ⟨d0, d1⟩ := box2 w (.slice A F.op.length c) (.slice B F.di.length d) 29
  have hFA := FldAt.kp (show FldAt w (.agg #[.slice A F.op.length c, .slice B F.di.length d]) F from ⟨A, c, B, d, rfl, hA, hB⟩) hk0
  replace hS := hS.kp hk0
  have HG := Lib.hid hg; have HS := Lib.hid hs; have HE := Lib.hid hne; have Hn := Lib.hid hn
  have hmf : ∀ (fn : Fn) (first cap : Array Value) (w : World), (Instr.makeFunc fn first cap).run Try.prog w = .ok (.func fn first cap) w := fun _ _ _ _ => rfl
  have hq := run_neq_nil
  clear hA hB hg hs hne hn
  go_enter Try.func69, Try.ntmps69
  go_wp2_with fail
  have hsz : Hid ((w.alloc (.cells #[.slice A F.op.length c, .slice B F.di.length d] 29)).heap.size = w.heap.size + 1) := by show _ = _; simp
  generalize w.alloc (.cells #[.slice A F.op.length c, .slice B F.di.length d] 29) = wb at *
  have hkb : Kp wb wb := Kp.refl _
  have hkw := hk0
  have q_d0 := hkb.get d0
  have q_d1 := hkb.get d1
  go_wp2_with fail
  have CC := Lib.hid (total_any _ F A0 S n c0 _ (hFA.kp hkb) (hS.kp hkb) Hn.out HG.out HS.out HE.out)
  with_reducible refine Calls.mono CC.out ?_
  rintro e w1 ⟨rfl, hk1⟩
  clear CC q_d0 q_d1
  replace hkb := hkb.trans hk1
  have hkc : Kp w1 ((w1.alloc (.cells #[.int .i64 (totF F S)] 3)).alloc (.cells #[.slice none 0 0] 22)) := ((Kp.refl w1).alloc _).alloc _
  have hy0 : ((w1.alloc (.cells #[.int .i64 (totF F S)] 3)).alloc (.cells #[.slice none 0 0] 22)).cell? ⟨w1.heap.size, 0, none⟩ = some (.int .i64 (totF F S)) := by
    refine ((Kp.refl _).alloc _).get ?_
    rw [World.cell?_alloc_at _ _ _ _ rfl]; rfl
  have hro := row1 (w1.alloc (.cells #[.int .i64 (totF F S)] 3)) (.slice none 0 0) 22
  have hzs : w1.heap.size + 1 < ((w1.alloc (.cells #[.int .i64 (totF F S)] 3)).alloc (.cells #[.slice none 0 0] 22)).heap.size := by simp
  simp only [World.size_alloc] at hro
  have hkd := hkb.trans hkc
  have x0 := hkd.get d0
  have x1 := hkd.get d1
  have y0 := hkb.get d0
  have y1 := hkb.get d1
  go_wp2_with fail
  have CC := Lib.hid (moves_any F A c B d A0 S n c0 (totF F S) w.heap.size w1.heap.size (w1.heap.size + 1) _ (hFA.kp hkd) x0 x1 hy0 hro (hS.kp hkd) Hn.out HG.out HS.out HE.out)
  with_reducible refine Calls.mono CC.out ?_
  rintro e wm ⟨rfl, hfin⟩
  clear CC
  have Hb : Hid (betF F S = (movesL F S).find? (lsB F (totF F S))) := rfl
  have hb1 : w.heap.size ≤ w1.heap.size := (hkw.trans hkb).le
  cases hr : (movesL F S).find? (lsB F (totF F S)) with
  | none =>
    rw [hr] at hfin Hb
    have hkm : Kp w wm := (hkw.trans hkd).trans hfin
    have hcm := (Kp.row hfin hro).cell (i := 0) (by omega)
    clear hr hy0 hro x0 x1 y0 y1
    go_wp2_with fail
    go_quiet (fail)
    go_wp2_with fail
    go_ret2
    exact ⟨.slice none 0 0, by rw [Hb.out]; rfl, by rw [Hb.out]; exact Own.nil _ _, hkm.drewN _⟩
  | some T =>
    rw [hr] at hfin Hb
    obtain ⟨w2, Av, cv, hk2, hov, rfl⟩ := hfin
    have HT := Lib.hid (moves_ok HS.out HE.out T (List.mem_of_find?_eq_some hr)).2
    have hco := (Kp.row hk2 hro).cell (i := 0) (by omega)
    have hcm : (w2.setCell ⟨w1.heap.size + 1, 0, none⟩ (.slice Av T.length cv)).cell? ⟨w1.heap.size + 1, 0, none⟩ = some (.slice Av T.length cv) := World.cell?_setCell_same _ _ _ (by rw [hco])
    have hkm : Kp w (w2.setCell ⟨w1.heap.size + 1, 0, none⟩ (.slice Av T.length cv)) := ((hkw.trans hkd).trans hk2).setCell (p := ⟨w1.heap.size + 1, 0, none⟩) (by show w.heap.size ≤ w1.heap.size + 1; omega) _
    have hom := (hov.setOther (po := w1.heap.size + 1) (u := .slice Av T.length cv) hzs).mono (base' := w.heap.size) (by omega)
    obtain ⟨ad, rfl⟩ : ∃ ad, Av = some ad := by
      obtain ⟨A9, c9, e9, h9⟩ := hov.ints (by have := hov.1; have := set_len (moves_ok HS.out HE.out T (List.mem_of_find?_eq_some hr)).1; have := (goodF_iff.1 HG.out).1.2; omega)
      simp only [Value.slice.injEq] at e9
      obtain ⟨ad, e, _⟩ := h9.at_ (k := 0) (List.length_pos_iff.2 HT.out)
      exact ⟨ad, e9.1.trans e⟩
    clear hr hy0 hro x0 x1 y0 y1 hco hov hk2 HT
    generalize w2.setCell ⟨w1.heap.size + 1, 0, none⟩ (.slice (some ad) T.length cv) = wn at *
    go_wp2_with fail
    go_quiet (fail)
    go_wp2_with fail
    go_ret2
    exact ⟨.slice (some ad) T.length cv, by rw [Hb.out]; rfl, by rw [Hb.out]; exact hom.kp ((Kp.refl _).drewN _), hkm.drewN _⟩
def ilR (F : Fld) (S : List Int) : Bool := openedB F S && !(betF F S).isSome
theorem il_no {F : Fld} {S : List Int} (h : openedB F S = false) : Ending.returned (.tuple #[.bool false, .bool false]) = .returned (.tuple #[.bool (ilR F S), .bool (openedB F S)]) := by simp [ilR, h]
theorem il_yes {F : Fld} {S : List Int} {b : Bool} (h : openedB F S = true) (hb : (betF F S).isSome = b) : Ending.returned (.tuple #[.bool (!b), .bool true]) = .returned (.tuple #[.bool (ilR F S), .bool (openedB F S)]) := by rw [ilR, h, hb]; simp
set_option maxRecDepth 100000 in
set_option maxHeartbeats 400000 in
theorem specIl_any (f : Value) (F : Fld) (A0 : Option Addr) (S : List Int) (n c0 : Nat) (w : World) (hf : FldAt w f F) (hS : IntsAt w A0 S) (hn : S.length = n) :
    Calls Try.prog 28 #[f, .slice A0 n n] w fun e w' => e = .returned (.tuple #[.bool (ilR F S), .bool (openedB F S)]) ∧ Kp w w' := by
  obtain ⟨A, c, B, d, rfl, hA, hB⟩ := hf
  have hk0 : Kp w (w.alloc (.cells #[.slice A F.op.length c, .slice B F.di.length d] 29)) := (Kp.refl w).alloc _
  obtain ⟨d0, d1⟩ := box2 w (.slice A F.op.length c) (.slice B F.di.length d) 29
  have hFA := FldAt.kp (show FldAt w (.agg #[.slice A F.op.length c, .slice B F.di.length d]) F from ⟨A, c, B, d, rfl, hA, hB⟩) hk0
  replace hS := hS.kp hk0
  have Hn := Lib.hid hn
  clear hA hB hn
  go_enter Try.func28, Try.ntmps28
  go_wp2_with fail
  have hsz : Hid ((w.alloc (.cells #[.slice A F.op.length c, .slice B F.di.length d] 29)).heap.size = w.heap.size + 1) := by show _ = _; simp
  generalize w.alloc (.cells #[.slice A F.op.length c, .slice B F.di.length d] 29) = wb at *
  have hkb : Kp wb wb := Kp.refl _
  have hkw := hk0
  have q_d0 := hkb.get d0
  have q_d1 := hkb.get d1
  go_wp2_with fail
  have CC := Lib.hid (l2Two_any _ F A0 S n n _ (hFA.kp hkb) (hS.kp hkb) Hn.out)
  with_reducible refine Calls.mono CC.out ?_
  rintro e w1 ⟨rfl, hk1⟩
  clear CC q_d0 q_d1
  replace hkb := hkb.trans hk1
  cases hg_ : openedB F S
  · have Hno := Lib.hid (il_no hg_)
    clear hg_
    have q_d0 := hkb.get d0
    have q_d1 := hkb.get d1
    go_wp2_with fail
    go_ret2
    exact ⟨Hno.out, hkw.trans hkb⟩
  have HP := Lib.hid (openedB_parts hg_)
  have Hg := Lib.hid hg_
  clear hg_
  have q_d0 := hkb.get d0
  have q_d1 := hkb.get d1
  go_wp2_with fail
  have CC := Lib.hid (l3Better_any _ F A0 S n n _ (hFA.kp hkb) (hS.kp hkb) Hn.out (Nat.le_refl _) HP.out.1 HP.out.2.1 HP.out.2.2)
  with_reducible refine Calls.mono CC.out ?_
  rintro e w2 ⟨v, rfl, hov, hk2⟩
  clear CC q_d0 q_d1
  replace hkb := hkb.trans hk2
  generalize hbs : (betF F S).isSome = bb at *
  have Hbs := Lib.hid hbs
  clear hbs
  have q_d0 := hkb.get d0
  have q_d1 := hkb.get d1
  go_wp2_with fail
  go_ret2
  exact ⟨il_yes Hg.out Hbs.out, hkw.trans hkb⟩
set_option maxRecDepth 100000 in
set_option maxHeartbeats 400000 in
theorem implIl_any (f : Value) (F : Fld) (A0 : Option Addr) (S : List Int) (n c0 : Nat) (w : World) (hf : FldAt w f F) (hS : IntsAt w A0 S) (hn : S.length = n) :
    Calls Try.prog 29 #[f, .slice A0 n n] w fun e w' => e = .returned (.tuple #[.bool (ilR F S), .bool (openedB F S)]) ∧ Kp w w' := by
  obtain ⟨A, c, B, d, rfl, hA, hB⟩ := hf
  have hk0 : Kp w (w.alloc (.cells #[.slice A F.op.length c, .slice B F.di.length d] 29)) := (Kp.refl w).alloc _
  obtain ⟨d0, d1⟩ := box2 w (.slice A F.op.length c) (.slice B F.di.length d) 29
  have hFA := FldAt.kp (show FldAt w (.agg #[.slice A F.op.length c, .slice B F.di.length d]) F from ⟨A, c, B, d, rfl, hA, hB⟩) hk0
  replace hS := hS.kp hk0
  have Hn := Lib.hid hn
  clear hA hB hn
  go_enter Try.func29, Try.ntmps29
  go_wp2_with fail
  have hsz : Hid ((w.alloc (.cells #[.slice A F.op.length c, .slice B F.di.length d] 29)).heap.size = w.heap.size + 1) := by show _ = _; simp
  generalize w.alloc (.cells #[.slice A F.op.length c, .slice B F.di.length d] 29) = wb at *
  have hkb : Kp wb wb := Kp.refl _
  have hkw := hk0
  have q_d0 := hkb.get d0
  have q_d1 := hkb.get d1
  go_wp2_with fail
  have CC := Lib.hid (isOpened_any _ F A0 S n n _ (hFA.kp hkb) (hS.kp hkb) Hn.out)
  with_reducible refine Calls.mono CC.out ?_
  rintro e w1 ⟨rfl, hk1⟩
  clear CC q_d0 q_d1
  replace hkb := hkb.trans hk1
  cases hg_ : openedB F S
  · have Hno := Lib.hid (il_no hg_)
    clear hg_
    have q_d0 := hkb.get d0
    have q_d1 := hkb.get d1
    go_wp2_with fail
    go_ret2
    exact ⟨Hno.out, hkw.trans hkb⟩
  have HP := Lib.hid (openedB_parts hg_)
  have Hg := Lib.hid hg_
  clear hg_
  have q_d0 := hkb.get d0
  have q_d1 := hkb.get d1
  go_wp2_with fail
  have CC := Lib.hid (better_any _ F A0 S n n _ (hFA.kp hkb) (hS.kp hkb) Hn.out HP.out.1 HP.out.2.1 HP.out.2.2)
  with_reducible refine Calls.mono CC.out ?_
  rintro e w2 ⟨v, rfl, hov, hk2⟩
  clear CC q_d0 q_d1
  replace hkb := hkb.trans hk2
  generalize hbs : (betF F S).isSome = bb at *
  have Hbs := Lib.hid hbs
  clear hbs
  have q_d0 := hkb.get d0
  have q_d1 := hkb.get d1
  go_wp2_with fail
  go_ret2
  exact ⟨il_yes Hg.out Hbs.out, hkw.trans hkb⟩
end Go.Proofs.Ytcekddpllpbkmaa

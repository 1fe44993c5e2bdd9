/- WholeFlow: the reference; WholeFlow: what the program's search holds in memory; WholeFlow: the program's search, at its end. No condition. -/
import Derived.Test.YtgdicmeabppngaaQBn
namespace Go.Proofs.Ytgdicmeabppngaa
open Go.RowKit Go.Sort

theorem wh_no {F : Fld} {rooms needs S : List Int} (h : lfOk F rooms needs S = false) : whL F rooms needs S = [] ∧ whC F rooms needs S = 0 ∧ whF F rooms needs S = false := by
  unfold whL whC whF
  rw [h]
  exact ⟨rfl, rfl, rfl⟩
theorem wh_yes {F : Fld} {rooms needs S : List Int} (h : lfOk F rooms needs S = true) : whL F rooms needs S = whV1 (whR F rooms needs S) ∧ whC F rooms needs S = whV2 (whR F rooms needs S) ∧ whF F rooms needs S = whV3 (whR F rooms needs S) := by
  unfold whL whC whF
  rw [h, if_pos rfl, if_pos rfl]
  cases whR F rooms needs S with
  | none => exact ⟨rfl, rfl, rfl⟩
  | some p => exact ⟨rfl, rfl, rfl⟩
theorem whL_len (F : Fld) (rooms needs S : List Int) : (whL F rooms needs S).length ≤ 1048576 := by
  by_cases h : lfOk F rooms needs S = true
  · have HH : haulB F rooms needs S = true ∧ needs.sum ≤ roomS rooms S := by
      unfold lfOk at h
      rwa [Bool.and_eq_true, decide_eq_true_eq] at h
    have hP := haul_p HH.1
    have h8 := (goodF_iff.1 hP.good).2.2.1
    rw [(wh_yes h).1]
    have hok := wh_ok (F := F) (needs := needs) (S := S) (pr := true) (fun j a => whAdd_bd hP.good hP.nb j a) F.di.length (lget rooms) [] 0 none F.di.length (by simp) (by omega) (by omega) ⟨fun l c e => (by cases e), fun l c e => (by cases e)⟩
    cases hr : whR F rooms needs S with
    | none => simp [whV1]
    | some p =>
      have := hok.len p.1 p.2 hr
      show p.1.length ≤ _
      omega
  · rw [(wh_no (by simpa using h)).1]; simp
set_option maxRecDepth 100000 in
set_option maxHeartbeats 1000000 in
theorem specWh_any (f : Value) (F : Fld) (A1 : Option Addr) (rooms : List Int) (n1 c1 : Nat) (A2 : Option Addr) (needs : List Int) (n2 c2 : Nat) (A3 : Option Addr) (S : List Int) (n3 c3 : Nat) (w : World) (hf : FldAt w f F) (h1 : IntsAt w A1 rooms) (hn1 : rooms.length = n1) (h2 : IntsAt w A2 needs) (hn2 : needs.length = n2) (h3 : IntsAt w A3 S) (hn3 : S.length = n3) :
    Calls Try.prog 13 #[f, .slice A1 n1 c1, .slice A2 n2 c2, .slice A3 n3 c3] w fun e w' => ∃ v, e = .returned (.tuple #[v, .int .i64 (whC F rooms needs S), .bool (whF F rooms needs S)]) ∧ Own w' w.heap.size v (whL F rooms needs S) ∧ Kp w w' := by
  obtain ⟨A, c, B, d, rfl, hA, hB⟩ := hf
  have hk0 : Kp w (w.alloc (.cells #[.slice A F.op.length c, .slice B F.di.length d] 27)) := (Kp.refl w).alloc _
  obtain ⟨d0, d1⟩ := box2 w (.slice A F.op.length c) (.slice B F.di.length d) 27
  have hFA := FldAt.kp (show FldAt w (.agg #[.slice A F.op.length c, .slice B F.di.length d]) F from ⟨A, c, B, d, rfl, hA, hB⟩) hk0
  replace h1 := h1.kp hk0
  replace h2 := h2.kp hk0
  replace h3 := h3.kp hk0
  have Hn1 := Lib.hid hn1; have Hn2 := Lib.hid hn2; have Hn3 := Lib.hid hn3
  clear hA hB hn1 hn2 hn3
  go_enter Try.func13, Try.ntmps13
  go_wp2_with fail
  have hsz : Hid ((w.alloc (.cells #[.slice A F.op.length c, .slice B F.di.length d] 27)).heap.size = w.heap.size + 1) := by show _ = _; simp
  generalize w.alloc (.cells #[.slice A F.op.length c, .slice B F.di.length d] 27) = wb at *
  have hkb : Kp wb wb := Kp.refl _
  have hkw := hk0
  have CC := Lib.hid (l7Can_any _ F A1 rooms n1 c1 A2 needs n2 c2 A3 S n3 c3 _ (hFA.kp hkb) (h1.kp hkb) Hn1.out (h2.kp hkb) Hn2.out (h3.kp hkb) Hn3.out)
  with_reducible refine Calls.mono CC.out ?_
  rintro e w1 ⟨rfl, hk1⟩
  clear CC
  replace hkb := hkb.trans hk1
  cases hh_ : lfOk F rooms needs S
  · have Hno := Lib.hid (wh_no hh_)
    clear hh_
    have q_d0 := hkb.get d0
    have q_d1 := hkb.get d1
    go_wp2_with fail
    go_ret3
    have hle := (hkw.trans hkb).le
    exact ⟨_, by rw [Hno.out.2.1, Hno.out.2.2]; rfl, by rw [Hno.out.1]; exact own_new0 _ _ hle, (hkw.trans hkb).alloc _⟩
  have Hyes := Lib.hid (wh_yes hh_)
  have HH : Hid (haulB F rooms needs S = true ∧ needs.sum ≤ roomS rooms S) := by
    have := hh_
    unfold lfOk at this
    rw [Bool.and_eq_true, decide_eq_true_eq] at this
    exact this
  have HP := Lib.hid (haul_p HH.out.1)
  clear hh_
  have h8 := (goodF_iff.1 HP.out.good).2.2.1
  have hn1M : Hid (n1 = F.op.length) := by show _ = _; rw [← Hn1.out, HP.out.rl]
  obtain rfl := hn1M.out
  have hwle := (hkw.trans hkb).le
  have hkc : Kp w1 ((w1.alloc (.cells #[] 3)).alloc (.cells #[] 3)) := ((Kp.refl w1).alloc _).alloc _
  have ho1 : Own ((w1.alloc (.cells #[] 3)).alloc (.cells #[] 3)) w.heap.size (.slice (some ⟨w1.heap.size, 0, none⟩) 0 0) [] := (own_new0 w1 w.heap.size hwle).kp ((Kp.refl _).alloc _)
  have ho2 : Own ((w1.alloc (.cells #[] 3)).alloc (.cells #[] 3)) w.heap.size (.slice (some ⟨w1.heap.size + 1, 0, none⟩) 0 0) [] := by
    have := own_new0 (w1.alloc (.cells #[] 3)) w.heap.size (by have := ((Kp.refl w1).alloc (.cells #[] 3)).le; omega)
    rwa [World.size_alloc] at this
  have CC0 := (l7Give_any F rooms needs S HP.out A2 n2 c2 A3 n3 c3 Hn2.out Hn3.out F.di.length _ A1 rooms c1 _ [] 0 none _ w.heap.size _ (hFA.kp (hkb.trans hkc)) (h1.kp (hkb.trans hkc)) Hn1.out (h2.kp (hkb.trans hkc)) (h3.kp (hkb.trans hkc)) ho1 ho2 (by have := hkc.le; omega) (by simp) (by omega) (by omega) ⟨fun l c e => (by cases e), fun l c e => (by cases e)⟩ HP.out.rb)
  rw [show whV2 none = 0 from rfl, show whV3 none = false from rfl] at CC0
  have CC := Lib.hid CC0
  clear ho1 ho2 CC0
  have q_d0 := hkb.get d0
  have q_d1 := hkb.get d1
  go_wp2_with fail
  with_reducible refine Calls.mono CC.out ?_
  rintro e w2 ⟨v, rfl, hown, hk2⟩
  clear CC
  obtain ⟨vA, vc, rfl⟩ := hown.shape
  go_wp2_with fail
  go_region
  go_wp2_with fail
  go_ret3
  exact ⟨_, by rw [Hyes.out.2.1, Hyes.out.2.2]; rfl, by rw [Hyes.out.1]; exact hown.kp (by repeat (first | with_reducible assumption | with_reducible exact Kp.refl _ | with_reducible refine Kp.drew ?_ | with_reducible refine Kp.alloc ?_ _ | with_reducible refine Kp.drewN ?_ _ | refine Kp.setCell ?_ (by dsimp only; omega) _)), (((hkw.trans hkb).trans hkc).trans hk2).trans (by repeat (first | with_reducible assumption | with_reducible exact Kp.refl _ | with_reducible refine Kp.drew ?_ | with_reducible refine Kp.alloc ?_ _ | with_reducible refine Kp.drewN ?_ _ | refine Kp.setCell ?_ (by dsimp only; omega) _))⟩
end Go.Proofs.Ytgdicmeabppngaa

namespace Go.Proofs.Ytgdicmeabppngaa
open Go.RowKit Go.Sort

theorem cell_self {w : World} {b : Nat} {v : Value} (h : w.there b 0 1) : (w.setCell ⟨b, 0, none⟩ v).cell? ⟨b, 0, none⟩ = some v := World.rangeAt_setCells_same w b 0 [v] h 0 v rfl
theorem there_self {w : World} {b b' : Nat} {v : Value} (h : w.there b 0 1) : (w.setCell ⟨b', 0, none⟩ v).there b 0 1 := World.there_setCells h b' 0 [v]
theorem TyAt.cell1 {w : World} {b : Nat} {t : TypeId} (h : TyAt w b t) (b' : Nat) (v : Value) : TyAt (w.setCell ⟨b', 0, none⟩ v) b t := by
  by_cases e : b = b'
  · subst e; exact TyAt.cells b t [v] 0 w h
  · exact h.turn (turn_cell w ⟨b', 0, none⟩ v) e
/-- What the search holds: f in block h, needs in h + 1, set in h + 2, best in H, least in H + 1, found in H + 2, list in X, left in X + 1, from in X + 2. -/
structure WhS (w0 wr : World) (h H X : Nat) (u v vN vS vF : Value) (g M cl : Nat) (vl vb : Value) (begun xs bl : List Int) (bc : Int) (bo : Bool) : Prop where
  kp : Kp w0 wr
  o1 : w0.heap.size = h ∧ h + 3 ≤ H ∧ H + 3 ≤ X
  f0 : wr.cell? ⟨h, 0, none⟩ = some u
  f1 : wr.cell? ⟨h, 1, none⟩ = some v
  n0 : wr.cell? ⟨h + 1, 0, none⟩ = some vN
  s0 : wr.cell? ⟨h + 2, 0, none⟩ = some vS
  r0 : wr.cell? ⟨X + 2, 0, none⟩ = some vF
  b0 : wr.cell? ⟨H, 0, none⟩ = some vb
  l0 : wr.cell? ⟨H + 1, 0, none⟩ = some (.int .i64 bc)
  k0 : wr.cell? ⟨H + 2, 0, none⟩ = some (.bool bo)
  i0 : wr.cell? ⟨X, 0, none⟩ = some vl
  t0 : wr.cell? ⟨X + 1, 0, none⟩ = some (.slice (some ⟨g, 0, none⟩) M cl)
  bt : wr.there H 0 1
  lt : wr.there (H + 1) 0 1
  kt : wr.there (H + 2) 0 1
  it : wr.there X 0 1
  ty0 : TyAt wr X 24
  ty1 : TyAt wr (X + 1) 24
  ty2 : TyAt wr (X + 2) 60
  ol : Own wr (H + 3) vl begun
  oe : Own wr (H + 3) (.slice (some ⟨g, 0, none⟩) M cl) xs
  ob : Own wr (H + 3) vb bl
  ml : xs.length = M
  a1 : ∀ k, vl.ownBlock = some k → k ≠ g
  a2 : ∀ k, vb.ownBlock = some k → k ≠ g
  a3 : ∀ k, vl.ownBlock = some k → vb.ownBlock ≠ some k
section
variable {w0 wr wr' : World} {h H X g M cl : Nat} {u v vN vS vF vl vb : Value} {begun xs bl : List Int} {bc : Int} {bo : Bool}
theorem WhS.go (q : WhS w0 wr h H X u v vN vS vF g M cl vl vb begun xs bl bc bo) (hk : Kp wr wr') : WhS w0 wr' h H X u v vN vS vF g M cl vl vb begun xs bl bc bo :=
  ⟨q.kp.trans hk, q.o1, hk.get q.f0, hk.get q.f1, hk.get q.n0, hk.get q.s0, hk.get q.r0, hk.get q.b0, hk.get q.l0, hk.get q.k0, hk.get q.i0, hk.get q.t0, there_kp q.bt hk, there_kp q.lt hk, there_kp q.kt hk, there_kp q.it hk, q.ty0.kp hk, q.ty1.kp hk, q.ty2.kp hk, q.ol.kp hk, q.oe.kp hk, q.ob.kp hk, q.ml, q.a1, q.a2, q.a3⟩
/-- Blocks of slices of its own are none of the variables'. -/
theorem WhS.ne (q : WhS w0 wr h H X u v vN vS vF g M cl vl vb begun xs bl bc bo) {vx : Value} {zs : List Int} (ho : Own wr (H + 3) vx zs) {k : Nat} (hk : vx.ownBlock = some k) : H + 3 ≤ k ∧ k ≠ X ∧ k ≠ X + 1 ∧ k ≠ X + 2 :=
  ⟨(ho.lt k hk).1, Own.ne_ty ho q.ty0 (by decide) hk, Own.ne_ty ho q.ty1 (by decide) hk, Own.ne_ty ho q.ty2 (by decide) hk⟩
/-- A number in left is written. -/
theorem WhS.left (q : WhS w0 wr h H X u v vN vS vF g M cl vl vb begun xs bl bc bo) {s : Nat} (hs : s < M) (z : Int) : WhS w0 (wr.setCell ⟨g, s, none⟩ (.int .i64 z)) h H X u v vN vS vF g M cl vl vb begun (xs.set s z) bl bc bo := by
  have ht := turn_cell wr ⟨g, s, none⟩ (.int .i64 z)
  obtain ⟨e0, e1, e2, e3⟩ := q.ne q.oe (k := g) rfl
  obtain ⟨o0, o1, o2⟩ := q.o1
  have hg : ∀ {b}, b ≠ g → ¬ (fun i => i = (⟨g, s, none⟩ : Addr).block) b := fun h e => h e
  exact ⟨q.kp.turn ht (fun i e => by have : i = g := e; omega), q.o1, ht.get q.f0 (hg (by dsimp only; omega)), ht.get q.f1 (hg (by dsimp only; omega)), ht.get q.n0 (hg (by dsimp only; omega)), ht.get q.s0 (hg (by dsimp only; omega)), ht.get q.r0 (hg (by dsimp only; omega)), ht.get q.b0 (hg (by dsimp only; omega)), ht.get q.l0 (hg (by dsimp only; omega)), ht.get q.k0 (hg (by dsimp only; omega)), ht.get q.i0 (hg (by dsimp only; omega)), ht.get q.t0 (hg (by dsimp only; omega)),
    ht.there q.bt (hg (by omega)), ht.there q.lt (hg (by omega)), ht.there q.kt (hg (by omega)), ht.there q.it (hg (by omega)), q.ty0.turn ht (hg (by omega)), q.ty1.turn ht (hg (by omega)), q.ty2.turn ht (hg (by omega)),
    q.ol.turn ht (fun k hk e => q.a1 k hk e), ((q.oe.slotL q.ml hs).2.2 z).1, q.ob.turn ht (fun k hk e => q.a2 k hk e), by rw [List.length_set]; exact q.ml, q.a1, q.a2, q.a3⟩
/-- A new value of the list's variable. -/
theorem WhS.put (q : WhS w0 wr h H X u v vN vS vF g M cl vl vb begun xs bl bc bo) {vl' : Value} {begun' : List Int} (ho : Own wr (H + 3) vl' begun') (h1 : ∀ k, vl'.ownBlock = some k → k ≠ g) (h3 : ∀ k, vl'.ownBlock = some k → vb.ownBlock ≠ some k) : WhS w0 (wr.setCell ⟨X, 0, none⟩ vl') h H X u v vN vS vF g M cl vl' vb begun' xs bl bc bo := by
  have ht := turn_cell wr ⟨X, 0, none⟩ vl'
  obtain ⟨o0, o1, o2⟩ := q.o1
  have hg : ∀ {b}, b ≠ X → ¬ (fun i => i = (⟨X, 0, none⟩ : Addr).block) b := fun h e => h e
  exact ⟨q.kp.turn ht (fun i e => by have : i = X := e; omega), q.o1, ht.get q.f0 (hg (by dsimp only; omega)), ht.get q.f1 (hg (by dsimp only; omega)), ht.get q.n0 (hg (by dsimp only; omega)), ht.get q.s0 (hg (by dsimp only; omega)), ht.get q.r0 (hg (by dsimp only; omega)), ht.get q.b0 (hg (by dsimp only; omega)), ht.get q.l0 (hg (by dsimp only; omega)), ht.get q.k0 (hg (by dsimp only; omega)), cell_self q.it, ht.get q.t0 (hg (by dsimp only; omega)),
    there_self q.bt, there_self q.lt, there_self q.kt, there_self q.it, q.ty0.cell1 _ _, q.ty1.cell1 _ _, q.ty2.cell1 _ _,
    ho.turn ht (fun k hk e => (q.ne ho hk).2.1 e), q.oe.turn ht (fun k hk e => (q.ne q.oe hk).2.1 e), q.ob.turn ht (fun k hk e => (q.ne q.ob hk).2.1 e), q.ml, h1, q.a2, h3⟩
/-- The list grows: the append, then the store. -/
theorem WhS.turn (q : WhS w0 wr h H X u v vN vS vF g M cl vl vb begun xs bl bc bo) {vl' : Value} {begun' : List Int} (ho : Own wr' (H + 3) vl' begun') (ht : Turn (fun i => vl.ownBlock = some i) wr wr') (h4 : vl'.ownBlock = vl.ownBlock ∨ ∀ g, vl'.ownBlock = some g → wr.heap.size ≤ g) : wr'.there X 0 1 ∧ WhS w0 (wr'.setCell ⟨X, 0, none⟩ vl') h H X u v vN vS vF g M cl vl' vb begun' xs bl bc bo := by
  obtain ⟨o0, o1, o2⟩ := q.o1
  have hn : ∀ {b}, (b < H + 3 ∨ b = X ∨ b = X + 1 ∨ b = X + 2) → ¬ (fun i => vl.ownBlock = some i) b := fun h e => by have := q.ne q.ol e; omega
  have hnl : ∀ k, vl'.ownBlock = some k → k ≠ g := fun k hk => by
    rcases h4 with e | e
    · exact q.a1 k (e ▸ hk)
    · have := e k hk; have := (q.oe.lt g rfl).2; omega
  have hnb : ∀ k, vl'.ownBlock = some k → vb.ownBlock ≠ some k := fun k hk hb => by
    rcases h4 with e | e
    · exact q.a3 k (e ▸ hk) hb
    · have := e k hk; have := (q.ob.lt k hb).2; omega
  have tX := ht.there q.it (hn (by omega))
  have htc := turn_cell wr' ⟨X, 0, none⟩ vl'
  have hg : ∀ {b}, b ≠ X → ¬ (fun i => i = (⟨X, 0, none⟩ : Addr).block) b := fun h e => h e
  have g1 := ht.get q.f0 (hn (by dsimp only; omega)); have g2 := ht.get q.f1 (hn (by dsimp only; omega)); have g3 := ht.get q.n0 (hn (by dsimp only; omega)); have g4 := ht.get q.s0 (hn (by dsimp only; omega)); have g5 := ht.get q.r0 (hn (by dsimp only; omega))
  have g6 := ht.get q.b0 (hn (by dsimp only; omega)); have g7 := ht.get q.l0 (hn (by dsimp only; omega)); have g8 := ht.get q.k0 (hn (by dsimp only; omega)); have g9 := ht.get q.t0 (hn (by dsimp only; omega))
  have y0 := q.ty0.turn ht (hn (by omega)); have y1 := q.ty1.turn ht (hn (by omega)); have y2 := q.ty2.turn ht (hn (by omega))
  have oe' := q.oe.turn ht (fun k hk e => q.a1 k e (by simpa [Value.ownBlock] using hk.symm))
  have ob' := q.ob.turn ht (fun k hk e => q.a3 k e hk)
  have hx : ∀ {vx : Value} {zs : List Int}, Own wr' (H + 3) vx zs → ∀ k, vx.ownBlock = some k → ¬ (fun i => i = (⟨X, 0, none⟩ : Addr).block) k := fun ho k hk e => Own.ne_ty ho y0 (by decide) hk e
  refine ⟨tX, ⟨(q.kp.turn ht (fun i e => by have := q.ne q.ol e; omega)).turn htc (fun i e => by have : i = X := e; omega), q.o1, htc.get g1 (hg (by dsimp only; omega)), htc.get g2 (hg (by dsimp only; omega)), htc.get g3 (hg (by dsimp only; omega)), htc.get g4 (hg (by dsimp only; omega)), htc.get g5 (hg (by dsimp only; omega)), htc.get g6 (hg (by dsimp only; omega)), htc.get g7 (hg (by dsimp only; omega)), htc.get g8 (hg (by dsimp only; omega)), cell_self tX, htc.get g9 (hg (by dsimp only; omega)),
    there_self (ht.there q.bt (hn (by omega))), there_self (ht.there q.lt (hn (by omega))), there_self (ht.there q.kt (hn (by omega))), there_self tX, y0.cell1 _ _, y1.cell1 _ _, y2.cell1 _ _,
    ho.turn htc (hx ho), oe'.turn htc (hx oe'), ob'.turn htc (hx ob'), q.ml, hnl, q.a2, hnb⟩⟩
/-- A better list is kept. -/
theorem WhS.best (q : WhS w0 wr h H X u v vN vS vF g M cl vl vb begun xs bl bc bo) {vb' : Value} (hk : Kp wr wr') (ho : Own wr' wr.heap.size vb' begun) (c' : Int) (o' : Bool) : WhS w0 (((wr'.setCell ⟨H, 0, none⟩ vb').setCell ⟨H + 1, 0, none⟩ (.int .i64 c')).setCell ⟨H + 2, 0, none⟩ (.bool o')) h H X u v vN vS vF g M cl vl vb' begun xs begun c' o' := by
  have q' := q.go hk
  obtain ⟨p0, p1, p2⟩ := q.o1
  have hxw : H + 3 ≤ wr.heap.size := by have := World.block_lt_of_cell? _ _ q.i0; dsimp only at this; omega
  have hob : Own wr' (H + 3) vb' begun := ho.mono hxw
  have ht1 : Turn (fun i => i = H) wr' (wr'.setCell ⟨H, 0, none⟩ vb') := turn_cell wr' ⟨H, 0, none⟩ vb'
  have ht2 : Turn (fun i => i = H + 1) (wr'.setCell ⟨H, 0, none⟩ vb') ((wr'.setCell ⟨H, 0, none⟩ vb').setCell ⟨H + 1, 0, none⟩ (.int .i64 c')) := turn_cell _ ⟨H + 1, 0, none⟩ (.int .i64 c')
  have ht3 : Turn (fun i => i = H + 2) ((wr'.setCell ⟨H, 0, none⟩ vb').setCell ⟨H + 1, 0, none⟩ (.int .i64 c')) (((wr'.setCell ⟨H, 0, none⟩ vb').setCell ⟨H + 1, 0, none⟩ (.int .i64 c')).setCell ⟨H + 2, 0, none⟩ (.bool o')) := turn_cell _ ⟨H + 2, 0, none⟩ (.bool o')
  have ht : Turn (fun i => i = H ∨ i = H + 1 ∨ i = H + 2) wr' (((wr'.setCell ⟨H, 0, none⟩ vb').setCell ⟨H + 1, 0, none⟩ (.int .i64 c')).setCell ⟨H + 2, 0, none⟩ (.bool o')) :=
    ((ht1.mono (fun i h => .inl h)).trans (ht2.mono (fun i h => .inr (.inl h)))).trans (ht3.mono (fun i h => .inr (.inr h)))
  have hn : ∀ {b}, (b < H ∨ H + 3 ≤ b) → ¬ (fun i => i = H ∨ i = H + 1 ∨ i = H + 2) b := fun h e => by rcases e with e | e | e <;> omega
  have hown : ∀ {vx : Value} {zs : List Int}, Own wr' (H + 3) vx zs → Own (((wr'.setCell ⟨H, 0, none⟩ vb').setCell ⟨H + 1, 0, none⟩ (.int .i64 c')).setCell ⟨H + 2, 0, none⟩ (.bool o')) (H + 3) vx zs := fun hx => hx.turn ht (fun k hk => hn (.inr (hx.lt k hk).1))
  exact ⟨q'.kp.turn ht (fun i e => by rcases e with e | e | e <;> omega), q.o1, ht.get q'.f0 (hn (by dsimp only; omega)), ht.get q'.f1 (hn (by dsimp only; omega)), ht.get q'.n0 (hn (by dsimp only; omega)), ht.get q'.s0 (hn (by dsimp only; omega)), ht.get q'.r0 (hn (by dsimp only; omega)),
    ht3.get (ht2.get (cell_self q'.bt) (by dsimp only; omega)) (by dsimp only; omega), ht3.get (cell_self (there_self q'.lt)) (by dsimp only; omega), cell_self (there_self (there_self q'.kt)), ht.get q'.i0 (hn (by dsimp only; omega)), ht.get q'.t0 (hn (by dsimp only; omega)),
    there_self (there_self (there_self q'.bt)), there_self (there_self (there_self q'.lt)), there_self (there_self (there_self q'.kt)), there_self (there_self (there_self q'.it)), q'.ty0.turn ht (hn (by omega)), q'.ty1.turn ht (hn (by omega)), q'.ty2.turn ht (hn (by omega)),
    hown q'.ol, hown q'.oe, hown hob, q.ml, q.a1, fun k hk => by have h1 := (ho.lt k hk).1; have h2 := (q.oe.lt g rfl).2; omega, fun k hk hb => by have h1 := (ho.lt k hb).1; have h2 := (q.ol.lt k hk).2; omega⟩
end
/-- A slice of its own, cut by its last. -/
theorem Own.cut {w : World} {base n c : Nat} {A : Option Addr} {xs : List Int} {z : Int} (h : Own w base (.slice A (n + 1) c) (xs ++ [z])) (hn : xs.length = n) : Own w base (.slice A n c) xs := by
  rcases h.2 with ⟨_, h0⟩ | ⟨g, cap, cur, e, hb, hg, h1, h2, h3, h4⟩
  · simp at h0
  · obtain ⟨rfl, _, rfl⟩ : A = some ⟨g, 0, none⟩ ∧ n + 1 = (xs ++ [z]).length ∧ c = cap := by simpa using e
    refine ⟨by simp, .inr ⟨g, c, cur, by rw [hn], hb, hg, ?_, h2, h3, ?_⟩⟩
    · simp at h1 ⊢; omega
    · have h5 := congrArg (List.take xs.length) h4
      rw [List.take_take, List.map_append, List.length_append, Nat.mul_one, List.length_singleton, Nat.min_eq_left (by omega)] at h5
      rw [Nat.mul_one, h5]
      have e2 : xs.length = (xs.map (Value.int .i64)).length := by simp
      rw [e2, List.take_left']
      simp
end Go.Proofs.Ytgdicmeabppngaa

namespace Go.Proofs.Ytgdicmeabppngaa
open Go.RowKit Go.Sort

def WhPost (w0 : World) (h H X : Nat) (u v vN vS vF : Value) (g M cl k : Nat) (begun xs : List Int) (best : Option (List Int × Int)) (e : Ending) (w' : World) : Prop :=
  e = .returned (.tuple #[]) ∧ ∃ gl' cll' vb', WhS w0 w' h H X u v vN vS vF g M cl (.slice (some ⟨gl', 0, none⟩) k cll') vb' begun xs (whV1 best) (whV2 best) (whV3 best)
set_option maxRecDepth 100000 in
set_option maxHeartbeats 1000000 in
theorem whEnd_new (w0 w : World) (h H X : Nat) (u v vS vF : Value) (A2 : Option Addr) (n2 c2 g M cl gl cll : Nat) (vb : Value) (begun xs l : List Int) (cost c0 : Int) (b0 : Bool) (hc : b0 = true → cost < c0) (hb : begun.length = n2) (hb2 : n2 ≤ 1048576)
    (q : WhS w0 w h H X u v (.slice A2 n2 c2) vS vF g M cl (.slice (some ⟨gl, 0, none⟩) n2 cll) vb begun xs l c0 b0) :
    Calls Try.prog 33 #[.int .i64 (n2 : Int), .int .i64 cost, .pointer (some ⟨h + 1, 0, none⟩), .pointer (some ⟨H + 2, 0, none⟩), .pointer (some ⟨H + 1, 0, none⟩), .pointer (some ⟨X, 0, none⟩), .pointer (some ⟨H, 0, none⟩), .pointer (some ⟨h + 2, 0, none⟩), .pointer (some ⟨X + 1, 0, none⟩), .pointer (some ⟨X + 2, 0, none⟩), .pointer (some ⟨h, 0, none⟩)] w
      (WhPost w0 h H X u v (.slice A2 n2 c2) vS vF g M cl n2 begun xs (some (begun, cost))) := by
  have Q := Lib.hid q
  have Hb := Lib.hid hb
  have x1 := q.n0; have x2 := q.k0; have x3 := q.l0; have x4 := q.i0
  have CC := Lib.hid (clone_some ⟨gl, 0, none⟩ begun n2 cll w (q.ol.intsOf (by omega)) hb hb2)
  clear q hb
  have fin : ∀ w1, Kp w w1 → ∀ vb', Own w1 w.heap.size vb' begun → WhPost w0 h H X u v (.slice A2 n2 c2) vS vF g M cl n2 begun xs (some (begun, cost)) (.returned (.tuple #[])) (((w1.setCell ⟨H, 0, none⟩ vb').setCell ⟨H + 1, 0, none⟩ (.int .i64 cost)).setCell ⟨H + 2, 0, none⟩ (.bool true)) := fun w1 hk vb' ho =>
    ⟨rfl, gl, cll, vb', Q.out.best hk ho cost true⟩
  have Fin := Lib.hid fin
  clear fin
  go_enter Try.func33, Try.ntmps33
  cases b0
  · go_wp2_with fail
    with_reducible refine Calls.mono CC.out ?_
    rintro e w1 ⟨vb', rfl, ho, hk⟩
    obtain ⟨A9, c9, rfl⟩ := ho.shape
    have T := Lib.hid (Q.out.go hk)
    have z1 := (T.out.bt 0 (by omega)); have z2 := (T.out.lt 0 (by omega)); have z3 := (T.out.kt 0 (by omega))
    have y1 := T.out.b0; have y2 := T.out.l0; have y3 := T.out.k0
    have z1f := z1.2; have z2f := z2.2; have z3f := z3.2
    clear z1 z2 z3 CC
    go_wp2_with fail
    first
      | go_end0
      | ((try simp only [Exit.inBlock, Exit.then]); refine bodyPost_ret (results_none rfl _ _ _) rfl ?_)
    exact Fin.out _ hk _ ho
  · have hlt := hc rfl
    go_wp2_with fail
    with_reducible refine Calls.mono CC.out ?_
    rintro e w1 ⟨vb', rfl, ho, hk⟩
    obtain ⟨A9, c9, rfl⟩ := ho.shape
    have T := Lib.hid (Q.out.go hk)
    have z1 := (T.out.bt 0 (by omega)); have z2 := (T.out.lt 0 (by omega)); have z3 := (T.out.kt 0 (by omega))
    have y1 := T.out.b0; have y2 := T.out.l0; have y3 := T.out.k0
    have z1f := z1.2; have z2f := z2.2; have z3f := z3.2
    clear z1 z2 z3 CC
    go_wp2_with fail
    first
      | go_end0
      | ((try simp only [Exit.inBlock, Exit.then]); refine bodyPost_ret (results_none rfl _ _ _) rfl ?_)
    exact Fin.out _ hk _ ho
set_option maxRecDepth 100000 in
set_option maxHeartbeats 1000000 in
theorem whEnd_old (w0 w : World) (h H X : Nat) (u v vS vF : Value) (A2 : Option Addr) (n2 c2 g M cl gl cll : Nat) (vb : Value) (begun xs l : List Int) (cost c0 : Int) (hc : c0 ≤ cost)
    (q : WhS w0 w h H X u v (.slice A2 n2 c2) vS vF g M cl (.slice (some ⟨gl, 0, none⟩) n2 cll) vb begun xs l c0 true) :
    Calls Try.prog 33 #[.int .i64 (n2 : Int), .int .i64 cost, .pointer (some ⟨h + 1, 0, none⟩), .pointer (some ⟨H + 2, 0, none⟩), .pointer (some ⟨H + 1, 0, none⟩), .pointer (some ⟨X, 0, none⟩), .pointer (some ⟨H, 0, none⟩), .pointer (some ⟨h + 2, 0, none⟩), .pointer (some ⟨X + 1, 0, none⟩), .pointer (some ⟨X + 2, 0, none⟩), .pointer (some ⟨h, 0, none⟩)] w
      (WhPost w0 h H X u v (.slice A2 n2 c2) vS vF g M cl n2 begun xs (some (l, c0))) := by
  have Fin := Lib.hid (show WhPost w0 h H X u v (.slice A2 n2 c2) vS vF g M cl n2 begun xs (some (l, c0)) (.returned (.tuple #[])) w from ⟨rfl, gl, cll, vb, q⟩)
  have x1 := q.n0; have x2 := q.k0; have x3 := q.l0; have x4 := q.i0
  clear q
  go_enter Try.func33, Try.ntmps33
  go_wp2_with fail
  first
    | go_end0
    | ((try simp only [Exit.inBlock, Exit.then]); refine bodyPost_ret (results_none rfl _ _ _) rfl ?_)
  exact Fin.out
end Go.Proofs.Ytgdicmeabppngaa

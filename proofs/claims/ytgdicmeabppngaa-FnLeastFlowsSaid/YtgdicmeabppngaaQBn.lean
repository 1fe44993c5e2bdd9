/- WholeFlow: the reference's search. No condition. -/
import Derived.Test.YtgdicmeabppngaaQAw
import Derived.Test.YtgdicmeabppngaaQAs
import Derived.Test.YtgdicmeabppngaaQAx
namespace Go.Proofs.Ytgdicmeabppngaa
open Go.RowKit Go.Sort

def whV1 : Option (List Int × Int) → List Int
  | none => []
  | some (l, _) => l
def whV2 : Option (List Int × Int) → Int
  | none => 0
  | some (_, c) => c
def whV3 : Option (List Int × Int) → Bool
  | none => false
  | some _ => true
theorem whAdd_bd {F : Fld} {needs : List Int} (hg : goodF F = true) (hn : ∀ x, 0 ≤ lget needs x ∧ lget needs x ≤ 5) (j : Nat) (a : Int) : 0 ≤ whAdd F needs j a ∧ whAdd F needs j a ≤ 495 := by
  have h1 := hn j
  have h2 : 0 ≤ dAt F j a ∧ dAt F j a ≤ 99 := by
    by_cases hj : j < F.di.length
    · exact dAt_bd hg hj a
    · unfold dAt; simp [List.getD, show F.di.length ≤ j by omega]
  unfold whAdd
  exact prod_bd h1.1 h1.2 h2.1 h2.2
/-- What kind of block it is. -/
def TyAt (w : World) (b : Nat) (t : TypeId) : Prop := ∃ cur, w.heap[b]? = some (.cells cur t (0, 0))
theorem TyAt.turn {S : Nat → Prop} {w w' : World} {b : Nat} {t : TypeId} (h : TyAt w b t) (ht : Turn S w w') (hs : ¬ S b) : TyAt w' b t := by
  obtain ⟨cur, e⟩ := h
  exact ⟨cur, by rw [ht.block b (Array.getElem?_eq_some_iff.1 e).1 hs]; exact e⟩
theorem TyAt.kp {w w' : World} {b : Nat} {t : TypeId} (h : TyAt w b t) (hk : Kp w w') : TyAt w' b t := h.turn (Turn.of_kp (S := fun _ => False) hk) (fun e => e)
theorem TyAt.cells (b : Nat) (t : TypeId) : ∀ (vs : List Value) (o : Nat) (w : World), TyAt w b t → TyAt (w.setCells b o vs) b t
  | [], _, _, h => h
  | v :: r, o, w, h => by
    obtain ⟨cur, e⟩ := h
    exact TyAt.cells b t r (o + 1) _ ⟨_, heap_setCell_same w b o cur t v e⟩
theorem TyAt.new (w : World) (cur : Array Value) (t : TypeId) {b : Nat} (hb : w.heap.size = b) : TyAt (w.alloc (.cells cur t)) b t := by
  subst hb
  exact ⟨cur, Array.getElem?_push_size⟩
theorem Own.ne_ty {w : World} {base g b : Nat} {v : Value} {xs : List Int} {t : TypeId} (h : Own w base v xs) (ht : TyAt w b t) (hne : 3 ≠ t) (hv : v.ownBlock = some g) : g ≠ b := by
  rcases h.2 with ⟨rfl, _⟩ | ⟨g1, _, cur, rfl, _, hg, _⟩
  · simp [Value.ownBlock] at hv
  · obtain ⟨cur2, e2⟩ := ht
    simp only [Value.ownBlock, Option.some.injEq] at hv
    subst hv
    intro e
    subst e
    rw [hg] at e2
    simp at e2
    exact hne e2.2
/-- While the reference tries the sites. -/
structure GvS (w wr : World) (base : Nat) (u v vs : Value) (l : List Int) (c0 : Int) (b0 : Bool) : Prop where
  f : wr.rangeAt w.heap.size 0 [u, v]
  own : Own wr base vs l
  rg : wr.rangeAt (w.heap.size + 1) 0 [vs, .int .i64 c0, .bool b0]
  bt : wr.there (w.heap.size + 1) 0 3
  rt : wr.there (w.heap.size + 1 + 1) 0 3
  t1 : TyAt wr (w.heap.size + 1) 62
  t2 : TyAt wr (w.heap.size + 1 + 1) 62
  kp : Kp w wr
section
variable {w wr wr' : World} {base : Nat} {u v vs : Value} {l : List Int} {c0 : Int} {b0 : Bool}
theorem GvS.go (h : GvS w wr base u v vs l c0 b0) (hk : Kp wr wr') : GvS w wr' base u v vs l c0 b0 :=
  ⟨range_kp h.f hk, h.own.kp hk, range_kp h.rg hk, there_kp h.bt hk, there_kp h.rt hk, h.t1.kp hk, h.t2.kp hk, h.kp.trans hk⟩
theorem GvS.fld (h : GvS w wr base u v vs l c0 b0) : wr.cell? ⟨w.heap.size, 0, none⟩ = some u ∧ wr.cell? ⟨w.heap.size, 1, none⟩ = some v := ⟨h.f 0 _ rfl, h.f 1 _ rfl⟩
theorem GvS.best (h : GvS w wr base u v vs l c0 b0) : wr.cell? ⟨w.heap.size + 1, 0, none⟩ = some vs ∧ wr.cell? ⟨w.heap.size + 1, 1, none⟩ = some (.int .i64 c0) ∧ wr.cell? ⟨w.heap.size + 1, 2, none⟩ = some (.bool b0) := ⟨h.rg 0 _ rfl, h.rg 1 _ rfl, h.rg 2 _ rfl⟩
theorem GvS.frz (h : GvS w wr base u v vs l c0 b0) : wr.frozen? ⟨w.heap.size + 1, 0, none⟩ = false ∧ wr.frozen? ⟨w.heap.size + 1, 1, none⟩ = false ∧ wr.frozen? ⟨w.heap.size + 1, 2, none⟩ = false := ⟨(h.bt 0 (by omega)).2, (h.bt 1 (by omega)).2, (h.bt 2 (by omega)).2⟩
theorem GvS.set (h : GvS w wr base u v vs l c0 b0) {w1 : World} (hk : Kp wr w1) {vs' : Value} {l' : List Int} (ho : Own w1 base vs' l') (c' : Int) (b' : Bool) : GvS w (w1.setCells (w.heap.size + 1) 0 [vs', .int .i64 c', .bool b']) base u v vs' l' c' b' := by
  have htn := turn_setCells (w.heap.size + 1) [vs', .int .i64 c', .bool b'] 0 w1
  have g := h.go hk
  exact ⟨htn.range g.f (by omega), ho.turn htn (fun k hk e => Own.ne_ty ho g.t1 (by decide) hk e), World.rangeAt_setCells_same w1 (w.heap.size + 1) 0 _ g.bt, World.there_setCells g.bt _ _ _, htn.there g.rt (by omega), TyAt.cells _ _ _ _ _ g.t1, g.t2.turn htn (by omega), g.kp.turn htn (fun k e => by omega)⟩
/-- The result is stored. -/
theorem GvS.ret (h : GvS w wr base u v vs l c0 b0) (x y z : Value) {vo : Value} {lo : List Int} (ho : Own wr base vo lo) : (wr.setCells (w.heap.size + 1 + 1) 0 [x, y, z]).cell? ⟨w.heap.size + 1 + 1, 0, none⟩ = some x ∧ (wr.setCells (w.heap.size + 1 + 1) 0 [x, y, z]).cell? ⟨w.heap.size + 1 + 1, 1, none⟩ = some y ∧ (wr.setCells (w.heap.size + 1 + 1) 0 [x, y, z]).cell? ⟨w.heap.size + 1 + 1, 2, none⟩ = some z ∧ Own (wr.setCells (w.heap.size + 1 + 1) 0 [x, y, z]) base vo lo ∧ Kp w (wr.setCells (w.heap.size + 1 + 1) 0 [x, y, z]) := by
  have htn := turn_setCells (w.heap.size + 1 + 1) [x, y, z] 0 wr
  have hr := World.rangeAt_setCells_same wr (w.heap.size + 1 + 1) 0 [x, y, z] h.rt
  exact ⟨hr 0 _ rfl, hr 1 _ rfl, hr 2 _ rfl, ho.turn htn (fun k hk e => Own.ne_ty ho h.t2 (by decide) hk e), h.kp.turn htn (fun k e => by omega)⟩
end
theorem gv_new {w : World} {base : Nat} {A B : Option Addr} {c d n m : Nat} {vs : Value} {l : List Int} {c0 : Int} {b0 : Bool} (h : Own w base vs l) :
    GvS w (((w.alloc (.cells #[.slice A n c, .slice B m d] 27)).alloc (.cells #[vs, .int .i64 c0, .bool b0] 62)).alloc (.cells #[.slice none 0 0, .int .i64 0, .bool false] 62)) base (.slice A n c) (.slice B m d) vs l c0 b0 := by
  have hk : Kp w (((w.alloc (.cells #[.slice A n c, .slice B m d] 27)).alloc (.cells #[vs, .int .i64 c0, .bool b0] 62)).alloc (.cells #[.slice none 0 0, .int .i64 0, .bool false] 62)) := (((Kp.refl w).alloc _).alloc _).alloc _
  exact ⟨World.rangeAt_alloc (World.rangeAt_alloc (range_new' _ [.slice A n c, .slice B m d] _ rfl) _) _, h.kp hk, World.rangeAt_alloc (range_new' _ [vs, .int .i64 c0, .bool b0] _ (by simp only [World.size_alloc])) _, World.there_alloc (there_new' _ _ _ (by simp only [World.size_alloc])) _, there_new' _ _ _ (by simp only [World.size_alloc]),
    (TyAt.new _ _ _ (by simp only [World.size_alloc])).kp ((Kp.refl _).alloc _), TyAt.new _ _ _ (by simp only [World.size_alloc]), hk⟩
set_option maxRecDepth 100000 in
set_option maxHeartbeats 1000000 in
/-- A list that costs no less than the best one is given up. -/
theorem give_cut (F : Fld) (x1 x2 x3 x4 : Value) (cost : Int) (l : List Int) (c0 : Int) (hc : c0 ≤ cost) (f vs : Value) (base : Nat) (w : World) (hf : FldAt w f F) (hs : Own w base vs l) :
    Calls Try.prog 34 #[f, x1, x2, x3, x4, .int .i64 cost, .agg #[vs, .int .i64 c0, .bool true]] w fun e w' =>
      ∃ v, e = .returned (.agg #[v, .int .i64 c0, .bool true]) ∧ Own w' base v l ∧ Kp w w' := by
  obtain ⟨A, c, B, d, rfl, hA, hB⟩ := id hf
  obtain ⟨As, cs, rfl⟩ := hs.shape
  have hst := gv_new (A := A) (B := B) (c := c) (d := d) (n := F.op.length) (m := F.di.length) (c0 := c0) (b0 := true) hs
  have HS := Lib.hid hst
  obtain ⟨q0, q1, q2⟩ := hst.best
  clear hst hA hB hf hs
  go_enter Try.func34, Try.ntmps34
  go_wp2_with (first | (refine wpList_store_mid rfl 62 (.tmp 14) (.tmp 27) rfl (w.heap.size + 1 + 1) 0 #[.slice As l.length cs, .int .i64 c0, .bool true] rfl rfl HS.out.rt (by kernel_rfl) (by simp [Value.oneCell']) ?_) | fail)
  obtain ⟨z0, z1, z2, z3, z4⟩ := HS.out.ret (.slice As l.length cs) (.int .i64 c0) (.bool true) HS.out.own
  exact bodyPost_ret (v := .agg #[.slice As l.length cs, .int .i64 c0, .bool true]) (by simp [results, Try.results34, go_sem, z0, z1, z2]) rfl ⟨_, rfl, z3, z4⟩
set_option maxRecDepth 100000 in
set_option maxHeartbeats 1000000 in
/-- All clients have their sites. -/
theorem give_end (F : Fld) (x1 x2 x3 vb : Value) (begun : List Int) (cost : Int) (l : List Int) (c0 : Int) (b0 : Bool) (hc : b0 = true → cost < c0) (f vs : Value) (base : Nat) (w : World) (hf : FldAt w f F) (hs : Own w base vs l) (hb : Own w base vb begun) (hn : begun.length = F.di.length) :
    Calls Try.prog 34 #[f, x1, x2, x3, vb, .int .i64 cost, .agg #[vs, .int .i64 c0, .bool b0]] w fun e w' =>
      ∃ v, e = .returned (.agg #[v, .int .i64 cost, .bool true]) ∧ Own w' base v begun ∧ Kp w w' := by
  obtain ⟨A, c, B, d, rfl, hA, hB⟩ := id hf
  obtain ⟨As, cs, rfl⟩ := hs.shape
  obtain ⟨Ab, cb, rfl⟩ := hb.shape
  have hst := gv_new (A := A) (B := B) (c := c) (d := d) (n := F.op.length) (m := F.di.length) (c0 := c0) (b0 := b0) hs
  have HS := Lib.hid hst
  have Hb := Lib.hid (hb.kp hst.kp)
  obtain ⟨q0, q1, q2⟩ := hst.best
  obtain ⟨f0, f1⟩ := hst.fld
  rw [hn] at *
  clear hst hA hB hf hs hb
  go_enter Try.func34, Try.ntmps34
  cases b0
  · go_wp2_with (first | (refine wpList_store_mid rfl 62 (.tmp 14) (.tmp 36) rfl (w.heap.size + 1 + 1) 0 #[.slice Ab F.di.length cb, .int .i64 cost, .bool true] rfl rfl HS.out.rt (by kernel_rfl) (by simp [Value.oneCell']) ?_) | fail)
    obtain ⟨z0, z1, z2, z3, z4⟩ := HS.out.ret (.slice Ab F.di.length cb) (.int .i64 cost) (.bool true) Hb.out
    exact bodyPost_ret (v := .agg #[.slice Ab F.di.length cb, .int .i64 cost, .bool true]) (by simp [results, Try.results34, go_sem, z0, z1, z2]) rfl ⟨_, rfl, z3, z4⟩
  · have hlt := hc rfl
    go_wp2_with (first | (refine wpList_store_mid rfl 62 (.tmp 14) (.tmp 36) rfl (w.heap.size + 1 + 1) 0 #[.slice Ab F.di.length cb, .int .i64 cost, .bool true] rfl rfl HS.out.rt (by kernel_rfl) (by simp [Value.oneCell']) ?_) | fail)
    obtain ⟨z0, z1, z2, z3, z4⟩ := HS.out.ret (.slice Ab F.di.length cb) (.int .i64 cost) (.bool true) Hb.out
    exact bodyPost_ret (v := .agg #[.slice Ab F.di.length cb, .int .i64 cost, .bool true]) (by simp [results, Try.results34, go_sem, z0, z1, z2]) rfl ⟨_, rfl, z3, z4⟩
theorem keept5 {b : Nat} {wv w' : World} {p0 p1 p2 p3 p4 : Addr} {v0 v1 v2 v3 v4 : Value} (h0 : wv.cell? p0 = some v0) (h1 : wv.cell? p1 = some v1) (h2 : wv.cell? p2 = some v2) (h3 : wv.cell? p3 = some v3) (h4 : wv.cell? p4 = some v4)
    (n0 : p0.block ≠ b) (n1 : p1.block ≠ b) (n2 : p2.block ≠ b) (n3 : p3.block ≠ b) (n4 : p4.block ≠ b) (ht : Turn (fun i => i = b) wv w') : w'.cell? p0 = some v0 ∧ w'.cell? p1 = some v1 ∧ w'.cell? p2 = some v2 ∧ w'.cell? p3 = some v3 ∧ w'.cell? p4 = some v4 ∧ Turn (fun i => i = b) wv w' :=
  ⟨ht.get h0 n0, ht.get h1 n1, ht.get h2 n2, ht.get h3 n3, ht.get h4 n4, ht⟩
theorem dist_old {F : Fld} (hg : goodF F = true) {w w' : World} {bd ar : Addr} {i cr a : Nat} (h : GridAt w (some bd) F.di) (hi : i < F.di.length) (hk : Kp w w') (hc : w'.cell? (bd.add i) = some (.slice (some ar) F.op.length cr)) (ha : a < F.op.length) : (w.cell? (bd.add i)).isSome = true ∧ (w.cell? (ar.add a)).isSome = true := by
  obtain ⟨bd', ar', cr', e, h1, h2⟩ := dist_row hg h hi
  obtain rfl : bd = bd' := by simpa using e
  have := hk.get h1
  rw [hc] at this
  simp at this
  obtain ⟨rfl, _⟩ := this
  exact ⟨by rw [h1]; rfl, by rw [h2 a ha]; rfl⟩
theorem lt_isSome {w : World} {p : Addr} (h : (w.cell? p).isSome = true) : p.block < w.heap.size := by
  obtain ⟨v, e⟩ := Option.isSome_iff_exists.1 h
  exact World.block_lt_of_cell? _ _ e
set_option maxRecDepth 100000 in
set_option maxHeartbeats 4000000 in
theorem l7Give_any (F : Fld) (rooms needs S : List Int) (hP : HaulP F rooms needs S) (A2 : Option Addr) (n2 c2 : Nat) (A3 : Option Addr) (n3 c3 : Nat) (hn2 : needs.length = n2) (hn3 : S.length = n3) : ∀ (n : Nat) (f : Value) (A1 : Option Addr) (xs : List Int) (c1 : Nat) (vb : Value) (begun : List Int) (cost : Int) (best : Option (List Int × Int)) (vs : Value) (base : Nat) (w : World), FldAt w f F → IntsAt w A1 xs → xs.length = F.op.length → IntsAt w A2 needs → IntsAt w A3 S →
    Own w base vb begun → Own w base vs (whV1 best) → base ≤ w.heap.size → begun.length + n = F.di.length → 0 ≤ cost → cost + 495 * (n : Int) ≤ 1000000 → WhOk F.di.length best → (∀ a, 0 ≤ lget xs a ∧ lget xs a ≤ 20) →
    Calls Try.prog 34 #[f, .slice A1 F.op.length c1, .slice A2 n2 c2, .slice A3 n3 c3, vb, .int .i64 cost, .agg #[vs, .int .i64 (whV2 best), .bool (whV3 best)]] w fun e w' =>
      ∃ v, e = .returned (.agg #[v, .int .i64 (whV2 (whGo F needs S true n (lget xs) begun cost best)), .bool (whV3 (whGo F needs S true n (lget xs) begun cost best))]) ∧ Own w' base v (whV1 (whGo F needs S true n (lget xs) begun cost best)) ∧ Kp w w' := by
  intro n
  induction n with
  | zero =>
    intro f A1 xs c1 vb begun cost best vs base w hf h1 hn1 h2 h3 hb hs hbase hkn hc0 hc1 hok hx
    cases best with
    | none => exact give_end F _ _ _ vb begun cost [] 0 false (fun h => by cases h) f vs base w hf hs hb (by omega)
    | some p =>
      obtain ⟨l, c0⟩ := p
      by_cases hcc : c0 ≤ cost
      · rw [whGo_cut hcc]
        exact give_cut F _ _ _ _ cost l c0 hcc f vs base w hf hs
      · have e : whGo F needs S true 0 (lget xs) begun cost (some (l, c0)) = some (begun, cost) := by
          show (if c0 ≤ cost then some (l, c0) else some (begun, cost)) = _
          rw [if_neg hcc]
        rw [e]
        exact give_end F _ _ _ vb begun cost l c0 true (fun _ => by omega) f vs base w hf hs hb (by omega)
  | succ n ih =>
    intro f A1 xs c1 vb begun cost best vs base w hf h1 hn1 h2 h3 hb hs hbase hkn hc0 hc1 hok hx
    by_cases hcut : ∃ l c0, best = some (l, c0) ∧ c0 ≤ cost
    · obtain ⟨l, c0, rfl, hcc⟩ := hcut
      rw [whGo_cut hcc]
      exact give_cut F _ _ _ _ cost l c0 hcc f vs base w hf hs
    rw [whGo_yes (fun l c e => Int.not_le.1 (fun hle => hcut ⟨l, c, e, hle⟩))]
    have hcb : whV3 best = true → cost < whV2 best := by
      intro hv
      cases best with
      | none => cases hv
      | some p => exact Int.not_le.1 (fun hle => hcut ⟨p.1, p.2, rfl, hle⟩)
    have IH := Lib.hid ih
    have HP := Lib.hid hP
    obtain ⟨T, HT⟩ : ∃ T : Nat → Option (List Int × Int), Hid (∀ k, whTo F needs S true n (lget xs) begun cost best k = T k) := ⟨_, fun k => rfl⟩
    rw [show whTo F needs S true n (lget xs) begun cost best S.length = T n3 from by rw [HT.out, hn3]]
    have HT0 : Hid (T 0 = best) := (HT.out 0).symm
    obtain ⟨A, c, B, d, rfl, hA, hB⟩ := id hf
    obtain ⟨As, cs, rfl⟩ := hs.shape
    obtain ⟨Ab, cb, rfl⟩ := hb.shape
    have h7 := (goodF_iff.1 hP.good).1
    have h8 := (goodF_iff.1 hP.good).2.2.1
    have hst := gv_new (A := A) (B := B) (c := c) (d := d) (n := F.op.length) (m := F.di.length) (c0 := whV2 best) (b0 := whV3 best) hs
    have HS := Lib.hid hst
    obtain ⟨q0, q1, q2⟩ := hst.best
    obtain ⟨f0, f1⟩ := hst.fld
    have Hf := Lib.hid hf; have H1 := Lib.hid h1; have H2 := Lib.hid h2; have H3 := Lib.hid h3; have Hb := Lib.hid hb; have HB := Lib.hid hB
    have Hn1 := Lib.hid hn1; have Hn2 := Lib.hid hn2; have Hn3 := Lib.hid hn3; have Hok := Lib.hid hok; have Hx := Lib.hid hx; have Hc0 := Lib.hid hc0; have Hc1 := Lib.hid hc1; have Hkn := Lib.hid hkn; have Hbase := Lib.hid hbase; have Hcb := Lib.hid hcb
    have hm3 : n3 ≤ 9223372036854775807 := hn3 ▸ h3.1
    obtain ⟨k, Hk⟩ : ∃ k, Hid (begun.length = k) := ⟨_, rfl⟩
    have hkJ : k < F.di.length := by have := Hk.out; omega
    have hkJb : ((k : Int) == (F.di.length : Int)) = false := by rw [beq_eq_false_iff_ne]; omega
    have hne : ¬ ((k : Int) = (F.di.length : Int)) := by omega
    rw [Hk.out] at Hb Hkn ⊢
    obtain ⟨c0, Hc⟩ : ∃ c0, Hid (whV2 best = c0) := ⟨_, rfl⟩
    obtain ⟨b0, Hb0⟩ : ∃ b0, Hid (whV3 best = b0) := ⟨_, rfl⟩
    rw [Hc.out] at q1 HS hcb ⊢
    rw [Hb0.out] at q2 HS hcb ⊢
    clear hst hf h1 h2 h3 hb hs hA hB hP ih hn1 hn2 hn3 hok hx hc0 hc1 hkn hbase hcut
    go_enter Try.func34, Try.ntmps34
    cases b0
    · clear hcb
      go_wp2_with fail
      go_loopw [16] (fun iv wr => ∃ (i : Nat) (vs : Value), i ≤ n3 ∧ iv = .int .i64 i ∧ GvS w wr base (.slice A F.op.length c) (.slice B F.di.length d) vs (whV1 (T i)) (whV2 (T i)) (whV3 (T i)) ∧ Hid (WhOk F.di.length (T i))) (fun iv _ => n3 - (intOf iv).toNat)
      case atStart => exact ⟨0, _, by omega, rfl, by rw [HT0.out, Hc.out, Hb0.out]; exact HS.out, by rw [HT0.out]; exact Hok⟩
      case round =>
        clear HS HT0 q0 q1 q2 f0 f1
        obtain ⟨i, vs, hi, rfl, hst, HOk⟩ := hrel
        obtain ⟨f0, f1⟩ := hst.fld
        by_cases hli : i < n3
        · have lx : i < S.length := by rw [Hn3.out]; exact hli
          obtain ⟨ad3, rfl, hd3⟩ := (H3.out.kp hst.kp).at_ lx
          have hmem := set_mem HP.out.set_ _ (List.getElem_mem lx)
          obtain ⟨s, hs⟩ := Int.eq_ofNat_of_zero_le hmem.1
          have hsM : s < F.op.length := by omega
          have hsI : (s : Int) < (F.op.length : Int) := by omega
          have lr : s < xs.length := by rw [Hn1.out]; exact hsM
          obtain ⟨ad1, rfl, hd1⟩ := (H1.out.kp hst.kp).at_ lr
          rw [← lget_at lr] at hd1
          have ln : k < needs.length := by rw [HP.out.nl]; exact hkJ
          obtain ⟨ad2, rfl, hd2⟩ := (H2.out.kp hst.kp).at_ ln
          rw [← lget_at ln] at hd2
          have hz5 := H2.out.some_ ln
          have hTs := HT.out (i + 1)
          rw [whTo_succ lx, HT.out i, hs, Int.toNat_natCast, Hk.out] at hTs
          rw [hs] at hd3
          have hliI : (i : Int) < (n3 : Int) := by omega
          have hk2 : (k : Int) < (n2 : Int) := by rw [← Hn2.out]; omega
          obtain ⟨bd, ar, cr, rfl, hr1, hr2⟩ := dist_row HP.out.good (HB.out.kp hst.kp) hkJ
          have hr3 := hr2 s hsM
          have hz := dist_old HP.out.good HB.out hkJ hst.kp hr1 hsM
          obtain ⟨hz6, hz7⟩ := hz
          have b1 := HP.out.nb k
          have b2 := Hx.out s
          have b3 := dAt_bd HP.out.good hkJ (s : Int)
          have b4 : 0 ≤ lget needs k * dF F k s ∧ lget needs k * dF F k s ≤ 495 := prod_bd b1.1 b1.2 b3.1 b3.2
          obtain ⟨rv, Hrv⟩ : ∃ z, Hid (lget xs s = z) := ⟨_, rfl⟩
          obtain ⟨nv, Hnv⟩ : ∃ z, Hid (lget needs k = z) := ⟨_, rfl⟩
          obtain ⟨dv, Hdv⟩ : ∃ z, Hid (dF F k s = z) := ⟨_, rfl⟩
          rw [Hrv.out] at hd1 hTs b2
          rw [Hnv.out] at hd2 hTs b1 b4
          rw [Hdv.out] at hr3 b4
          have hTs2 := Lib.hid hTs
          have HST := Lib.hid hst
          clear hr2 hTs hmem hs hst b3
          by_cases hlt : rv < nv
          · have HTn : Hid (T (i + 1) = T i) := by show _ = _; rw [← hTs2.out, if_pos hlt]
            have HS2 := Lib.hid (HST.out.go (Kp.refl _).drew)
            clear hTs2
            go_wp2_with fail
            go_region
            (try go_wp2_with fail)
            go_roundw
            case rel => exact ⟨i + 1, _, by omega, by go_num, by rw [HTn.out]; first | exact HS2.out | exact HST.out, by rw [HTn.out]; exact HOk⟩
            case measure => simp [intOf]; omega
          · have HTn : Hid (T (i + 1) = whGo F needs S true n (upd (lget xs) s (rv - nv)) (begun ++ [(s : Int)]) (cost + whAdd F needs k s) (T i)) := by show _ = _; rw [← hTs2.out, if_neg hlt]
            have hge : nv ≤ rv := by omega
            have C0 := Lib.hid (fun (wx : World) (hx : Kp w wx) => l1Own_all (some ad1) xs F.op.length c1 wx (H1.out.kp hx) Hn1.out (by omega))
            have hw0 := HST.out.kp
            clear hTs2 hlt
            obtain ⟨wo, rfl⟩ : ∃ wo : World, wo = wr := ⟨_, rfl⟩
            go_wp2_with fail
            go_region
            go_wp2_with fail
            with_reducible refine Calls.mono (C0.out _ (by repeat (first | with_reducible assumption | with_reducible exact Kp.refl _ | with_reducible refine Kp.drew ?_ | with_reducible refine Kp.alloc ?_ _ | with_reducible refine Kp.drewN ?_ _ | refine Kp.setCell ?_ (by dsimp only; omega) _))) ?_
            rintro e w1 ⟨lA, lc, rfl, hown, hk1⟩
            obtain ⟨g, cl, e7⟩ := hown.at0 Hn1.out (by omega)
            obtain ⟨rfl, -, rfl⟩ : lA = some ⟨g, 0, none⟩ ∧ F.op.length = F.op.length ∧ lc = cl := by simpa using e7
            clear e7 C0
            have hko : Kp wo w1 := Kp.trans (by first | exact (Kp.refl _).drew | exact Kp.refl _) hk1
            obtain ⟨t1, t1f, t1p⟩ := hown.slotL Hn1.out hsM
            rw [Hrv.out] at t1
            obtain ⟨s1, s2⟩ := t1p (rv - nv)
            have Hs1 := Lib.hid s1
            have Hlt := Lib.hid (hown.lt g rfl).1
            have x2 := hko.get hd2
            have ad : (⟨g, 0, none⟩ : Addr).add s = ⟨g, s, none⟩ := add0 _ _
            clear t1p s1 s2 hown
            go_wp2_with fail
            go_region
            (try go_wp2_with fail)
            have hkz : Kp wo (w1.setCell ⟨g, s, none⟩ (.int .i64 (rv - nv))).drew := (hko.setCell (p := ⟨g, s, none⟩) Hlt.out (.int .i64 (rv - nv))).drew
            have HL := Lib.hid (Hs1.out.kp (Kp.refl _).drew)
            clear t1 t1f x2 ad Hs1 Hlt hko hk1
            generalize (w1.setCell ⟨g, s, none⟩ (.int .i64 (rv - nv))).drew = w2 at *
            have hwz : Kp w w2 := hw0.trans hkz
            have HS2 := Lib.hid (HST.out.go hkz)
            obtain ⟨vA, vc, rfl⟩ := HS2.out.own.shape
            have HT2 : Hid (T (i + 1) = whGo F needs S true n (lget (xs.set s (rv - nv))) (begun ++ [(s : Int)]) (cost + nv * dv) (T i)) := by
              show _ = _
              rw [HTn.out, show whAdd F needs k (s : Int) = nv * dv from by unfold whAdd; rw [Hnv.out]; exact congrArg _ Hdv.out, show lget (xs.set s (rv - nv)) = upd (lget xs) s (rv - nv) from by funext a; rw [lget_set lr]; rfl]
            have hcl := Hc0.out
            have hch := Hc1.out
            push_cast at hch
            have hch2 : cost + nv * dv + 495 * (n : Int) ≤ 1000000 := by omega
            have hch3 : cost ≤ 1000000 := by omega
            have hch4 : cost + nv * dv ≤ 1000000 := by omega
            have hsz2 := hwz.le
            have hbs := Hbase.out
            have hkn := Hkn.out
            have C2 := Lib.hid (fun (wx : World) (hx : Kp w2 wx) => l1Own_all Ab begun k cb wx ((Hb.out.intsOf (by rw [Hk.out]; omega)).kp (hwz.trans hx)) Hk.out (by omega))
            have C3 := Lib.hid (fun (wx : World) (hx : Kp w2 wx) (vb : Value) (ho : Own wx w2.heap.size vb (begun ++ [(s : Int)])) => IH.out (.agg #[.slice A F.op.length c, .slice (some bd) F.di.length d]) (some ⟨g, 0, none⟩) (xs.set s (rv - nv)) lc vb (begun ++ [(s : Int)]) (cost + nv * dv) (T i) (.slice vA (whV1 (T i)).length vc) base wx (Hf.out.kp (hwz.trans hx)) ((HL.out.intsOf (by rw [List.length_set, Hn1.out]; omega)).kp hx) (by rw [List.length_set]; exact Hn1.out) (H2.out.kp (hwz.trans hx)) (H3.out.kp (hwz.trans hx)) (ho.mono (by omega)) (HS2.out.own.kp hx) (by have := hx.le; omega) (by rw [List.length_append, Hk.out]; simp; omega) (by omega) hch2 HOk.out (fun a => by
              rw [lget_set lr]
              by_cases e : a = s
              · rw [if_pos e]; omega
              · rw [if_neg e]; exact Hx.out a))
            rw [← HT2.out] at C3
            have Hwr : Hid (IntKind.i64.wrap (cost + IntKind.i64.wrap (nv * dv)) = cost + nv * dv) := by
              show _ = _
              rw [IntWalk.i64_in (nv * dv) (by omega)]
              exact IntWalk.i64_in _ (by omega)
            rw [← Hwr.out] at C3
            have e0 := hkz.get f0
            have e1 := hkz.get f1
            have e2 := HS2.out.best.1
            have e3 := HS2.out.best.2.1
            have e4 := HS2.out.best.2.2
            have e5 := hkz.get hd2
            have e6 := hkz.get hr1
            have e7 := hkz.get hr3
            have hlen2 : begun.length < 1048576 := by rw [Hk.out]; omega
            clear f0 f1 hd1 hd2 hd3 hr1 hr3 hw0 HTn hch
            have HFz := Lib.hid (fun (wx : World) (hx : Kp w2 wx) => (HS2.out.go hx).frz)
            have hkc : Kp w2 w2 := Kp.refl _
            have n5 : (ad2.add k).block ≠ w.heap.size + 1 := by have := World.block_lt_of_cell? _ _ (hz5); omega
            have n6 : (bd.add k).block ≠ w.heap.size + 1 := by have := lt_isSome hz6; omega
            have n7 : (ar.add s).block ≠ w.heap.size + 1 := by have := lt_isSome hz7; omega
            have n0 : (⟨w.heap.size, 0, none⟩ : Addr).block ≠ w.heap.size + 1 := by show w.heap.size ≠ _; omega
            have n1 : (⟨w.heap.size, 1, none⟩ : Addr).block ≠ w.heap.size + 1 := by show w.heap.size ≠ _; omega
            have kda : Kp w2 (w2.drew.alloc (.cells #[.int .i64 (s : Int)] 3)) := (Kp.refl w2).drew.alloc _
            have kd : Kp w2 w2.drew := (Kp.refl w2).drew
            have p2 := kd.get e2; have p3 := kd.get e3; have p4 := kd.get e4
            have r2 := kda.get e2; have r3 := kda.get e3; have r4 := kda.get e4
            go_wp2_with fail
            refine wp_region_last2 (S := fun w' => w'.cell? ⟨w.heap.size, 0, none⟩ = some (.slice A F.op.length c) ∧ w'.cell? ⟨w.heap.size, 1, none⟩ = some (.slice (some bd) F.di.length d) ∧ w'.cell? ⟨w.heap.size + 1, 0, none⟩ = some (.slice vA (whV1 (T i)).length vc) ∧ w'.cell? ⟨w.heap.size + 1, 1, none⟩ = some (.int .i64 (whV2 (T i))) ∧ w'.cell? ⟨w.heap.size + 1, 2, none⟩ = some (.bool (whV3 (T i))) ∧ w'.cell? (ad2.add k) = some (.int .i64 nv) ∧ w'.cell? (bd.add k) = some (.slice (some ar) F.op.length cr) ∧ w'.cell? (ar.add s) = some (.int .i64 dv) ∧ Kp w2 w') (split_cons (split_cons (split_cons (split_cons (split_cons (split_cons (split_cons (split_cons (split_cons (split_cons (split_cons (split_cons (split_cons (split_cons (split_cons (split_cons (split_cons (split_cons (split_cons (split_cons (split_cons (split_cons (split_cons (split_cons (split_cons (split_cons split_one)))))))))))))))))))))))))) (by kernel_rfl) (by kernel_rfl) ?_
            have hHeld : (fun w' => w'.cell? ⟨w.heap.size, 0, none⟩ = some (.slice A F.op.length c) ∧ w'.cell? ⟨w.heap.size, 1, none⟩ = some (.slice (some bd) F.di.length d) ∧ w'.cell? ⟨w.heap.size + 1, 0, none⟩ = some (.slice vA (whV1 (T i)).length vc) ∧ w'.cell? ⟨w.heap.size + 1, 1, none⟩ = some (.int .i64 (whV2 (T i))) ∧ w'.cell? ⟨w.heap.size + 1, 2, none⟩ = some (.bool (whV3 (T i))) ∧ w'.cell? (ad2.add k) = some (.int .i64 nv) ∧ w'.cell? (bd.add k) = some (.slice (some ar) F.op.length cr) ∧ w'.cell? (ar.add s) = some (.int .i64 dv) ∧ Kp w2 w') w2.drew := by
              (try dsimp only)
              refine keepc8 e0 e1 e2 e3 e4 e5 e6 e7 ?_; exact (by repeat (first | with_reducible assumption | with_reducible exact Kp.refl _ | with_reducible refine Kp.drew ?_ | with_reducible refine Kp.alloc ?_ _ | with_reducible refine Kp.drewN ?_ _ | refine Kp.setCell ?_ (by dsimp only; omega) _))
            refine wpAnyH_take (i := 0) (v := ?_) (at_zero) (by kernel_rfl) (by kernel_rfl) (by kernel_rfl) (fun _ _ _ h => h) (Or.inl ⟨by rfl, ?_⟩) (by assumption) ?_
            rotate_left
            · intro w hSw; (try dsimp only at hSw); go_simp <;> with_reducible rfl
            (try simp only [Act.put, List.setIfInBounds_toArray, List.set_cons_zero, List.set_cons_succ])
            refine wpAnyH_take (i := 1) (v := ?_) (at_succ (at_zero)) (by kernel_rfl) (by kernel_rfl) (by kernel_rfl) (fun _ _ _ h => h) (Or.inl ⟨by rfl, ?_⟩) (by assumption) ?_
            rotate_left
            · intro w hSw; (try dsimp only at hSw); go_simp <;> with_reducible rfl
            (try simp only [Act.put, List.setIfInBounds_toArray, List.set_cons_zero, List.set_cons_succ])
            refine wpAnyH_take (i := 2) (v := ?_) (at_succ (at_succ (at_zero))) (by kernel_rfl) (by kernel_rfl) (by kernel_rfl) (fun _ _ _ h => h) (Or.inl ⟨by rfl, ?_⟩) (by assumption) ?_
            rotate_left
            · intro w hSw; (try dsimp only at hSw); go_simp <;> with_reducible rfl
            (try simp only [Act.put, List.setIfInBounds_toArray, List.set_cons_zero, List.set_cons_succ])
            refine wpAnyH_take (i := 3) (v := ?_) (at_succ (at_succ (at_succ (at_zero)))) (by kernel_rfl) (by kernel_rfl) (by kernel_rfl) (fun _ _ _ h => h) (Or.inl ⟨by rfl, ?_⟩) (by assumption) ?_
            rotate_left
            · intro w hSw; (try dsimp only at hSw); go_simp <;> with_reducible rfl
            (try simp only [Act.put, List.setIfInBounds_toArray, List.set_cons_zero, List.set_cons_succ])
            refine wpAnyH_take (i := 4) (v := ?_) (at_succ (at_succ (at_succ (at_succ (at_zero))))) (by kernel_rfl) (by kernel_rfl) (by kernel_rfl) (fun _ _ _ h => h) (Or.inl ⟨by rfl, ?_⟩) (by assumption) ?_
            rotate_left
            · intro w hSw; (try dsimp only at hSw); go_simp <;> with_reducible rfl
            (try simp only [Act.put, List.setIfInBounds_toArray, List.set_cons_zero, List.set_cons_succ])
            refine wpAnyH_take (i := 6) (v := ?_) (at_succ (at_succ (at_succ (at_succ (at_succ (at_succ (at_zero))))))) (by kernel_rfl) (by kernel_rfl) (by kernel_rfl) (fun _ _ _ h => h) (Or.inl ⟨by rfl, ?_⟩) (by assumption) ?_
            rotate_left
            · intro w hSw; (try dsimp only at hSw); go_simp <;> with_reducible rfl
            (try simp only [Act.put, List.setIfInBounds_toArray, List.set_cons_zero, List.set_cons_succ])
            refine wpAnyH_take (i := 9) (v := ?_) (at_succ (at_succ (at_succ (at_succ (at_succ (at_succ (at_succ (at_succ (at_succ (at_zero)))))))))) (by kernel_rfl) (by kernel_rfl) (by kernel_rfl) (fun _ _ _ h => h) (Or.inl ⟨by rfl, ?_⟩) (by assumption) ?_
            rotate_left
            · intro w hSw; (try dsimp only at hSw); go_simp <;> with_reducible rfl
            (try simp only [Act.put, List.setIfInBounds_toArray, List.set_cons_zero, List.set_cons_succ])
            refine wpAnyH_take (i := 10) (v := ?_) (at_succ (at_succ (at_succ (at_succ (at_succ (at_succ (at_succ (at_succ (at_succ (at_succ (at_zero))))))))))) (by kernel_rfl) (by kernel_rfl) (by kernel_rfl) (fun _ _ _ h => h) (Or.inl ⟨by rfl, ?_⟩) (by assumption) ?_
            rotate_left
            · intro w hSw; (try dsimp only at hSw); go_simp <;> with_reducible rfl
            (try simp only [Act.put, List.setIfInBounds_toArray, List.set_cons_zero, List.set_cons_succ])
            refine wpAnyH_take (i := 11) (v := ?_) (at_succ (at_succ (at_succ (at_succ (at_succ (at_succ (at_succ (at_succ (at_succ (at_succ (at_succ (at_zero)))))))))))) (by kernel_rfl) (by kernel_rfl) (by kernel_rfl) (fun _ _ _ h => h) (Or.inl ⟨by rfl, ?_⟩) (by assumption) ?_
            rotate_left
            · intro w hSw; (try dsimp only at hSw); go_simp <;> with_reducible rfl
            (try simp only [Act.put, List.setIfInBounds_toArray, List.set_cons_zero, List.set_cons_succ])
            refine wpAnyH_take (i := 12) (v := ?_) (at_succ (at_succ (at_succ (at_succ (at_succ (at_succ (at_succ (at_succ (at_succ (at_succ (at_succ (at_succ (at_zero))))))))))))) (by kernel_rfl) (by kernel_rfl) (by kernel_rfl) (fun _ _ _ h => h) (Or.inl ⟨by rfl, ?_⟩) (by assumption) ?_
            rotate_left
            · intro w hSw; (try dsimp only at hSw); go_simp <;> with_reducible rfl
            (try simp only [Act.put, List.setIfInBounds_toArray, List.set_cons_zero, List.set_cons_succ])
            refine wpAnyH_take (i := 13) (v := ?_) (at_succ (at_succ (at_succ (at_succ (at_succ (at_succ (at_succ (at_succ (at_succ (at_succ (at_succ (at_succ (at_succ (at_zero)))))))))))))) (by kernel_rfl) (by kernel_rfl) (by kernel_rfl) (fun _ _ _ h => h) (Or.inl ⟨by rfl, ?_⟩) (by assumption) ?_
            rotate_left
            · intro w hSw; (try dsimp only at hSw); go_simp <;> with_reducible rfl
            (try simp only [Act.put, List.setIfInBounds_toArray, List.set_cons_zero, List.set_cons_succ])
            refine wpAnyH_take (i := 14) (v := ?_) (at_succ (at_succ (at_succ (at_succ (at_succ (at_succ (at_succ (at_succ (at_succ (at_succ (at_succ (at_succ (at_succ (at_succ (at_zero))))))))))))))) (by kernel_rfl) (by kernel_rfl) (by kernel_rfl) (fun _ _ _ h => h) (Or.inl ⟨by rfl, ?_⟩) (by assumption) ?_
            rotate_left
            · intro w hSw; (try dsimp only at hSw); go_simp <;> with_reducible rfl
            (try simp only [Act.put, List.setIfInBounds_toArray, List.set_cons_zero, List.set_cons_succ])
            refine wpAnyH_take (i := 15) (v := ?_) (at_succ (at_succ (at_succ (at_succ (at_succ (at_succ (at_succ (at_succ (at_succ (at_succ (at_succ (at_succ (at_succ (at_succ (at_succ (at_zero)))))))))))))))) (by kernel_rfl) (by kernel_rfl) (by kernel_rfl) (fun _ _ _ h => h) (Or.inl ⟨by rfl, ?_⟩) (by assumption) ?_
            rotate_left
            · intro w hSw; (try dsimp only at hSw); go_simp <;> with_reducible rfl
            (try simp only [Act.put, List.setIfInBounds_toArray, List.set_cons_zero, List.set_cons_succ])
            refine wpAnyH_take (i := 16) (v := ?_) (at_succ (at_succ (at_succ (at_succ (at_succ (at_succ (at_succ (at_succ (at_succ (at_succ (at_succ (at_succ (at_succ (at_succ (at_succ (at_succ (at_zero))))))))))))))))) (by kernel_rfl) (by kernel_rfl) (by kernel_rfl) (fun _ _ _ h => h) (Or.inl ⟨by rfl, ?_⟩) (by assumption) ?_
            rotate_left
            · intro w hSw; (try dsimp only at hSw); go_simp <;> with_reducible rfl
            (try simp only [Act.put, List.setIfInBounds_toArray, List.set_cons_zero, List.set_cons_succ])
            refine wpAnyH_take (i := 17) (v := ?_) (at_succ (at_succ (at_succ (at_succ (at_succ (at_succ (at_succ (at_succ (at_succ (at_succ (at_succ (at_succ (at_succ (at_succ (at_succ (at_succ (at_succ (at_zero)))))))))))))))))) (by kernel_rfl) (by kernel_rfl) (by kernel_rfl) (fun _ _ _ h => h) (Or.inl ⟨by rfl, ?_⟩) (by assumption) ?_
            rotate_left
            · intro w hSw; (try dsimp only at hSw); go_simp <;> with_reducible rfl
            (try simp only [Act.put, List.setIfInBounds_toArray, List.set_cons_zero, List.set_cons_succ])
            refine wpAnyH_take (i := 18) (v := ?_) (at_succ (at_succ (at_succ (at_succ (at_succ (at_succ (at_succ (at_succ (at_succ (at_succ (at_succ (at_succ (at_succ (at_succ (at_succ (at_succ (at_succ (at_succ (at_zero))))))))))))))))))) (by kernel_rfl) (by kernel_rfl) (by kernel_rfl) (fun _ _ _ h => h) (Or.inl ⟨by rfl, ?_⟩) (by assumption) ?_
            rotate_left
            · intro w hSw; (try dsimp only at hSw); go_simp <;> with_reducible rfl
            (try simp only [Act.put, List.setIfInBounds_toArray, List.set_cons_zero, List.set_cons_succ])
            refine wpAnyH_take (i := 19) (v := ?_) (at_succ (at_succ (at_succ (at_succ (at_succ (at_succ (at_succ (at_succ (at_succ (at_succ (at_succ (at_succ (at_succ (at_succ (at_succ (at_succ (at_succ (at_succ (at_succ (at_zero)))))))))))))))))))) (by kernel_rfl) (by kernel_rfl) (by kernel_rfl) (fun _ _ _ h => h) (Or.inl ⟨by rfl, ?_⟩) (by assumption) ?_
            rotate_left
            · intro w hSw; (try dsimp only at hSw); go_simp <;> with_reducible rfl
            (try simp only [Act.put, List.setIfInBounds_toArray, List.set_cons_zero, List.set_cons_succ])
            refine wpAnyH_take (i := 20) (v := ?_) (at_succ (at_succ (at_succ (at_succ (at_succ (at_succ (at_succ (at_succ (at_succ (at_succ (at_succ (at_succ (at_succ (at_succ (at_succ (at_succ (at_succ (at_succ (at_succ (at_succ (at_zero))))))))))))))))))))) (by kernel_rfl) (by kernel_rfl) (by kernel_rfl) (fun _ _ _ h => h) (Or.inl ⟨by rfl, ?_⟩) (by assumption) ?_
            rotate_left
            · intro w hSw; (try dsimp only at hSw); go_simp <;> with_reducible rfl
            (try simp only [Act.put, List.setIfInBounds_toArray, List.set_cons_zero, List.set_cons_succ])
            refine wpAnyH_take (i := 21) (v := ?_) (at_succ (at_succ (at_succ (at_succ (at_succ (at_succ (at_succ (at_succ (at_succ (at_succ (at_succ (at_succ (at_succ (at_succ (at_succ (at_succ (at_succ (at_succ (at_succ (at_succ (at_succ (at_zero)))))))))))))))))))))) (by kernel_rfl) (by kernel_rfl) (by kernel_rfl) (fun _ _ _ h => h) (Or.inl ⟨by rfl, ?_⟩) (by assumption) ?_
            rotate_left
            · intro w hSw; (try dsimp only at hSw); go_simp <;> with_reducible rfl
            (try simp only [Act.put, List.setIfInBounds_toArray, List.set_cons_zero, List.set_cons_succ])
            refine wpAnyH_take (i := 22) (v := ?_) (at_succ (at_succ (at_succ (at_succ (at_succ (at_succ (at_succ (at_succ (at_succ (at_succ (at_succ (at_succ (at_succ (at_succ (at_succ (at_succ (at_succ (at_succ (at_succ (at_succ (at_succ (at_succ (at_zero))))))))))))))))))))))) (by kernel_rfl) (by kernel_rfl) (by kernel_rfl) (fun _ _ _ h => h) (Or.inl ⟨by rfl, ?_⟩) (by assumption) ?_
            rotate_left
            · intro w hSw; (try dsimp only at hSw); go_simp <;> with_reducible rfl
            (try simp only [Act.put, List.setIfInBounds_toArray, List.set_cons_zero, List.set_cons_succ])
            refine wpAnyH_take (i := 23) (v := ?_) (at_succ (at_succ (at_succ (at_succ (at_succ (at_succ (at_succ (at_succ (at_succ (at_succ (at_succ (at_succ (at_succ (at_succ (at_succ (at_succ (at_succ (at_succ (at_succ (at_succ (at_succ (at_succ (at_succ (at_zero)))))))))))))))))))))))) (by kernel_rfl) (by kernel_rfl) (by kernel_rfl) (fun _ _ _ h => h) (Or.inl ⟨by rfl, ?_⟩) (by assumption) ?_
            rotate_left
            · intro w hSw; (try dsimp only at hSw); go_simp <;> with_reducible rfl
            (try simp only [Act.put, List.setIfInBounds_toArray, List.set_cons_zero, List.set_cons_succ])
            refine wpAnyH_take (i := 24) (v := ?_) (at_succ (at_succ (at_succ (at_succ (at_succ (at_succ (at_succ (at_succ (at_succ (at_succ (at_succ (at_succ (at_succ (at_succ (at_succ (at_succ (at_succ (at_succ (at_succ (at_succ (at_succ (at_succ (at_succ (at_succ (at_zero))))))))))))))))))))))))) (by kernel_rfl) (by kernel_rfl) (by kernel_rfl) (fun _ _ _ h => h) (Or.inl ⟨by rfl, ?_⟩) (by assumption) ?_
            rotate_left
            · intro w hSw; (try dsimp only at hSw); go_simp <;> with_reducible rfl
            (try simp only [Act.put, List.setIfInBounds_toArray, List.set_cons_zero, List.set_cons_succ])
            refine wpAnyH_ready (rs := [5, 7]) (by kernel_rfl) (by simp) ?_
            refine AllReadyH.cons (at_succ (at_succ (at_succ (at_succ (at_succ (at_zero)))))) (fun K hK => ?_) (AllReadyH.cons (at_succ (at_succ (at_succ (at_succ (at_succ (at_succ (at_succ (at_zero)))))))) (fun K hK => ?_) AllReadyH.nil)
            · skip
              go_simp
              with_reducible refine Calls.mono (C2.out _ (by repeat (first | with_reducible assumption | with_reducible exact Kp.refl _ | with_reducible refine Kp.drew ?_ | with_reducible refine Kp.alloc ?_ _ | with_reducible refine Kp.drewN ?_ _ | refine Kp.setCell ?_ (by dsimp only; omega) _))) ?_; rintro e wr1 ⟨bA, bc, rfl, hbo, hka⟩; have hr1 : Kp w2 wr1 := Kp.trans (by repeat (first | with_reducible assumption | with_reducible exact Kp.refl _ | with_reducible refine Kp.drew ?_ | with_reducible refine Kp.alloc ?_ _ | with_reducible refine Kp.drewN ?_ _ | refine Kp.setCell ?_ (by dsimp only; omega) _)) hka; have hob := Own.mono hbo (show w2.heap.size ≤ _ from Kp.le (by first | with_reducible assumption | exact (by repeat (first | with_reducible assumption | with_reducible exact Kp.refl _ | with_reducible refine Kp.drew ?_ | with_reducible refine Kp.alloc ?_ _ | with_reducible refine Kp.drewN ?_ _ | refine Kp.setCell ?_ (by dsimp only; omega) _))))
              (try go_wp2_with fail)
              refine hK.out _ _ ?_ (fun hHeld => ?_)
              · (try dsimp only); refine keepc8 e0 e1 e2 e3 e4 e5 e6 e7 ?_; exact (by repeat (first | with_reducible assumption | with_reducible exact Kp.refl _ | with_reducible refine Kp.drew ?_ | with_reducible refine Kp.alloc ?_ _ | with_reducible refine Kp.drewN ?_ _ | refine Kp.setCell ?_ (by dsimp only; omega) _))
              clear hK K
              (try simp only [Act.put, List.setIfInBounds_toArray, List.set_cons_zero, List.set_cons_succ])
              refine wpAnyH_ready (rs := [7]) (by kernel_rfl) (by simp) ?_
              refine AllReadyH.cons (at_succ (at_succ (at_succ (at_succ (at_succ (at_succ (at_succ (at_zero)))))))) (fun K hK => ?_) AllReadyH.nil
              go_simp
              refine hK.out _ _ ?_ (fun hHeld => ?_)
              · (try dsimp only); refine keepc8 e0 e1 e2 e3 e4 e5 e6 e7 ?_; exact (by repeat (first | with_reducible assumption | with_reducible exact Kp.refl _ | with_reducible refine Kp.drew ?_ | with_reducible refine Kp.alloc ?_ _ | with_reducible refine Kp.drewN ?_ _ | refine Kp.setCell ?_ (by dsimp only; omega) _))
              clear hK K
              (try simp only [Act.put, List.setIfInBounds_toArray, List.set_cons_zero, List.set_cons_succ])
              refine wpAnyH_ready (rs := [8]) (by kernel_rfl) (by simp) ?_
              refine AllReadyH.cons (at_succ (at_succ (at_succ (at_succ (at_succ (at_succ (at_succ (at_succ (at_zero))))))))) (fun K hK => ?_) AllReadyH.nil
              (first | (refine step_app_all (by rfl) (.tmp 77) (.tmp 79) (by rfl) w2.heap.size _ begun [(s : Int)] (some ⟨w2.heap.size, 0, none⟩) 1 1 (by rfl) (by rfl) (hob.kp (by repeat (first | with_reducible assumption | with_reducible exact Kp.refl _ | with_reducible refine Kp.drew ?_ | with_reducible refine Kp.alloc ?_ _ | with_reducible refine Kp.drewN ?_ _ | refine Kp.setCell ?_ (by dsimp only; omega) _))) ((one_new w2 (s : Int)).kp (Kp.trans (by repeat (first | with_reducible assumption | with_reducible exact Kp.refl _ | with_reducible refine Kp.drew ?_ | with_reducible refine Kp.alloc ?_ _ | with_reducible refine Kp.drewN ?_ _ | refine Kp.setCell ?_ (by dsimp only; omega) _)) hka)) rfl hr1.le (by simp; omega) ?_; intro v' w' ho' ht' _; have hk4 : Kp w2 w' := Own.kp_turn (hob.kp (by repeat (first | with_reducible assumption | with_reducible exact Kp.refl _ | with_reducible refine Kp.drew ?_ | with_reducible refine Kp.alloc ?_ _ | with_reducible refine Kp.drewN ?_ _ | refine Kp.setCell ?_ (by dsimp only; omega) _))) (by repeat (first | with_reducible assumption | with_reducible exact Kp.refl _ | with_reducible refine Kp.drew ?_ | with_reducible refine Kp.alloc ?_ _ | with_reducible refine Kp.drewN ?_ _ | refine Kp.setCell ?_ (by dsimp only; omega) _)) (Nat.le_refl _) ht') | (refine step_app (by rfl) (.tmp 77) (.tmp 79) (by rfl) w2.heap.size _ begun (s : Int) _ (by rfl) (by rfl) (by rfl) (hob.kp (by repeat (first | with_reducible assumption | with_reducible exact Kp.refl _ | with_reducible refine Kp.drew ?_ | with_reducible refine Kp.alloc ?_ _ | with_reducible refine Kp.drewN ?_ _ | refine Kp.setCell ?_ (by dsimp only; omega) _))) (Kp.le (by repeat (first | with_reducible assumption | with_reducible exact Kp.refl _ | with_reducible refine Kp.drew ?_ | with_reducible refine Kp.alloc ?_ _ | with_reducible refine Kp.drewN ?_ _ | refine Kp.setCell ?_ (by dsimp only; omega) _))) hlen2 ?_; intro v' w' ho' ht' _; have hk4 : Kp w2 w' := Own.kp_turn (hob.kp (by repeat (first | with_reducible assumption | with_reducible exact Kp.refl _ | with_reducible refine Kp.drew ?_ | with_reducible refine Kp.alloc ?_ _ | with_reducible refine Kp.drewN ?_ _ | refine Kp.setCell ?_ (by dsimp only; omega) _))) (by repeat (first | with_reducible assumption | with_reducible exact Kp.refl _ | with_reducible refine Kp.drew ?_ | with_reducible refine Kp.alloc ?_ _ | with_reducible refine Kp.drewN ?_ _ | refine Kp.setCell ?_ (by dsimp only; omega) _)) (Nat.le_refl _) ht'))
              refine hK.out _ _ ?_ (fun hHeld => ?_)
              · (try dsimp only); refine keepc8 e0 e1 e2 e3 e4 e5 e6 e7 ?_; exact (by repeat (first | with_reducible assumption | with_reducible exact Kp.refl _ | with_reducible refine Kp.drew ?_ | with_reducible refine Kp.alloc ?_ _ | with_reducible refine Kp.drewN ?_ _ | refine Kp.setCell ?_ (by dsimp only; omega) _))
              clear hK K
              (try simp only [Act.put, List.setIfInBounds_toArray, List.set_cons_zero, List.set_cons_succ])
              refine wpAnyH_ready (rs := [25]) (by kernel_rfl) (by simp) ?_
              refine AllReadyH.cons (at_succ (at_succ (at_succ (at_succ (at_succ (at_succ (at_succ (at_succ (at_succ (at_succ (at_succ (at_succ (at_succ (at_succ (at_succ (at_succ (at_succ (at_succ (at_succ (at_succ (at_succ (at_succ (at_succ (at_succ (at_succ (at_zero)))))))))))))))))))))))))) (fun K hK => ?_) AllReadyH.nil
              go_simp
              with_reducible refine Calls.mono (C3.out _ (by repeat (first | with_reducible assumption | with_reducible exact Kp.refl _ | with_reducible refine Kp.drew ?_ | with_reducible refine Kp.alloc ?_ _ | with_reducible refine Kp.drewN ?_ _ | refine Kp.setCell ?_ (by dsimp only; omega) _)) _ ho') ?_; rintro e wr3 ⟨v9, rfl, how, hka3⟩; have hr3 : Kp w2 wr3 := Kp.trans (by repeat (first | with_reducible assumption | with_reducible exact Kp.refl _ | with_reducible refine Kp.drew ?_ | with_reducible refine Kp.alloc ?_ _ | with_reducible refine Kp.drewN ?_ _ | refine Kp.setCell ?_ (by dsimp only; omega) _)) hka3; obtain ⟨A9, c9, rfl⟩ := how.shape; obtain ⟨g0, g1, g2⟩ := HFz.out _ hr3; have v2 := hr3.get e2; have v3 := hr3.get e3; have v4 := hr3.get e4
              (try go_wp2_with fail)
              refine hK.out _ _ ?_ (fun hHeld => ?_)
              · (try dsimp only); refine keepc8 e0 e1 e2 e3 e4 e5 e6 e7 ?_; exact (by repeat (first | with_reducible assumption | with_reducible exact Kp.refl _ | with_reducible refine Kp.drew ?_ | with_reducible refine Kp.alloc ?_ _ | with_reducible refine Kp.drewN ?_ _ | refine Kp.setCell ?_ (by dsimp only; omega) _))
              clear hK K
              (try simp only [Act.put, List.setIfInBounds_toArray, List.set_cons_zero, List.set_cons_succ])
              refine wpAnyH_done (by kernel_rfl) ?_ _
              refine wp_store_mid 62 (.tmp 13) (.tmp 97) rfl (w.heap.size + 1) 0 #[.slice A9 (whV1 (T (i + 1))).length c9, .int .i64 (whV2 (T (i + 1))), .bool (whV3 (T (i + 1)))] rfl rfl (HS2.out.go hr3).bt (by kernel_rfl) (by simp [Value.oneCell']) ?_
              (try simp only [Act.put, List.setIfInBounds_toArray, List.set_cons_zero, List.set_cons_succ])
              have HS3 := Lib.hid (HS2.out.set hr3 how (whV2 (T (i + 1))) (whV3 (T (i + 1))))
              have HOk2 : Hid (WhOk F.di.length (T (i + 1))) := by
                show WhOk _ _
                rw [HT2.out]
                exact wh_ok (fun j a => whAdd_bd HP.out.good HP.out.nb j a) n _ _ _ _ _ (by rw [List.length_append, Hk.out]; simp; omega) (by omega) hch2 HOk.out
              go_wp2_with fail
              go_roundw
              case rel => exact ⟨i + 1, _, by omega, by go_num, HS3.out, HOk2⟩
              case measure => simp [intOf]; omega
            · skip
              go_simp
              refine hK.out _ _ ?_ (fun hHeld => ?_)
              · (try dsimp only); refine keepc8 e0 e1 e2 e3 e4 e5 e6 e7 ?_; exact (by repeat (first | with_reducible assumption | with_reducible exact Kp.refl _ | with_reducible refine Kp.drew ?_ | with_reducible refine Kp.alloc ?_ _ | with_reducible refine Kp.drewN ?_ _ | refine Kp.setCell ?_ (by dsimp only; omega) _))
              clear hK K
              (try simp only [Act.put, List.setIfInBounds_toArray, List.set_cons_zero, List.set_cons_succ])
              refine wpAnyH_ready (rs := [5]) (by kernel_rfl) (by simp) ?_
              refine AllReadyH.cons (at_succ (at_succ (at_succ (at_succ (at_succ (at_zero)))))) (fun K hK => ?_) AllReadyH.nil
              go_simp
              with_reducible refine Calls.mono (C2.out _ (by repeat (first | with_reducible assumption | with_reducible exact Kp.refl _ | with_reducible refine Kp.drew ?_ | with_reducible refine Kp.alloc ?_ _ | with_reducible refine Kp.drewN ?_ _ | refine Kp.setCell ?_ (by dsimp only; omega) _))) ?_; rintro e wr1 ⟨bA, bc, rfl, hbo, hka⟩; have hr1 : Kp w2 wr1 := Kp.trans (by repeat (first | with_reducible assumption | with_reducible exact Kp.refl _ | with_reducible refine Kp.drew ?_ | with_reducible refine Kp.alloc ?_ _ | with_reducible refine Kp.drewN ?_ _ | refine Kp.setCell ?_ (by dsimp only; omega) _)) hka; have hob := Own.mono hbo (show w2.heap.size ≤ _ from Kp.le (by first | with_reducible assumption | exact (by repeat (first | with_reducible assumption | with_reducible exact Kp.refl _ | with_reducible refine Kp.drew ?_ | with_reducible refine Kp.alloc ?_ _ | with_reducible refine Kp.drewN ?_ _ | refine Kp.setCell ?_ (by dsimp only; omega) _))))
              (try go_wp2_with fail)
              refine hK.out _ _ ?_ (fun hHeld => ?_)
              · (try dsimp only); refine keepc8 e0 e1 e2 e3 e4 e5 e6 e7 ?_; exact (by repeat (first | with_reducible assumption | with_reducible exact Kp.refl _ | with_reducible refine Kp.drew ?_ | with_reducible refine Kp.alloc ?_ _ | with_reducible refine Kp.drewN ?_ _ | refine Kp.setCell ?_ (by dsimp only; omega) _))
              clear hK K
              (try simp only [Act.put, List.setIfInBounds_toArray, List.set_cons_zero, List.set_cons_succ])
              refine wpAnyH_ready (rs := [8]) (by kernel_rfl) (by simp) ?_
              refine AllReadyH.cons (at_succ (at_succ (at_succ (at_succ (at_succ (at_succ (at_succ (at_succ (at_zero))))))))) (fun K hK => ?_) AllReadyH.nil
              (first | (refine step_app_all (by rfl) (.tmp 77) (.tmp 79) (by rfl) w2.heap.size _ begun [(s : Int)] (some ⟨w2.heap.size, 0, none⟩) 1 1 (by rfl) (by rfl) (hob.kp (by repeat (first | with_reducible assumption | with_reducible exact Kp.refl _ | with_reducible refine Kp.drew ?_ | with_reducible refine Kp.alloc ?_ _ | with_reducible refine Kp.drewN ?_ _ | refine Kp.setCell ?_ (by dsimp only; omega) _))) ((one_new w2 (s : Int)).kp (Kp.trans (by repeat (first | with_reducible assumption | with_reducible exact Kp.refl _ | with_reducible refine Kp.drew ?_ | with_reducible refine Kp.alloc ?_ _ | with_reducible refine Kp.drewN ?_ _ | refine Kp.setCell ?_ (by dsimp only; omega) _)) hka)) rfl hr1.le (by simp; omega) ?_; intro v' w' ho' ht' _; have hk4 : Kp w2 w' := Own.kp_turn (hob.kp (by repeat (first | with_reducible assumption | with_reducible exact Kp.refl _ | with_reducible refine Kp.drew ?_ | with_reducible refine Kp.alloc ?_ _ | with_reducible refine Kp.drewN ?_ _ | refine Kp.setCell ?_ (by dsimp only; omega) _))) (by repeat (first | with_reducible assumption | with_reducible exact Kp.refl _ | with_reducible refine Kp.drew ?_ | with_reducible refine Kp.alloc ?_ _ | with_reducible refine Kp.drewN ?_ _ | refine Kp.setCell ?_ (by dsimp only; omega) _)) (Nat.le_refl _) ht') | (refine step_app (by rfl) (.tmp 77) (.tmp 79) (by rfl) w2.heap.size _ begun (s : Int) _ (by rfl) (by rfl) (by rfl) (hob.kp (by repeat (first | with_reducible assumption | with_reducible exact Kp.refl _ | with_reducible refine Kp.drew ?_ | with_reducible refine Kp.alloc ?_ _ | with_reducible refine Kp.drewN ?_ _ | refine Kp.setCell ?_ (by dsimp only; omega) _))) (Kp.le (by repeat (first | with_reducible assumption | with_reducible exact Kp.refl _ | with_reducible refine Kp.drew ?_ | with_reducible refine Kp.alloc ?_ _ | with_reducible refine Kp.drewN ?_ _ | refine Kp.setCell ?_ (by dsimp only; omega) _))) hlen2 ?_; intro v' w' ho' ht' _; have hk4 : Kp w2 w' := Own.kp_turn (hob.kp (by repeat (first | with_reducible assumption | with_reducible exact Kp.refl _ | with_reducible refine Kp.drew ?_ | with_reducible refine Kp.alloc ?_ _ | with_reducible refine Kp.drewN ?_ _ | refine Kp.setCell ?_ (by dsimp only; omega) _))) (by repeat (first | with_reducible assumption | with_reducible exact Kp.refl _ | with_reducible refine Kp.drew ?_ | with_reducible refine Kp.alloc ?_ _ | with_reducible refine Kp.drewN ?_ _ | refine Kp.setCell ?_ (by dsimp only; omega) _)) (Nat.le_refl _) ht'))
              refine hK.out _ _ ?_ (fun hHeld => ?_)
              · (try dsimp only); refine keepc8 e0 e1 e2 e3 e4 e5 e6 e7 ?_; exact (by repeat (first | with_reducible assumption | with_reducible exact Kp.refl _ | with_reducible refine Kp.drew ?_ | with_reducible refine Kp.alloc ?_ _ | with_reducible refine Kp.drewN ?_ _ | refine Kp.setCell ?_ (by dsimp only; omega) _))
              clear hK K
              (try simp only [Act.put, List.setIfInBounds_toArray, List.set_cons_zero, List.set_cons_succ])
              refine wpAnyH_ready (rs := [25]) (by kernel_rfl) (by simp) ?_
              refine AllReadyH.cons (at_succ (at_succ (at_succ (at_succ (at_succ (at_succ (at_succ (at_succ (at_succ (at_succ (at_succ (at_succ (at_succ (at_succ (at_succ (at_succ (at_succ (at_succ (at_succ (at_succ (at_succ (at_succ (at_succ (at_succ (at_succ (at_zero)))))))))))))))))))))))))) (fun K hK => ?_) AllReadyH.nil
              go_simp
              with_reducible refine Calls.mono (C3.out _ (by repeat (first | with_reducible assumption | with_reducible exact Kp.refl _ | with_reducible refine Kp.drew ?_ | with_reducible refine Kp.alloc ?_ _ | with_reducible refine Kp.drewN ?_ _ | refine Kp.setCell ?_ (by dsimp only; omega) _)) _ ho') ?_; rintro e wr3 ⟨v9, rfl, how, hka3⟩; have hr3 : Kp w2 wr3 := Kp.trans (by repeat (first | with_reducible assumption | with_reducible exact Kp.refl _ | with_reducible refine Kp.drew ?_ | with_reducible refine Kp.alloc ?_ _ | with_reducible refine Kp.drewN ?_ _ | refine Kp.setCell ?_ (by dsimp only; omega) _)) hka3; obtain ⟨A9, c9, rfl⟩ := how.shape; obtain ⟨g0, g1, g2⟩ := HFz.out _ hr3; have v2 := hr3.get e2; have v3 := hr3.get e3; have v4 := hr3.get e4
              (try go_wp2_with fail)
              refine hK.out _ _ ?_ (fun hHeld => ?_)
              · (try dsimp only); refine keepc8 e0 e1 e2 e3 e4 e5 e6 e7 ?_; exact (by repeat (first | with_reducible assumption | with_reducible exact Kp.refl _ | with_reducible refine Kp.drew ?_ | with_reducible refine Kp.alloc ?_ _ | with_reducible refine Kp.drewN ?_ _ | refine Kp.setCell ?_ (by dsimp only; omega) _))
              clear hK K
              (try simp only [Act.put, List.setIfInBounds_toArray, List.set_cons_zero, List.set_cons_succ])
              refine wpAnyH_done (by kernel_rfl) ?_ _
              refine wp_store_mid 62 (.tmp 13) (.tmp 97) rfl (w.heap.size + 1) 0 #[.slice A9 (whV1 (T (i + 1))).length c9, .int .i64 (whV2 (T (i + 1))), .bool (whV3 (T (i + 1)))] rfl rfl (HS2.out.go hr3).bt (by kernel_rfl) (by simp [Value.oneCell']) ?_
              (try simp only [Act.put, List.setIfInBounds_toArray, List.set_cons_zero, List.set_cons_succ])
              have HS3 := Lib.hid (HS2.out.set hr3 how (whV2 (T (i + 1))) (whV3 (T (i + 1))))
              have HOk2 : Hid (WhOk F.di.length (T (i + 1))) := by
                show WhOk _ _
                rw [HT2.out]
                exact wh_ok (fun j a => whAdd_bd HP.out.good HP.out.nb j a) n _ _ _ _ _ (by rw [List.length_append, Hk.out]; simp; omega) (by omega) hch2 HOk.out
              go_wp2_with fail
              go_roundw
              case rel => exact ⟨i + 1, _, by omega, by go_num, HS3.out, HOk2⟩
              case measure => simp [intOf]; omega
        · obtain rfl : i = n3 := by omega
          obtain ⟨q0, q1, q2⟩ := hst.best
          obtain ⟨vA, vc, rfl⟩ := hst.own.shape
          have HST := Lib.hid hst
          clear hst
          go_wp2_with (first | (refine wpList_store_mid rfl 62 (.tmp 14) (.tmp 98) rfl (w.heap.size + 1 + 1) 0 #[.slice vA (whV1 (T i)).length vc, .int .i64 (whV2 (T i)), .bool (whV3 (T i))] rfl rfl HST.out.rt (by kernel_rfl) (by simp [Value.oneCell']) ?_) | fail)
          obtain ⟨z0, z1, z2, z3, z4⟩ := HST.out.ret (.slice vA (whV1 (T i)).length vc) (.int .i64 (whV2 (T i))) (.bool (whV3 (T i))) HST.out.own
          exact bodyPost_ret (v := .agg #[.slice vA (whV1 (T i)).length vc, .int .i64 (whV2 (T i)), .bool (whV3 (T i))]) (by simp [results, Try.results34, go_sem, z0, z1, z2]) rfl ⟨_, rfl, z3, z4⟩
    · have hcb2 := hcb rfl
      clear hcb
      go_wp2_with fail
      go_loopw [16] (fun iv wr => ∃ (i : Nat) (vs : Value), i ≤ n3 ∧ iv = .int .i64 i ∧ GvS w wr base (.slice A F.op.length c) (.slice B F.di.length d) vs (whV1 (T i)) (whV2 (T i)) (whV3 (T i)) ∧ Hid (WhOk F.di.length (T i))) (fun iv _ => n3 - (intOf iv).toNat)
      case atStart => exact ⟨0, _, by omega, rfl, by rw [HT0.out, Hc.out, Hb0.out]; exact HS.out, by rw [HT0.out]; exact Hok⟩
      case round =>
        clear HS HT0 q0 q1 q2 f0 f1
        obtain ⟨i, vs, hi, rfl, hst, HOk⟩ := hrel
        obtain ⟨f0, f1⟩ := hst.fld
        by_cases hli : i < n3
        · have lx : i < S.length := by rw [Hn3.out]; exact hli
          obtain ⟨ad3, rfl, hd3⟩ := (H3.out.kp hst.kp).at_ lx
          have hmem := set_mem HP.out.set_ _ (List.getElem_mem lx)
          obtain ⟨s, hs⟩ := Int.eq_ofNat_of_zero_le hmem.1
          have hsM : s < F.op.length := by omega
          have hsI : (s : Int) < (F.op.length : Int) := by omega
          have lr : s < xs.length := by rw [Hn1.out]; exact hsM
          obtain ⟨ad1, rfl, hd1⟩ := (H1.out.kp hst.kp).at_ lr
          rw [← lget_at lr] at hd1
          have ln : k < needs.length := by rw [HP.out.nl]; exact hkJ
          obtain ⟨ad2, rfl, hd2⟩ := (H2.out.kp hst.kp).at_ ln
          rw [← lget_at ln] at hd2
          have hz5 := H2.out.some_ ln
          have hTs := HT.out (i + 1)
          rw [whTo_succ lx, HT.out i, hs, Int.toNat_natCast, Hk.out] at hTs
          rw [hs] at hd3
          have hliI : (i : Int) < (n3 : Int) := by omega
          have hk2 : (k : Int) < (n2 : Int) := by rw [← Hn2.out]; omega
          obtain ⟨bd, ar, cr, rfl, hr1, hr2⟩ := dist_row HP.out.good (HB.out.kp hst.kp) hkJ
          have hr3 := hr2 s hsM
          have hz := dist_old HP.out.good HB.out hkJ hst.kp hr1 hsM
          obtain ⟨hz6, hz7⟩ := hz
          have b1 := HP.out.nb k
          have b2 := Hx.out s
          have b3 := dAt_bd HP.out.good hkJ (s : Int)
          have b4 : 0 ≤ lget needs k * dF F k s ∧ lget needs k * dF F k s ≤ 495 := prod_bd b1.1 b1.2 b3.1 b3.2
          obtain ⟨rv, Hrv⟩ : ∃ z, Hid (lget xs s = z) := ⟨_, rfl⟩
          obtain ⟨nv, Hnv⟩ : ∃ z, Hid (lget needs k = z) := ⟨_, rfl⟩
          obtain ⟨dv, Hdv⟩ : ∃ z, Hid (dF F k s = z) := ⟨_, rfl⟩
          rw [Hrv.out] at hd1 hTs b2
          rw [Hnv.out] at hd2 hTs b1 b4
          rw [Hdv.out] at hr3 b4
          have hTs2 := Lib.hid hTs
          have HST := Lib.hid hst
          clear hr2 hTs hmem hs hst b3
          by_cases hlt : rv < nv
          · have HTn : Hid (T (i + 1) = T i) := by show _ = _; rw [← hTs2.out, if_pos hlt]
            have HS2 := Lib.hid (HST.out.go (Kp.refl _).drew)
            clear hTs2
            go_wp2_with fail
            go_region
            (try go_wp2_with fail)
            go_roundw
            case rel => exact ⟨i + 1, _, by omega, by go_num, by rw [HTn.out]; first | exact HS2.out | exact HST.out, by rw [HTn.out]; exact HOk⟩
            case measure => simp [intOf]; omega
          · have HTn : Hid (T (i + 1) = whGo F needs S true n (upd (lget xs) s (rv - nv)) (begun ++ [(s : Int)]) (cost + whAdd F needs k s) (T i)) := by show _ = _; rw [← hTs2.out, if_neg hlt]
            have hge : nv ≤ rv := by omega
            have C0 := Lib.hid (fun (wx : World) (hx : Kp w wx) => l1Own_all (some ad1) xs F.op.length c1 wx (H1.out.kp hx) Hn1.out (by omega))
            have hw0 := HST.out.kp
            clear hTs2 hlt
            obtain ⟨wo, rfl⟩ : ∃ wo : World, wo = wr := ⟨_, rfl⟩
            go_wp2_with fail
            go_region
            go_wp2_with fail
            with_reducible refine Calls.mono (C0.out _ (by repeat (first | with_reducible assumption | with_reducible exact Kp.refl _ | with_reducible refine Kp.drew ?_ | with_reducible refine Kp.alloc ?_ _ | with_reducible refine Kp.drewN ?_ _ | refine Kp.setCell ?_ (by dsimp only; omega) _))) ?_
            rintro e w1 ⟨lA, lc, rfl, hown, hk1⟩
            obtain ⟨g, cl, e7⟩ := hown.at0 Hn1.out (by omega)
            obtain ⟨rfl, -, rfl⟩ : lA = some ⟨g, 0, none⟩ ∧ F.op.length = F.op.length ∧ lc = cl := by simpa using e7
            clear e7 C0
            have hko : Kp wo w1 := Kp.trans (by first | exact (Kp.refl _).drew | exact Kp.refl _) hk1
            obtain ⟨t1, t1f, t1p⟩ := hown.slotL Hn1.out hsM
            rw [Hrv.out] at t1
            obtain ⟨s1, s2⟩ := t1p (rv - nv)
            have Hs1 := Lib.hid s1
            have Hlt := Lib.hid (hown.lt g rfl).1
            have x2 := hko.get hd2
            have ad : (⟨g, 0, none⟩ : Addr).add s = ⟨g, s, none⟩ := add0 _ _
            clear t1p s1 s2 hown
            go_wp2_with fail
            go_region
            (try go_wp2_with fail)
            have hkz : Kp wo (w1.setCell ⟨g, s, none⟩ (.int .i64 (rv - nv))).drew := (hko.setCell (p := ⟨g, s, none⟩) Hlt.out (.int .i64 (rv - nv))).drew
            have HL := Lib.hid (Hs1.out.kp (Kp.refl _).drew)
            clear t1 t1f x2 ad Hs1 Hlt hko hk1
            generalize (w1.setCell ⟨g, s, none⟩ (.int .i64 (rv - nv))).drew = w2 at *
            have hwz : Kp w w2 := hw0.trans hkz
            have HS2 := Lib.hid (HST.out.go hkz)
            obtain ⟨vA, vc, rfl⟩ := HS2.out.own.shape
            have HT2 : Hid (T (i + 1) = whGo F needs S true n (lget (xs.set s (rv - nv))) (begun ++ [(s : Int)]) (cost + nv * dv) (T i)) := by
              show _ = _
              rw [HTn.out, show whAdd F needs k (s : Int) = nv * dv from by unfold whAdd; rw [Hnv.out]; exact congrArg _ Hdv.out, show lget (xs.set s (rv - nv)) = upd (lget xs) s (rv - nv) from by funext a; rw [lget_set lr]; rfl]
            have hcl := Hc0.out
            have hch := Hc1.out
            push_cast at hch
            have hch2 : cost + nv * dv + 495 * (n : Int) ≤ 1000000 := by omega
            have hch3 : cost ≤ 1000000 := by omega
            have hch4 : cost + nv * dv ≤ 1000000 := by omega
            have hsz2 := hwz.le
            have hbs := Hbase.out
            have hkn := Hkn.out
            have C2 := Lib.hid (fun (wx : World) (hx : Kp w2 wx) => l1Own_all Ab begun k cb wx ((Hb.out.intsOf (by rw [Hk.out]; omega)).kp (hwz.trans hx)) Hk.out (by omega))
            have C3 := Lib.hid (fun (wx : World) (hx : Kp w2 wx) (vb : Value) (ho : Own wx w2.heap.size vb (begun ++ [(s : Int)])) => IH.out (.agg #[.slice A F.op.length c, .slice (some bd) F.di.length d]) (some ⟨g, 0, none⟩) (xs.set s (rv - nv)) lc vb (begun ++ [(s : Int)]) (cost + nv * dv) (T i) (.slice vA (whV1 (T i)).length vc) base wx (Hf.out.kp (hwz.trans hx)) ((HL.out.intsOf (by rw [List.length_set, Hn1.out]; omega)).kp hx) (by rw [List.length_set]; exact Hn1.out) (H2.out.kp (hwz.trans hx)) (H3.out.kp (hwz.trans hx)) (ho.mono (by omega)) (HS2.out.own.kp hx) (by have := hx.le; omega) (by rw [List.length_append, Hk.out]; simp; omega) (by omega) hch2 HOk.out (fun a => by
              rw [lget_set lr]
              by_cases e : a = s
              · rw [if_pos e]; omega
              · rw [if_neg e]; exact Hx.out a))
            rw [← HT2.out] at C3
            have Hwr : Hid (IntKind.i64.wrap (cost + IntKind.i64.wrap (nv * dv)) = cost + nv * dv) := by
              show _ = _
              rw [IntWalk.i64_in (nv * dv) (by omega)]
              exact IntWalk.i64_in _ (by omega)
            rw [← Hwr.out] at C3
            have e0 := hkz.get f0
            have e1 := hkz.get f1
            have e2 := HS2.out.best.1
            have e3 := HS2.out.best.2.1
            have e4 := HS2.out.best.2.2
            have e5 := hkz.get hd2
            have e6 := hkz.get hr1
            have e7 := hkz.get hr3
            have hlen2 : begun.length < 1048576 := by rw [Hk.out]; omega
            clear f0 f1 hd1 hd2 hd3 hr1 hr3 hw0 HTn hch
            have HFz := Lib.hid (fun (wx : World) (hx : Kp w2 wx) => (HS2.out.go hx).frz)
            have hkc : Kp w2 w2 := Kp.refl _
            have n5 : (ad2.add k).block ≠ w.heap.size + 1 := by have := World.block_lt_of_cell? _ _ (hz5); omega
            have n6 : (bd.add k).block ≠ w.heap.size + 1 := by have := lt_isSome hz6; omega
            have n7 : (ar.add s).block ≠ w.heap.size + 1 := by have := lt_isSome hz7; omega
            have n0 : (⟨w.heap.size, 0, none⟩ : Addr).block ≠ w.heap.size + 1 := by show w.heap.size ≠ _; omega
            have n1 : (⟨w.heap.size, 1, none⟩ : Addr).block ≠ w.heap.size + 1 := by show w.heap.size ≠ _; omega
            have kda : Kp w2 (w2.drew.alloc (.cells #[.int .i64 (s : Int)] 3)) := (Kp.refl w2).drew.alloc _
            have kd : Kp w2 w2.drew := (Kp.refl w2).drew
            have p2 := kd.get e2; have p3 := kd.get e3; have p4 := kd.get e4
            have r2 := kda.get e2; have r3 := kda.get e3; have r4 := kda.get e4
            go_wp2_with fail
            refine wp_region_last2 (S := fun w' => w'.cell? ⟨w.heap.size, 0, none⟩ = some (.slice A F.op.length c) ∧ w'.cell? ⟨w.heap.size, 1, none⟩ = some (.slice (some bd) F.di.length d) ∧ w'.cell? ⟨w.heap.size + 1, 0, none⟩ = some (.slice vA (whV1 (T i)).length vc) ∧ w'.cell? ⟨w.heap.size + 1, 1, none⟩ = some (.int .i64 (whV2 (T i))) ∧ w'.cell? ⟨w.heap.size + 1, 2, none⟩ = some (.bool (whV3 (T i))) ∧ w'.cell? (ad2.add k) = some (.int .i64 nv) ∧ w'.cell? (bd.add k) = some (.slice (some ar) F.op.length cr) ∧ w'.cell? (ar.add s) = some (.int .i64 dv) ∧ Kp w2 w') (split_cons (split_cons (split_cons (split_cons (split_cons (split_cons (split_cons (split_cons (split_cons (split_cons (split_cons (split_cons (split_cons (split_cons (split_cons (split_cons (split_cons (split_cons (split_cons (split_cons (split_cons (split_cons (split_cons (split_cons (split_cons (split_cons split_one)))))))))))))))))))))))))) (by kernel_rfl) (by kernel_rfl) ?_
            have hHeld : (fun w' => w'.cell? ⟨w.heap.size, 0, none⟩ = some (.slice A F.op.length c) ∧ w'.cell? ⟨w.heap.size, 1, none⟩ = some (.slice (some bd) F.di.length d) ∧ w'.cell? ⟨w.heap.size + 1, 0, none⟩ = some (.slice vA (whV1 (T i)).length vc) ∧ w'.cell? ⟨w.heap.size + 1, 1, none⟩ = some (.int .i64 (whV2 (T i))) ∧ w'.cell? ⟨w.heap.size + 1, 2, none⟩ = some (.bool (whV3 (T i))) ∧ w'.cell? (ad2.add k) = some (.int .i64 nv) ∧ w'.cell? (bd.add k) = some (.slice (some ar) F.op.length cr) ∧ w'.cell? (ar.add s) = some (.int .i64 dv) ∧ Kp w2 w') w2.drew := by
              (try dsimp only)
              refine keepc8 e0 e1 e2 e3 e4 e5 e6 e7 ?_; exact (by repeat (first | with_reducible assumption | with_reducible exact Kp.refl _ | with_reducible refine Kp.drew ?_ | with_reducible refine Kp.alloc ?_ _ | with_reducible refine Kp.drewN ?_ _ | refine Kp.setCell ?_ (by dsimp only; omega) _))
            refine wpAnyH_take (i := 0) (v := ?_) (at_zero) (by kernel_rfl) (by kernel_rfl) (by kernel_rfl) (fun _ _ _ h => h) (Or.inl ⟨by rfl, ?_⟩) (by assumption) ?_
            rotate_left
            · intro w hSw; (try dsimp only at hSw); go_simp <;> with_reducible rfl
            (try simp only [Act.put, List.setIfInBounds_toArray, List.set_cons_zero, List.set_cons_succ])
            refine wpAnyH_take (i := 1) (v := ?_) (at_succ (at_zero)) (by kernel_rfl) (by kernel_rfl) (by kernel_rfl) (fun _ _ _ h => h) (Or.inl ⟨by rfl, ?_⟩) (by assumption) ?_
            rotate_left
            · intro w hSw; (try dsimp only at hSw); go_simp <;> with_reducible rfl
            (try simp only [Act.put, List.setIfInBounds_toArray, List.set_cons_zero, List.set_cons_succ])
            refine wpAnyH_take (i := 2) (v := ?_) (at_succ (at_succ (at_zero))) (by kernel_rfl) (by kernel_rfl) (by kernel_rfl) (fun _ _ _ h => h) (Or.inl ⟨by rfl, ?_⟩) (by assumption) ?_
            rotate_left
            · intro w hSw; (try dsimp only at hSw); go_simp <;> with_reducible rfl
            (try simp only [Act.put, List.setIfInBounds_toArray, List.set_cons_zero, List.set_cons_succ])
            refine wpAnyH_take (i := 3) (v := ?_) (at_succ (at_succ (at_succ (at_zero)))) (by kernel_rfl) (by kernel_rfl) (by kernel_rfl) (fun _ _ _ h => h) (Or.inl ⟨by rfl, ?_⟩) (by assumption) ?_
            rotate_left
            · intro w hSw; (try dsimp only at hSw); go_simp <;> with_reducible rfl
            (try simp only [Act.put, List.setIfInBounds_toArray, List.set_cons_zero, List.set_cons_succ])
            refine wpAnyH_take (i := 4) (v := ?_) (at_succ (at_succ (at_succ (at_succ (at_zero))))) (by kernel_rfl) (by kernel_rfl) (by kernel_rfl) (fun _ _ _ h => h) (Or.inl ⟨by rfl, ?_⟩) (by assumption) ?_
            rotate_left
            · intro w hSw; (try dsimp only at hSw); go_simp <;> with_reducible rfl
            (try simp only [Act.put, List.setIfInBounds_toArray, List.set_cons_zero, List.set_cons_succ])
            refine wpAnyH_take (i := 6) (v := ?_) (at_succ (at_succ (at_succ (at_succ (at_succ (at_succ (at_zero))))))) (by kernel_rfl) (by kernel_rfl) (by kernel_rfl) (fun _ _ _ h => h) (Or.inl ⟨by rfl, ?_⟩) (by assumption) ?_
            rotate_left
            · intro w hSw; (try dsimp only at hSw); go_simp <;> with_reducible rfl
            (try simp only [Act.put, List.setIfInBounds_toArray, List.set_cons_zero, List.set_cons_succ])
            refine wpAnyH_take (i := 9) (v := ?_) (at_succ (at_succ (at_succ (at_succ (at_succ (at_succ (at_succ (at_succ (at_succ (at_zero)))))))))) (by kernel_rfl) (by kernel_rfl) (by kernel_rfl) (fun _ _ _ h => h) (Or.inl ⟨by rfl, ?_⟩) (by assumption) ?_
            rotate_left
            · intro w hSw; (try dsimp only at hSw); go_simp <;> with_reducible rfl
            (try simp only [Act.put, List.setIfInBounds_toArray, List.set_cons_zero, List.set_cons_succ])
            refine wpAnyH_take (i := 10) (v := ?_) (at_succ (at_succ (at_succ (at_succ (at_succ (at_succ (at_succ (at_succ (at_succ (at_succ (at_zero))))))))))) (by kernel_rfl) (by kernel_rfl) (by kernel_rfl) (fun _ _ _ h => h) (Or.inl ⟨by rfl, ?_⟩) (by assumption) ?_
            rotate_left
            · intro w hSw; (try dsimp only at hSw); go_simp <;> with_reducible rfl
            (try simp only [Act.put, List.setIfInBounds_toArray, List.set_cons_zero, List.set_cons_succ])
            refine wpAnyH_take (i := 11) (v := ?_) (at_succ (at_succ (at_succ (at_succ (at_succ (at_succ (at_succ (at_succ (at_succ (at_succ (at_succ (at_zero)))))))))))) (by kernel_rfl) (by kernel_rfl) (by kernel_rfl) (fun _ _ _ h => h) (Or.inl ⟨by rfl, ?_⟩) (by assumption) ?_
            rotate_left
            · intro w hSw; (try dsimp only at hSw); go_simp <;> with_reducible rfl
            (try simp only [Act.put, List.setIfInBounds_toArray, List.set_cons_zero, List.set_cons_succ])
            refine wpAnyH_take (i := 12) (v := ?_) (at_succ (at_succ (at_succ (at_succ (at_succ (at_succ (at_succ (at_succ (at_succ (at_succ (at_succ (at_succ (at_zero))))))))))))) (by kernel_rfl) (by kernel_rfl) (by kernel_rfl) (fun _ _ _ h => h) (Or.inl ⟨by rfl, ?_⟩) (by assumption) ?_
            rotate_left
            · intro w hSw; (try dsimp only at hSw); go_simp <;> with_reducible rfl
            (try simp only [Act.put, List.setIfInBounds_toArray, List.set_cons_zero, List.set_cons_succ])
            refine wpAnyH_take (i := 13) (v := ?_) (at_succ (at_succ (at_succ (at_succ (at_succ (at_succ (at_succ (at_succ (at_succ (at_succ (at_succ (at_succ (at_succ (at_zero)))))))))))))) (by kernel_rfl) (by kernel_rfl) (by kernel_rfl) (fun _ _ _ h => h) (Or.inl ⟨by rfl, ?_⟩) (by assumption) ?_
            rotate_left
            · intro w hSw; (try dsimp only at hSw); go_simp <;> with_reducible rfl
            (try simp only [Act.put, List.setIfInBounds_toArray, List.set_cons_zero, List.set_cons_succ])
            refine wpAnyH_take (i := 14) (v := ?_) (at_succ (at_succ (at_succ (at_succ (at_succ (at_succ (at_succ (at_succ (at_succ (at_succ (at_succ (at_succ (at_succ (at_succ (at_zero))))))))))))))) (by kernel_rfl) (by kernel_rfl) (by kernel_rfl) (fun _ _ _ h => h) (Or.inl ⟨by rfl, ?_⟩) (by assumption) ?_
            rotate_left
            · intro w hSw; (try dsimp only at hSw); go_simp <;> with_reducible rfl
            (try simp only [Act.put, List.setIfInBounds_toArray, List.set_cons_zero, List.set_cons_succ])
            refine wpAnyH_take (i := 15) (v := ?_) (at_succ (at_succ (at_succ (at_succ (at_succ (at_succ (at_succ (at_succ (at_succ (at_succ (at_succ (at_succ (at_succ (at_succ (at_succ (at_zero)))))))))))))))) (by kernel_rfl) (by kernel_rfl) (by kernel_rfl) (fun _ _ _ h => h) (Or.inl ⟨by rfl, ?_⟩) (by assumption) ?_
            rotate_left
            · intro w hSw; (try dsimp only at hSw); go_simp <;> with_reducible rfl
            (try simp only [Act.put, List.setIfInBounds_toArray, List.set_cons_zero, List.set_cons_succ])
            refine wpAnyH_take (i := 16) (v := ?_) (at_succ (at_succ (at_succ (at_succ (at_succ (at_succ (at_succ (at_succ (at_succ (at_succ (at_succ (at_succ (at_succ (at_succ (at_succ (at_succ (at_zero))))))))))))))))) (by kernel_rfl) (by kernel_rfl) (by kernel_rfl) (fun _ _ _ h => h) (Or.inl ⟨by rfl, ?_⟩) (by assumption) ?_
            rotate_left
            · intro w hSw; (try dsimp only at hSw); go_simp <;> with_reducible rfl
            (try simp only [Act.put, List.setIfInBounds_toArray, List.set_cons_zero, List.set_cons_succ])
            refine wpAnyH_take (i := 17) (v := ?_) (at_succ (at_succ (at_succ (at_succ (at_succ (at_succ (at_succ (at_succ (at_succ (at_succ (at_succ (at_succ (at_succ (at_succ (at_succ (at_succ (at_succ (at_zero)))))))))))))))))) (by kernel_rfl) (by kernel_rfl) (by kernel_rfl) (fun _ _ _ h => h) (Or.inl ⟨by rfl, ?_⟩) (by assumption) ?_
            rotate_left
            · intro w hSw; (try dsimp only at hSw); go_simp <;> with_reducible rfl
            (try simp only [Act.put, List.setIfInBounds_toArray, List.set_cons_zero, List.set_cons_succ])
            refine wpAnyH_take (i := 18) (v := ?_) (at_succ (at_succ (at_succ (at_succ (at_succ (at_succ (at_succ (at_succ (at_succ (at_succ (at_succ (at_succ (at_succ (at_succ (at_succ (at_succ (at_succ (at_succ (at_zero))))))))))))))))))) (by kernel_rfl) (by kernel_rfl) (by kernel_rfl) (fun _ _ _ h => h) (Or.inl ⟨by rfl, ?_⟩) (by assumption) ?_
            rotate_left
            · intro w hSw; (try dsimp only at hSw); go_simp <;> with_reducible rfl
            (try simp only [Act.put, List.setIfInBounds_toArray, List.set_cons_zero, List.set_cons_succ])
            refine wpAnyH_take (i := 19) (v := ?_) (at_succ (at_succ (at_succ (at_succ (at_succ (at_succ (at_succ (at_succ (at_succ (at_succ (at_succ (at_succ (at_succ (at_succ (at_succ (at_succ (at_succ (at_succ (at_succ (at_zero)))))))))))))))))))) (by kernel_rfl) (by kernel_rfl) (by kernel_rfl) (fun _ _ _ h => h) (Or.inl ⟨by rfl, ?_⟩) (by assumption) ?_
            rotate_left
            · intro w hSw; (try dsimp only at hSw); go_simp <;> with_reducible rfl
            (try simp only [Act.put, List.setIfInBounds_toArray, List.set_cons_zero, List.set_cons_succ])
            refine wpAnyH_take (i := 20) (v := ?_) (at_succ (at_succ (at_succ (at_succ (at_succ (at_succ (at_succ (at_succ (at_succ (at_succ (at_succ (at_succ (at_succ (at_succ (at_succ (at_succ (at_succ (at_succ (at_succ (at_succ (at_zero))))))))))))))))))))) (by kernel_rfl) (by kernel_rfl) (by kernel_rfl) (fun _ _ _ h => h) (Or.inl ⟨by rfl, ?_⟩) (by assumption) ?_
            rotate_left
            · intro w hSw; (try dsimp only at hSw); go_simp <;> with_reducible rfl
            (try simp only [Act.put, List.setIfInBounds_toArray, List.set_cons_zero, List.set_cons_succ])
            refine wpAnyH_take (i := 21) (v := ?_) (at_succ (at_succ (at_succ (at_succ (at_succ (at_succ (at_succ (at_succ (at_succ (at_succ (at_succ (at_succ (at_succ (at_succ (at_succ (at_succ (at_succ (at_succ (at_succ (at_succ (at_succ (at_zero)))))))))))))))))))))) (by kernel_rfl) (by kernel_rfl) (by kernel_rfl) (fun _ _ _ h => h) (Or.inl ⟨by rfl, ?_⟩) (by assumption) ?_
            rotate_left
            · intro w hSw; (try dsimp only at hSw); go_simp <;> with_reducible rfl
            (try simp only [Act.put, List.setIfInBounds_toArray, List.set_cons_zero, List.set_cons_succ])
            refine wpAnyH_take (i := 22) (v := ?_) (at_succ (at_succ (at_succ (at_succ (at_succ (at_succ (at_succ (at_succ (at_succ (at_succ (at_succ (at_succ (at_succ (at_succ (at_succ (at_succ (at_succ (at_succ (at_succ (at_succ (at_succ (at_succ (at_zero))))))))))))))))))))))) (by kernel_rfl) (by kernel_rfl) (by kernel_rfl) (fun _ _ _ h => h) (Or.inl ⟨by rfl, ?_⟩) (by assumption) ?_
            rotate_left
            · intro w hSw; (try dsimp only at hSw); go_simp <;> with_reducible rfl
            (try simp only [Act.put, List.setIfInBounds_toArray, List.set_cons_zero, List.set_cons_succ])
            refine wpAnyH_take (i := 23) (v := ?_) (at_succ (at_succ (at_succ (at_succ (at_succ (at_succ (at_succ (at_succ (at_succ (at_succ (at_succ (at_succ (at_succ (at_succ (at_succ (at_succ (at_succ (at_succ (at_succ (at_succ (at_succ (at_succ (at_succ (at_zero)))))))))))))))))))))))) (by kernel_rfl) (by kernel_rfl) (by kernel_rfl) (fun _ _ _ h => h) (Or.inl ⟨by rfl, ?_⟩) (by assumption) ?_
            rotate_left
            · intro w hSw; (try dsimp only at hSw); go_simp <;> with_reducible rfl
            (try simp only [Act.put, List.setIfInBounds_toArray, List.set_cons_zero, List.set_cons_succ])
            refine wpAnyH_take (i := 24) (v := ?_) (at_succ (at_succ (at_succ (at_succ (at_succ (at_succ (at_succ (at_succ (at_succ (at_succ (at_succ (at_succ (at_succ (at_succ (at_succ (at_succ (at_succ (at_succ (at_succ (at_succ (at_succ (at_succ (at_succ (at_succ (at_zero))))))))))))))))))))))))) (by kernel_rfl) (by kernel_rfl) (by kernel_rfl) (fun _ _ _ h => h) (Or.inl ⟨by rfl, ?_⟩) (by assumption) ?_
            rotate_left
            · intro w hSw; (try dsimp only at hSw); go_simp <;> with_reducible rfl
            (try simp only [Act.put, List.setIfInBounds_toArray, List.set_cons_zero, List.set_cons_succ])
            refine wpAnyH_ready (rs := [5, 7]) (by kernel_rfl) (by simp) ?_
            refine AllReadyH.cons (at_succ (at_succ (at_succ (at_succ (at_succ (at_zero)))))) (fun K hK => ?_) (AllReadyH.cons (at_succ (at_succ (at_succ (at_succ (at_succ (at_succ (at_succ (at_zero)))))))) (fun K hK => ?_) AllReadyH.nil)
            · skip
              go_simp
              with_reducible refine Calls.mono (C2.out _ (by repeat (first | with_reducible assumption | with_reducible exact Kp.refl _ | with_reducible refine Kp.drew ?_ | with_reducible refine Kp.alloc ?_ _ | with_reducible refine Kp.drewN ?_ _ | refine Kp.setCell ?_ (by dsimp only; omega) _))) ?_; rintro e wr1 ⟨bA, bc, rfl, hbo, hka⟩; have hr1 : Kp w2 wr1 := Kp.trans (by repeat (first | with_reducible assumption | with_reducible exact Kp.refl _ | with_reducible refine Kp.drew ?_ | with_reducible refine Kp.alloc ?_ _ | with_reducible refine Kp.drewN ?_ _ | refine Kp.setCell ?_ (by dsimp only; omega) _)) hka; have hob := Own.mono hbo (show w2.heap.size ≤ _ from Kp.le (by first | with_reducible assumption | exact (by repeat (first | with_reducible assumption | with_reducible exact Kp.refl _ | with_reducible refine Kp.drew ?_ | with_reducible refine Kp.alloc ?_ _ | with_reducible refine Kp.drewN ?_ _ | refine Kp.setCell ?_ (by dsimp only; omega) _))))
              (try go_wp2_with fail)
              refine hK.out _ _ ?_ (fun hHeld => ?_)
              · (try dsimp only); refine keepc8 e0 e1 e2 e3 e4 e5 e6 e7 ?_; exact (by repeat (first | with_reducible assumption | with_reducible exact Kp.refl _ | with_reducible refine Kp.drew ?_ | with_reducible refine Kp.alloc ?_ _ | with_reducible refine Kp.drewN ?_ _ | refine Kp.setCell ?_ (by dsimp only; omega) _))
              clear hK K
              (try simp only [Act.put, List.setIfInBounds_toArray, List.set_cons_zero, List.set_cons_succ])
              refine wpAnyH_ready (rs := [7]) (by kernel_rfl) (by simp) ?_
              refine AllReadyH.cons (at_succ (at_succ (at_succ (at_succ (at_succ (at_succ (at_succ (at_zero)))))))) (fun K hK => ?_) AllReadyH.nil
              go_simp
              refine hK.out _ _ ?_ (fun hHeld => ?_)
              · (try dsimp only); refine keepc8 e0 e1 e2 e3 e4 e5 e6 e7 ?_; exact (by repeat (first | with_reducible assumption | with_reducible exact Kp.refl _ | with_reducible refine Kp.drew ?_ | with_reducible refine Kp.alloc ?_ _ | with_reducible refine Kp.drewN ?_ _ | refine Kp.setCell ?_ (by dsimp only; omega) _))
              clear hK K
              (try simp only [Act.put, List.setIfInBounds_toArray, List.set_cons_zero, List.set_cons_succ])
              refine wpAnyH_ready (rs := [8]) (by kernel_rfl) (by simp) ?_
              refine AllReadyH.cons (at_succ (at_succ (at_succ (at_succ (at_succ (at_succ (at_succ (at_succ (at_zero))))))))) (fun K hK => ?_) AllReadyH.nil
              (first | (refine step_app_all (by rfl) (.tmp 77) (.tmp 79) (by rfl) w2.heap.size _ begun [(s : Int)] (some ⟨w2.heap.size, 0, none⟩) 1 1 (by rfl) (by rfl) (hob.kp (by repeat (first | with_reducible assumption | with_reducible exact Kp.refl _ | with_reducible refine Kp.drew ?_ | with_reducible refine Kp.alloc ?_ _ | with_reducible refine Kp.drewN ?_ _ | refine Kp.setCell ?_ (by dsimp only; omega) _))) ((one_new w2 (s : Int)).kp (Kp.trans (by repeat (first | with_reducible assumption | with_reducible exact Kp.refl _ | with_reducible refine Kp.drew ?_ | with_reducible refine Kp.alloc ?_ _ | with_reducible refine Kp.drewN ?_ _ | refine Kp.setCell ?_ (by dsimp only; omega) _)) hka)) rfl hr1.le (by simp; omega) ?_; intro v' w' ho' ht' _; have hk4 : Kp w2 w' := Own.kp_turn (hob.kp (by repeat (first | with_reducible assumption | with_reducible exact Kp.refl _ | with_reducible refine Kp.drew ?_ | with_reducible refine Kp.alloc ?_ _ | with_reducible refine Kp.drewN ?_ _ | refine Kp.setCell ?_ (by dsimp only; omega) _))) (by repeat (first | with_reducible assumption | with_reducible exact Kp.refl _ | with_reducible refine Kp.drew ?_ | with_reducible refine Kp.alloc ?_ _ | with_reducible refine Kp.drewN ?_ _ | refine Kp.setCell ?_ (by dsimp only; omega) _)) (Nat.le_refl _) ht') | (refine step_app (by rfl) (.tmp 77) (.tmp 79) (by rfl) w2.heap.size _ begun (s : Int) _ (by rfl) (by rfl) (by rfl) (hob.kp (by repeat (first | with_reducible assumption | with_reducible exact Kp.refl _ | with_reducible refine Kp.drew ?_ | with_reducible refine Kp.alloc ?_ _ | with_reducible refine Kp.drewN ?_ _ | refine Kp.setCell ?_ (by dsimp only; omega) _))) (Kp.le (by repeat (first | with_reducible assumption | with_reducible exact Kp.refl _ | with_reducible refine Kp.drew ?_ | with_reducible refine Kp.alloc ?_ _ | with_reducible refine Kp.drewN ?_ _ | refine Kp.setCell ?_ (by dsimp only; omega) _))) hlen2 ?_; intro v' w' ho' ht' _; have hk4 : Kp w2 w' := Own.kp_turn (hob.kp (by repeat (first | with_reducible assumption | with_reducible exact Kp.refl _ | with_reducible refine Kp.drew ?_ | with_reducible refine Kp.alloc ?_ _ | with_reducible refine Kp.drewN ?_ _ | refine Kp.setCell ?_ (by dsimp only; omega) _))) (by repeat (first | with_reducible assumption | with_reducible exact Kp.refl _ | with_reducible refine Kp.drew ?_ | with_reducible refine Kp.alloc ?_ _ | with_reducible refine Kp.drewN ?_ _ | refine Kp.setCell ?_ (by dsimp only; omega) _)) (Nat.le_refl _) ht'))
              refine hK.out _ _ ?_ (fun hHeld => ?_)
              · (try dsimp only); refine keepc8 e0 e1 e2 e3 e4 e5 e6 e7 ?_; exact (by repeat (first | with_reducible assumption | with_reducible exact Kp.refl _ | with_reducible refine Kp.drew ?_ | with_reducible refine Kp.alloc ?_ _ | with_reducible refine Kp.drewN ?_ _ | refine Kp.setCell ?_ (by dsimp only; omega) _))
              clear hK K
              (try simp only [Act.put, List.setIfInBounds_toArray, List.set_cons_zero, List.set_cons_succ])
              refine wpAnyH_ready (rs := [25]) (by kernel_rfl) (by simp) ?_
              refine AllReadyH.cons (at_succ (at_succ (at_succ (at_succ (at_succ (at_succ (at_succ (at_succ (at_succ (at_succ (at_succ (at_succ (at_succ (at_succ (at_succ (at_succ (at_succ (at_succ (at_succ (at_succ (at_succ (at_succ (at_succ (at_succ (at_succ (at_zero)))))))))))))))))))))))))) (fun K hK => ?_) AllReadyH.nil
              go_simp
              with_reducible refine Calls.mono (C3.out _ (by repeat (first | with_reducible assumption | with_reducible exact Kp.refl _ | with_reducible refine Kp.drew ?_ | with_reducible refine Kp.alloc ?_ _ | with_reducible refine Kp.drewN ?_ _ | refine Kp.setCell ?_ (by dsimp only; omega) _)) _ ho') ?_; rintro e wr3 ⟨v9, rfl, how, hka3⟩; have hr3 : Kp w2 wr3 := Kp.trans (by repeat (first | with_reducible assumption | with_reducible exact Kp.refl _ | with_reducible refine Kp.drew ?_ | with_reducible refine Kp.alloc ?_ _ | with_reducible refine Kp.drewN ?_ _ | refine Kp.setCell ?_ (by dsimp only; omega) _)) hka3; obtain ⟨A9, c9, rfl⟩ := how.shape; obtain ⟨g0, g1, g2⟩ := HFz.out _ hr3; have v2 := hr3.get e2; have v3 := hr3.get e3; have v4 := hr3.get e4
              (try go_wp2_with fail)
              refine hK.out _ _ ?_ (fun hHeld => ?_)
              · (try dsimp only); refine keepc8 e0 e1 e2 e3 e4 e5 e6 e7 ?_; exact (by repeat (first | with_reducible assumption | with_reducible exact Kp.refl _ | with_reducible refine Kp.drew ?_ | with_reducible refine Kp.alloc ?_ _ | with_reducible refine Kp.drewN ?_ _ | refine Kp.setCell ?_ (by dsimp only; omega) _))
              clear hK K
              (try simp only [Act.put, List.setIfInBounds_toArray, List.set_cons_zero, List.set_cons_succ])
              refine wpAnyH_done (by kernel_rfl) ?_ _
              refine wp_store_mid 62 (.tmp 13) (.tmp 97) rfl (w.heap.size + 1) 0 #[.slice A9 (whV1 (T (i + 1))).length c9, .int .i64 (whV2 (T (i + 1))), .bool (whV3 (T (i + 1)))] rfl rfl (HS2.out.go hr3).bt (by kernel_rfl) (by simp [Value.oneCell']) ?_
              (try simp only [Act.put, List.setIfInBounds_toArray, List.set_cons_zero, List.set_cons_succ])
              have HS3 := Lib.hid (HS2.out.set hr3 how (whV2 (T (i + 1))) (whV3 (T (i + 1))))
              have HOk2 : Hid (WhOk F.di.length (T (i + 1))) := by
                show WhOk _ _
                rw [HT2.out]
                exact wh_ok (fun j a => whAdd_bd HP.out.good HP.out.nb j a) n _ _ _ _ _ (by rw [List.length_append, Hk.out]; simp; omega) (by omega) hch2 HOk.out
              go_wp2_with fail
              go_roundw
              case rel => exact ⟨i + 1, _, by omega, by go_num, HS3.out, HOk2⟩
              case measure => simp [intOf]; omega
            · skip
              go_simp
              refine hK.out _ _ ?_ (fun hHeld => ?_)
              · (try dsimp only); refine keepc8 e0 e1 e2 e3 e4 e5 e6 e7 ?_; exact (by repeat (first | with_reducible assumption | with_reducible exact Kp.refl _ | with_reducible refine Kp.drew ?_ | with_reducible refine Kp.alloc ?_ _ | with_reducible refine Kp.drewN ?_ _ | refine Kp.setCell ?_ (by dsimp only; omega) _))
              clear hK K
              (try simp only [Act.put, List.setIfInBounds_toArray, List.set_cons_zero, List.set_cons_succ])
              refine wpAnyH_ready (rs := [5]) (by kernel_rfl) (by simp) ?_
              refine AllReadyH.cons (at_succ (at_succ (at_succ (at_succ (at_succ (at_zero)))))) (fun K hK => ?_) AllReadyH.nil
              go_simp
              with_reducible refine Calls.mono (C2.out _ (by repeat (first | with_reducible assumption | with_reducible exact Kp.refl _ | with_reducible refine Kp.drew ?_ | with_reducible refine Kp.alloc ?_ _ | with_reducible refine Kp.drewN ?_ _ | refine Kp.setCell ?_ (by dsimp only; omega) _))) ?_; rintro e wr1 ⟨bA, bc, rfl, hbo, hka⟩; have hr1 : Kp w2 wr1 := Kp.trans (by repeat (first | with_reducible assumption | with_reducible exact Kp.refl _ | with_reducible refine Kp.drew ?_ | with_reducible refine Kp.alloc ?_ _ | with_reducible refine Kp.drewN ?_ _ | refine Kp.setCell ?_ (by dsimp only; omega) _)) hka; have hob := Own.mono hbo (show w2.heap.size ≤ _ from Kp.le (by first | with_reducible assumption | exact (by repeat (first | with_reducible assumption | with_reducible exact Kp.refl _ | with_reducible refine Kp.drew ?_ | with_reducible refine Kp.alloc ?_ _ | with_reducible refine Kp.drewN ?_ _ | refine Kp.setCell ?_ (by dsimp only; omega) _))))
              (try go_wp2_with fail)
              refine hK.out _ _ ?_ (fun hHeld => ?_)
              · (try dsimp only); refine keepc8 e0 e1 e2 e3 e4 e5 e6 e7 ?_; exact (by repeat (first | with_reducible assumption | with_reducible exact Kp.refl _ | with_reducible refine Kp.drew ?_ | with_reducible refine Kp.alloc ?_ _ | with_reducible refine Kp.drewN ?_ _ | refine Kp.setCell ?_ (by dsimp only; omega) _))
              clear hK K
              (try simp only [Act.put, List.setIfInBounds_toArray, List.set_cons_zero, List.set_cons_succ])
              refine wpAnyH_ready (rs := [8]) (by kernel_rfl) (by simp) ?_
              refine AllReadyH.cons (at_succ (at_succ (at_succ (at_succ (at_succ (at_succ (at_succ (at_succ (at_zero))))))))) (fun K hK => ?_) AllReadyH.nil
              (first | (refine step_app_all (by rfl) (.tmp 77) (.tmp 79) (by rfl) w2.heap.size _ begun [(s : Int)] (some ⟨w2.heap.size, 0, none⟩) 1 1 (by rfl) (by rfl) (hob.kp (by repeat (first | with_reducible assumption | with_reducible exact Kp.refl _ | with_reducible refine Kp.drew ?_ | with_reducible refine Kp.alloc ?_ _ | with_reducible refine Kp.drewN ?_ _ | refine Kp.setCell ?_ (by dsimp only; omega) _))) ((one_new w2 (s : Int)).kp (Kp.trans (by repeat (first | with_reducible assumption | with_reducible exact Kp.refl _ | with_reducible refine Kp.drew ?_ | with_reducible refine Kp.alloc ?_ _ | with_reducible refine Kp.drewN ?_ _ | refine Kp.setCell ?_ (by dsimp only; omega) _)) hka)) rfl hr1.le (by simp; omega) ?_; intro v' w' ho' ht' _; have hk4 : Kp w2 w' := Own.kp_turn (hob.kp (by repeat (first | with_reducible assumption | with_reducible exact Kp.refl _ | with_reducible refine Kp.drew ?_ | with_reducible refine Kp.alloc ?_ _ | with_reducible refine Kp.drewN ?_ _ | refine Kp.setCell ?_ (by dsimp only; omega) _))) (by repeat (first | with_reducible assumption | with_reducible exact Kp.refl _ | with_reducible refine Kp.drew ?_ | with_reducible refine Kp.alloc ?_ _ | with_reducible refine Kp.drewN ?_ _ | refine Kp.setCell ?_ (by dsimp only; omega) _)) (Nat.le_refl _) ht') | (refine step_app (by rfl) (.tmp 77) (.tmp 79) (by rfl) w2.heap.size _ begun (s : Int) _ (by rfl) (by rfl) (by rfl) (hob.kp (by repeat (first | with_reducible assumption | with_reducible exact Kp.refl _ | with_reducible refine Kp.drew ?_ | with_reducible refine Kp.alloc ?_ _ | with_reducible refine Kp.drewN ?_ _ | refine Kp.setCell ?_ (by dsimp only; omega) _))) (Kp.le (by repeat (first | with_reducible assumption | with_reducible exact Kp.refl _ | with_reducible refine Kp.drew ?_ | with_reducible refine Kp.alloc ?_ _ | with_reducible refine Kp.drewN ?_ _ | refine Kp.setCell ?_ (by dsimp only; omega) _))) hlen2 ?_; intro v' w' ho' ht' _; have hk4 : Kp w2 w' := Own.kp_turn (hob.kp (by repeat (first | with_reducible assumption | with_reducible exact Kp.refl _ | with_reducible refine Kp.drew ?_ | with_reducible refine Kp.alloc ?_ _ | with_reducible refine Kp.drewN ?_ _ | refine Kp.setCell ?_ (by dsimp only; omega) _))) (by repeat (first | with_reducible assumption | with_reducible exact Kp.refl _ | with_reducible refine Kp.drew ?_ | with_reducible refine Kp.alloc ?_ _ | with_reducible refine Kp.drewN ?_ _ | refine Kp.setCell ?_ (by dsimp only; omega) _)) (Nat.le_refl _) ht'))
              refine hK.out _ _ ?_ (fun hHeld => ?_)
              · (try dsimp only); refine keepc8 e0 e1 e2 e3 e4 e5 e6 e7 ?_; exact (by repeat (first | with_reducible assumption | with_reducible exact Kp.refl _ | with_reducible refine Kp.drew ?_ | with_reducible refine Kp.alloc ?_ _ | with_reducible refine Kp.drewN ?_ _ | refine Kp.setCell ?_ (by dsimp only; omega) _))
              clear hK K
              (try simp only [Act.put, List.setIfInBounds_toArray, List.set_cons_zero, List.set_cons_succ])
              refine wpAnyH_ready (rs := [25]) (by kernel_rfl) (by simp) ?_
              refine AllReadyH.cons (at_succ (at_succ (at_succ (at_succ (at_succ (at_succ (at_succ (at_succ (at_succ (at_succ (at_succ (at_succ (at_succ (at_succ (at_succ (at_succ (at_succ (at_succ (at_succ (at_succ (at_succ (at_succ (at_succ (at_succ (at_succ (at_zero)))))))))))))))))))))))))) (fun K hK => ?_) AllReadyH.nil
              go_simp
              with_reducible refine Calls.mono (C3.out _ (by repeat (first | with_reducible assumption | with_reducible exact Kp.refl _ | with_reducible refine Kp.drew ?_ | with_reducible refine Kp.alloc ?_ _ | with_reducible refine Kp.drewN ?_ _ | refine Kp.setCell ?_ (by dsimp only; omega) _)) _ ho') ?_; rintro e wr3 ⟨v9, rfl, how, hka3⟩; have hr3 : Kp w2 wr3 := Kp.trans (by repeat (first | with_reducible assumption | with_reducible exact Kp.refl _ | with_reducible refine Kp.drew ?_ | with_reducible refine Kp.alloc ?_ _ | with_reducible refine Kp.drewN ?_ _ | refine Kp.setCell ?_ (by dsimp only; omega) _)) hka3; obtain ⟨A9, c9, rfl⟩ := how.shape; obtain ⟨g0, g1, g2⟩ := HFz.out _ hr3; have v2 := hr3.get e2; have v3 := hr3.get e3; have v4 := hr3.get e4
              (try go_wp2_with fail)
              refine hK.out _ _ ?_ (fun hHeld => ?_)
              · (try dsimp only); refine keepc8 e0 e1 e2 e3 e4 e5 e6 e7 ?_; exact (by repeat (first | with_reducible assumption | with_reducible exact Kp.refl _ | with_reducible refine Kp.drew ?_ | with_reducible refine Kp.alloc ?_ _ | with_reducible refine Kp.drewN ?_ _ | refine Kp.setCell ?_ (by dsimp only; omega) _))
              clear hK K
              (try simp only [Act.put, List.setIfInBounds_toArray, List.set_cons_zero, List.set_cons_succ])
              refine wpAnyH_done (by kernel_rfl) ?_ _
              refine wp_store_mid 62 (.tmp 13) (.tmp 97) rfl (w.heap.size + 1) 0 #[.slice A9 (whV1 (T (i + 1))).length c9, .int .i64 (whV2 (T (i + 1))), .bool (whV3 (T (i + 1)))] rfl rfl (HS2.out.go hr3).bt (by kernel_rfl) (by simp [Value.oneCell']) ?_
              (try simp only [Act.put, List.setIfInBounds_toArray, List.set_cons_zero, List.set_cons_succ])
              have HS3 := Lib.hid (HS2.out.set hr3 how (whV2 (T (i + 1))) (whV3 (T (i + 1))))
              have HOk2 : Hid (WhOk F.di.length (T (i + 1))) := by
                show WhOk _ _
                rw [HT2.out]
                exact wh_ok (fun j a => whAdd_bd HP.out.good HP.out.nb j a) n _ _ _ _ _ (by rw [List.length_append, Hk.out]; simp; omega) (by omega) hch2 HOk.out
              go_wp2_with fail
              go_roundw
              case rel => exact ⟨i + 1, _, by omega, by go_num, HS3.out, HOk2⟩
              case measure => simp [intOf]; omega
        · obtain rfl : i = n3 := by omega
          obtain ⟨q0, q1, q2⟩ := hst.best
          obtain ⟨vA, vc, rfl⟩ := hst.own.shape
          have HST := Lib.hid hst
          clear hst
          go_wp2_with (first | (refine wpList_store_mid rfl 62 (.tmp 14) (.tmp 98) rfl (w.heap.size + 1 + 1) 0 #[.slice vA (whV1 (T i)).length vc, .int .i64 (whV2 (T i)), .bool (whV3 (T i))] rfl rfl HST.out.rt (by kernel_rfl) (by simp [Value.oneCell']) ?_) | fail)
          obtain ⟨z0, z1, z2, z3, z4⟩ := HST.out.ret (.slice vA (whV1 (T i)).length vc) (.int .i64 (whV2 (T i))) (.bool (whV3 (T i))) HST.out.own
          exact bodyPost_ret (v := .agg #[.slice vA (whV1 (T i)).length vc, .int .i64 (whV2 (T i)), .bool (whV3 (T i))]) (by simp [results, Try.results34, go_sem, z0, z1, z2]) rfl ⟨_, rfl, z3, z4⟩
end Go.Proofs.Ytgdicmeabppngaa

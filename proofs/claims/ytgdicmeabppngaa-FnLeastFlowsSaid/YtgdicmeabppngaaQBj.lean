/- LeastFlow: the reference's least cost with given first numbers. No condition. -/
import Derived.Test.YtgdicmeabppngaaQBi
import Derived.Test.YtgdicmeabppngaaQAs
import Derived.Test.YtgdicmeabppngaaQAu
import Derived.StillTailTactics
namespace Go.Proofs.Ytgdicmeabppngaa
open Go.RowKit Go.Sort

/-- The first k of the given numbers, as a table. -/
def vG (M : Nat) (gv : List Int) (k j a : Nat) : Int := if j * M + a < k then lget gv (j * M + a) else 0
theorem vG_succ {M : Nat} (gv : List Int) {j a : Nat} (ha : a < M) : ∀ i b, b < M → vG M gv (j * M + a + 1) i b = upd2 (vG M gv (j * M + a)) j a (lget gv (j * M + a)) i b := fun i b hb => by
  rw [upd2_same]
  unfold vG
  by_cases e : i = j ∧ b = a
  · obtain ⟨rfl, rfl⟩ := e
    rw [if_pos (by omega), if_pos ⟨rfl, rfl⟩]
  · rw [if_neg e]
    have hne : i * M + b ≠ j * M + a := fun h => e (pos_eq hb ha h)
    by_cases h : i * M + b < j * M + a
    · rw [if_pos (by omega), if_pos h]
    · rw [if_neg (by omega), if_neg h]
theorem vG_at {M : Nat} (gv : List Int) {j a : Nat} : vG M gv (j * M + a) j a = 0 := if_neg (by omega)
theorem vG_zero (M : Nat) (gv : List Int) (j a : Nat) : vG M gv 0 j a = 0 := if_neg (by omega)
theorem row_congr {M : Nat} {x y : Nat → Nat → Int} {j : Nat} (h : ∀ a, a < M → x j a = y j a) : rowS M x j = rowS M y j := sumTo_congr h
theorem col_congr {J : Nat} {x y : Nat → Nat → Int} {a : Nat} (h : ∀ j, j < J → x j a = y j a) : colT J x a = colT J y a := sumTo_congr h
theorem vG_row {M : Nat} (gv : List Int) {j a : Nat} (ha : a < M) (i : Nat) : rowS M (vG M gv (j * M + a + 1)) i = rowS M (vG M gv (j * M + a)) i + if i = j then lget gv (j * M + a) else 0 := by
  rw [row_congr (fun b hb => vG_succ gv ha i b hb), row_upd2 _ _ ha, vG_at, Int.sub_zero]
theorem vG_col {J M : Nat} (gv : List Int) {j a : Nat} (hj : j < J) (ha : a < M) {b : Nat} (hb : b < M) : colT J (vG M gv (j * M + a + 1)) b = colT J (vG M gv (j * M + a)) b + if b = a then lget gv (j * M + a) else 0 := by
  rw [col_congr (fun i _ => vG_succ gv ha i b hb), col_upd2 _ _ hj, vG_at, Int.sub_zero]
theorem vG_cost {J M : Nat} (d : Nat → Nat → Int) (gv : List Int) {j a : Nat} (hj : j < J) (ha : a < M) : costT J M d (vG M gv (j * M + a + 1)) = costT J M d (vG M gv (j * M + a)) + lget gv (j * M + a) * d j a := by
  rw [cost_congr (fun i b _ hb => vG_succ gv ha i b hb), cost_upd2 _ _ _ hj ha, vG_at, Int.sub_zero]
theorem mayT_succ {M : Nat} {may : Nat → Nat → Bool} {j a i b : Nat} (ha : a < M) (hb : b < M) : mayT M may (j * M + a + 1) i b = upd2b (mayT M may (j * M + a)) j a false i b := by
  unfold upd2b mayT
  by_cases e : i = j ∧ b = a
  · obtain ⟨rfl, rfl⟩ := e
    rw [if_pos ⟨rfl, rfl⟩, decide_eq_false (by omega), Bool.and_false]
  · rw [if_neg e]
    have hne : i * M + b ≠ j * M + a := fun h => e (pos_eq hb ha h)
    congr 1
    exact decide_eq_decide.2 (by omega)
theorem NetS.congr {w : World} {base : Nat} {L : NetL} {J M : Nat} {nl lf nl' lf' : Nat → Int} {fl : Nat → Nat → Int} {may may' : Nat → Nat → Bool} (h : NetS w base L J M nl lf fl may) (h1 : ∀ j, j < J → nl' j = nl j) (h2 : ∀ a, a < M → lf' a = lf a) (h3 : ∀ j a, j < J → a < M → may' j a = may j a) : NetS w base L J M nl' lf' fl may' := by
  have c : ∀ {f f' : Nat → Int} {n : Nat}, (∀ a, a < n → f' a = f a) → mapTo f' n = mapTo f n := fun hh => by
    unfold mapTo
    exact List.map_congr_left (fun x hx => hh x (List.mem_range.1 hx))
  exact ⟨fun hj => by rw [c h1]; exact h.nd hj, h.na, by rw [c h2]; exact h.rm, h.fa, h.fl, h.ma, h.mh, fun j hj => by
    have e : boolRow M (may' j) = boolRow M (may j) := by
      unfold boolRow
      exact List.map_congr_left (fun x hx => by rw [h3 j x hj (List.mem_range.1 hx)])
    rw [e]; exact h.mr j hj, h.a1, h.a2⟩
theorem sumTo_le_c {g : Nat → Int} {b : Int} : ∀ k : Nat, (∀ i, i < k → g i ≤ b) → sumTo g k ≤ k * b
  | 0, _ => by rw [sumTo_zero]; simp
  | k + 1, h => by
    have h1 := sumTo_le_c k (fun i hi => h i (by omega))
    have h2 := h k (by omega)
    rw [sumTo_succ]
    push_cast
    rw [Int.add_mul]; omega
theorem cost_row_bd {J M : Nat} {d x : Nat → Nat → Int} (hx : ∀ j a, 0 ≤ x j a) (hd : ∀ j a, 0 ≤ d j a ∧ d j a ≤ 99) (hr : ∀ j, j < J → rowS M x j ≤ 5) (hJ : J ≤ 7) : 0 ≤ costT J M d x ∧ costT J M d x ≤ 3465 := by
  constructor
  · exact sumTo_nn (fun j _ => sumTo_nn (fun a _ => Int.mul_nonneg (hx j a) (hd j a).1))
  · have h1 : costT J M d x ≤ J * 495 := sumTo_le_c J (fun j hj => by
      have h2 : sumTo (fun a => x j a * d j a) M ≤ sumTo (fun a => x j a * 99) M := sumTo_mono' (fun a _ => Int.mul_le_mul_of_nonneg_left (hd j a).2 (hx j a))
      rw [sumTo_mulc] at h2
      have h3 := hr j hj
      have h4 : sumTo (x j) M ≤ 5 := h3
      omega)
    omega
theorem vG_nn {M : Nat} {gv : List Int} (h : ∀ i, 0 ≤ lget gv i) (k j a : Nat) : 0 ≤ vG M gv k j a := by
  unfold vG
  split
  · exact h _
  · omega
/-- What begins a haul leaves needs and rooms enough. -/
theorem ext_room {F : Fld} {rooms needs S gv : List Int} {c : Int} {T k : Nat} (hP : HaulP F rooms needs S) (hE : ExtG F.di.length F.op.length (dF F) (openM S) (lget needs) (lget rooms) c T (vG F.op.length gv T)) (hk : k ≤ T) :
    (∀ j, j < F.di.length → 0 ≤ lget needs j - rowS F.op.length (vG F.op.length gv k) j) ∧ (∀ a, a < F.op.length → 0 ≤ startR S rooms a - colT F.di.length (vG F.op.length gv k) a) := by
  obtain ⟨x, h1, _, h3⟩ := hE
  have hle : ∀ j a, j < F.di.length → a < F.op.length → vG F.op.length gv k j a ≤ x j a := fun j a hj ha => by
    by_cases h : j * F.op.length + a < k
    · have := h3 j a hj ha (by omega)
      rw [this]
      unfold vG
      rw [if_pos h, if_pos (by omega)]; exact Int.le_refl _
    · unfold vG
      rw [if_neg h]; exact h1.nn j a hj ha
  refine ⟨fun j hj => ?_, fun a ha => ?_⟩
  · have h4 : rowS F.op.length (vG F.op.length gv k) j ≤ rowS F.op.length x j := sumTo_mono' (fun a ha => hle j a hj ha)
    have := h1.row j hj
    omega
  · have h4 : colT F.di.length (vG F.op.length gv k) a ≤ colT F.di.length x a := sumTo_mono' (fun j hj => hle j a hj ha)
    have h5 := h1.col a ha
    unfold startR
    split
    · omega
    · rename_i hc
      have h6 : colT F.di.length x a = 0 := by
        have : ∀ j, j < F.di.length → x j a = 0 := fun j hj => by
          have h7 := h1.nn j a hj ha
          have h8 : ¬ 0 < x j a := fun hp => hc (h1.may j a hj ha hp)
          omega
        unfold colT
        rw [sumTo_congr (h := fun _ => 0) this]; exact sumTo_c0 _
      omega
/-- The first numbers lie where they may. -/
theorem vG_may {F : Fld} {rooms S gv : List Int} {T : Nat} (hg : ∀ i, 0 ≤ lget gv i) (hn : ∀ a, a < F.op.length → 0 ≤ startR S rooms a - colT F.di.length (vG F.op.length gv T) a) : ∀ j a, j < F.di.length → a < F.op.length → 0 < vG F.op.length gv T j a → openM S j a = true := fun j a hj ha hp => by
  cases h : openM S j a
  · exfalso
    have h1 := hn a ha
    have h2 : vG F.op.length gv T j a ≤ colT F.di.length (vG F.op.length gv T) a := sumTo_ge (g := fun j => vG F.op.length gv T j a) (fun i _ => vG_nn hg T i a) hj
    have h3 : startR S rooms a = 0 := by unfold startR; rw [if_neg (by unfold openM at h; rw [h]; simp)]
    omega
  · rfl
/-- A net in a variable. -/
structure WtS (wb wr : World) (N : Nat) (L : NetL) (J M : Nat) (nl lf : Nat → Int) (may : Nat → Nat → Bool) : Prop where
  ns : NetS wr wb.heap.size L J M nl lf (fun _ _ => 0) may
  rg : wr.rangeAt N 0 [.slice L.nA J L.cn, .slice (some ⟨L.gr, 0, none⟩) M L.cr, .slice L.fA J L.cf, .slice L.mA J L.cm]
  th : wr.there N 0 4
  kp : Kp wb wr
  lo : NetLo L J N
  am : ∀ i j, i < J → j < J → i ≠ j → L.Bm i ≠ L.Bm j
section
variable {wb wr wr' : World} {N : Nat} {L : NetL} {J M : Nat} {nl lf : Nat → Int} {may : Nat → Nat → Bool}
theorem WtS.go (h : WtS wb wr N L J M nl lf may) (hk : Kp wr wr') : WtS wb wr' N L J M nl lf may := ⟨h.ns.kp hk, range_kp h.rg hk, there_kp h.th hk, h.kp.trans hk, h.lo, h.am⟩
theorem WtS.fields (h : WtS wb wr N L J M nl lf may) (hJ : 0 < J) : wr.cell? ⟨N, 0, none⟩ = some (.slice (some ⟨L.gn, 0, none⟩) J L.cn) ∧ wr.cell? ⟨N, 1, none⟩ = some (.slice (some ⟨L.gr, 0, none⟩) M L.cr) ∧ wr.cell? ⟨N, 3, none⟩ = some (.slice (some ⟨L.gm, 0, none⟩) J L.cm) :=
  ⟨by rw [← h.ns.na hJ]; exact h.rg 0 _ rfl, h.rg 1 _ rfl, by rw [← h.ns.ma hJ]; exact h.rg 3 _ rfl⟩
theorem WtS.turn (h : WtS wb wr N L J M nl lf may) {nl' lf' : Nat → Int} {may' : Nat → Nat → Bool} {b : Nat} (hn : NetS wr' wb.heap.size L J M nl' lf' (fun _ _ => 0) may') (ht : Turn (fun i => i = b) wr wr') (hb : wb.heap.size ≤ b) (hl : b < N) : WtS wb wr' N L J M nl' lf' may' :=
  ⟨hn, ht.range h.rg (fun e => by have e2 : N = b := e; omega), ht.there h.th (fun e => by have e2 : N = b := e; omega), h.kp.turn ht (fun i e => by have e2 : i = b := e; omega), h.lo, h.am⟩
theorem WtS.need (h : WtS wb wr N L J M nl lf may) {j : Nat} (hj : j < J) (z : Int) : WtS wb (wr.setCell ⟨L.gn, j, none⟩ (.int .i64 z)) N L J M (upd nl j z) lf may := by
  obtain ⟨_, _, hb, h3⟩ := h.ns.setNeed hj
  exact h.turn (h3 z).1 (h3 z).2 hb (h.lo.gn (by omega))
theorem WtS.room (h : WtS wb wr N L J M nl lf may) {a : Nat} (ha : a < M) (z : Int) : WtS wb (wr.setCell ⟨L.gr, a, none⟩ (.int .i64 z)) N L J M nl (upd lf a z) may := by
  obtain ⟨_, _, hb, h3⟩ := h.ns.setRoom ha
  exact h.turn (h3 z).1 (h3 z).2 hb h.lo.gr
theorem WtS.may_ (h : WtS wb wr N L J M nl lf may) {j a : Nat} (hj : j < J) (ha : a < M) (z : Bool) : WtS wb (wr.setCell ⟨L.Bm j, a, none⟩ (.bool z)) N L J M nl lf (upd2b may j a z) := by
  obtain ⟨_, _, _, hb, h3⟩ := h.ns.setMay h.am hj ha
  exact h.turn (h3 z).1 (h3 z).2 hb (h.lo.bm j hj)
theorem WtS.congr (h : WtS wb wr N L J M nl lf may) {nl' lf' : Nat → Int} {may' : Nat → Nat → Bool} (h1 : ∀ j, j < J → nl' j = nl j) (h2 : ∀ a, a < M → lf' a = lf a) (h3 : ∀ j a, j < J → a < M → may' j a = may j a) : WtS wb wr N L J M nl' lf' may' := ⟨h.ns.congr h1 h2 h3, h.rg, h.th, h.kp, h.lo, h.am⟩
end
set_option maxRecDepth 100000 in
set_option maxHeartbeats 4000000 in
theorem l7With_any (f : Value) (F : Fld) (A1 : Option Addr) (rooms : List Int) (n1 c1 : Nat) (A2 : Option Addr) (needs : List Int) (n2 c2 : Nat) (A3 : Option Addr) (S : List Int) (n3 c3 : Nat) (A4 : Option Addr) (gv : List Int) (T c4 : Nat) (cc : Int) (w : World) (hf : FldAt w f F) (h1 : IntsAt w A1 rooms) (hn1 : rooms.length = n1) (h2 : IntsAt w A2 needs) (hn2 : needs.length = n2) (h3 : IntsAt w A3 S) (hn3 : S.length = n3) (h4 : IntsAt w A4 gv) (hn4 : gv.length = T) (hP : HaulP F rooms needs S)
    (hT : T ≤ F.di.length * F.op.length) (hgb : ∀ i, 0 ≤ lget gv i ∧ lget gv i ≤ 1000) (hhb : haulB F rooms needs S = true) (hl : IsLst F.di.length F.op.length (dF F) (openM S) (lget needs) (lget rooms) cc) :
    Calls Try.prog 53 #[f, .slice A1 n1 c1, .slice A2 n2 c2, .slice A3 n3 c3, .slice A4 T c4] w fun e w' => ∃ r : Int, e = .returned (.int .i64 r) ∧ (r = cc ↔ ExtG F.di.length F.op.length (dF F) (openM S) (lget needs) (lget rooms) cc T (vG F.op.length gv T)) ∧ Kp w w' := by
  obtain ⟨A, c, B, d, rfl, hA, hB⟩ := hf
  have hk0 : Kp w (w.alloc (.cells #[.slice A F.op.length c, .slice B F.di.length d] 27)) := (Kp.refl w).alloc _
  obtain ⟨d0, d1⟩ := box2 w (.slice A F.op.length c) (.slice B F.di.length d) 27
  have hFA := FldAt.kp (show FldAt w (.agg #[.slice A F.op.length c, .slice B F.di.length d]) F from ⟨A, c, B, d, rfl, hA, hB⟩) hk0
  have h8 := (goodF_iff.1 hP.good).2.2.1
  have h7 := (goodF_iff.1 hP.good).1
  have HP := Lib.hid hP
  have HB := Lib.hid (hB.kp hk0)
  replace h4 := h4.kp hk0
  have C0 := Lib.hid (l7Start_any2 (.agg #[.slice A F.op.length c, .slice B F.di.length d]) F A1 rooms n1 c1 A2 needs n2 c2 A3 S n3 c3 99 _ hFA hP.good (h1.kp hk0) hn1 (h2.kp hk0) hn2 (h3.kp hk0) hn3 (by rw [← hn1]; exact hP.rl) (by rw [← hn2]; exact hP.nl) (fun x hx => by have := set_mem hP.set_ x hx; omega))
  have HBc : Hid (0 ≤ cc) := by
    obtain ⟨x, hx, hc⟩ := hl.some_
    show 0 ≤ cc
    rw [← hc]
    exact sumTo_nn (fun j hj => sumTo_nn (fun a ha => Int.mul_nonneg (hx.nn j a hj ha) (dF_bd hP.good j a).1))
  have Hhb := Lib.hid hhb
  have Hn4 := Lib.hid hn4; have HT := Lib.hid hT; have Hgb := Lib.hid hgb; have HL := Lib.hid hl
  clear hA hB hn1 hn2 hn3 h1 h2 h3 hn4 hT hgb hl hP hhb
  go_enter Try.func53, Try.ntmps53
  go_wp2_with fail
  with_reducible refine Calls.mono C0.out ?_
  rintro e w1 ⟨L, rfl, hN, hk1, hAm⟩
  clear C0
  have hsz : Hid ((w.alloc (.cells #[.slice A F.op.length c, .slice B F.di.length d] 27)).heap.size = w.heap.size + 1) := by show _ = _; simp
  generalize w.alloc (.cells #[.slice A F.op.length c, .slice B F.di.length d] 27) = wb at *
  have hkb : Kp wb wb := Kp.refl _
  have hkw := hk0
  have HAm := Lib.hid hAm
  have HN := Lib.hid hN
  clear hAm hN
  unfold NetL.val
  have hk2 : Kp w1 (w1.alloc (.cells #[.slice L.nA F.di.length L.cn, .slice (some ⟨L.gr, 0, none⟩) F.op.length L.cr, .slice L.fA F.di.length L.cf, .slice L.mA F.di.length L.cm] 83)) := (Kp.refl w1).alloc _
  have hrg : (w1.alloc (.cells #[.slice L.nA F.di.length L.cn, .slice (some ⟨L.gr, 0, none⟩) F.op.length L.cr, .slice L.fA F.di.length L.cf, .slice L.mA F.di.length L.cm] 83)).rangeAt w1.heap.size 0 [.slice L.nA F.di.length L.cn, .slice (some ⟨L.gr, 0, none⟩) F.op.length L.cr, .slice L.fA F.di.length L.cf, .slice L.mA F.di.length L.cm] := range_new' _ [_, _, _, _] _ rfl
  have hth : (w1.alloc (.cells #[.slice L.nA F.di.length L.cn, .slice (some ⟨L.gr, 0, none⟩) F.op.length L.cr, .slice L.fA F.di.length L.cf, .slice L.mA F.di.length L.cm] 83)).there w1.heap.size 0 4 := there_new' _ #[.slice L.nA F.di.length L.cn, .slice (some ⟨L.gr, 0, none⟩) F.op.length L.cr, .slice L.fA F.di.length L.cf, .slice L.mA F.di.length L.cm] _ rfl
  obtain ⟨N, HN0⟩ : ∃ N, Hid (w1.heap.size = N) := ⟨_, rfl⟩
  have hN2 := (HN.out.kp hk2).congr (nl' := fun j => lget needs j - rowS F.op.length (vG F.op.length gv 0) j) (lf' := fun a => startR S rooms a - colT F.di.length (vG F.op.length gv 0) a) (may' := mayT F.op.length (startM F S 99) 0) (fun j _ => by
    have e : rowS F.op.length (vG F.op.length gv 0) j = 0 := by rw [row_congr (y := fun _ _ => 0) (fun a _ => vG_zero _ _ _ _)]; exact sumTo_c0 _
    rw [e]; omega) (fun a _ => by
    have e : colT F.di.length (vG F.op.length gv 0) a = 0 := by rw [col_congr (y := fun _ _ => 0) (fun j _ => vG_zero _ _ _ _)]; exact sumTo_c0 _
    rw [e]; omega) (fun j a _ _ => by unfold mayT; rw [decide_eq_true (Nat.zero_le _), Bool.and_true])
  have HX := Lib.hid (show ∃ w5 : World, w5 = (w1.alloc (.cells #[.slice L.nA F.di.length L.cn, .slice (some ⟨L.gr, 0, none⟩) F.op.length L.cr, .slice L.fA F.di.length L.cf, .slice L.mA F.di.length L.cm] 83)) from ⟨_, rfl⟩)
  rw [HN0.out] at hrg hth
  have HW := Lib.hid (show WtS wb (w1.alloc (.cells #[.slice L.nA F.di.length L.cn, .slice (some ⟨L.gr, 0, none⟩) F.op.length L.cr, .slice L.fA F.di.length L.cf, .slice L.mA F.di.length L.cm] 83)) N L F.di.length F.op.length (fun j => lget needs j - rowS F.op.length (vG F.op.length gv 0) j) (fun a => startR S rooms a - colT F.di.length (vG F.op.length gv 0) a) (mayT F.op.length (startM F S 99) 0) from ⟨hN2, hrg, hth, hk1.trans hk2, HN.out.lo (by rw [HN0.out]; exact Nat.le_refl _), HAm.out⟩)
  have hc0 : Hid (costT F.di.length F.op.length (dF F) (vG F.op.length gv 0) = 0) := by
    show _ = _
    have e : ∀ j, sumTo (fun a => vG F.op.length gv 0 j a * dF F j a) F.op.length = 0 := fun j => by
      rw [show (fun a => vG F.op.length gv 0 j a * dF F j a) = fun _ => 0 from by funext a; rw [vG_zero, Int.zero_mul]]; exact sumTo_c0 _
    unfold costT
    rw [show (fun j => sumTo (fun a => vG F.op.length gv 0 j a * dF F j a) F.op.length) = fun _ => 0 from by funext j; exact e j]
    exact sumTo_c0 _
  have hm4 : T ≤ 9223372036854775807 := by have := h4.1; rw [Hn4.out] at this; exact this
  clear hk2 hrg hth hN2
  go_wp2_with fail
  rw [HN0.out]
  go_loopw [12, 13] (fun sv iv wr => ∃ k : Nat, k ≤ T ∧ iv = .int .i64 k ∧ sv = .int .i64 (costT F.di.length F.op.length (dF F) (vG F.op.length gv k)) ∧ WtS wb wr N L F.di.length F.op.length (fun j => lget needs j - rowS F.op.length (vG F.op.length gv k) j) (fun a => startR S rooms a - colT F.di.length (vG F.op.length gv k) a) (mayT F.op.length (startM F S 99) k) ∧ Hid ((∀ j, j < F.di.length → 0 ≤ lget needs j - rowS F.op.length (vG F.op.length gv k) j) ∧ (∀ a, a < F.op.length → 0 ≤ startR S rooms a - colT F.di.length (vG F.op.length gv k) a))) (fun _ iv _ => T - (intOf iv).toNat)
  case atStart => exact ⟨0, by omega, rfl, by rw [hc0.out], HW.out, by
    refine ⟨fun j hj => ?_, fun a ha => ?_⟩
    · rw [row_congr (y := fun _ _ => 0) (fun a _ => vG_zero _ _ _ _), show rowS F.op.length (fun _ _ => 0) j = 0 from sumTo_c0 _]; have := HP.out.nb j; omega
    · rw [col_congr (y := fun _ _ => 0) (fun j _ => vG_zero _ _ _ _), show colT F.di.length (fun _ _ => 0) a = 0 from sumTo_c0 _]; have := startR_nn S HP.out.rb a; omega⟩
  case round =>
    clear HW hc0
    obtain ⟨k, hk, rfl, rfl, hws, Hnn⟩ := hrel
    obtain ⟨wk, rfl⟩ : ∃ wk : World, wk = wr := ⟨_, rfl⟩
    by_cases hlk : k < T
    · have hMp : 0 < F.op.length := h7.1
      obtain ⟨j, Hj⟩ : ∃ j, Hid (k / F.op.length = j) := ⟨_, rfl⟩
      obtain ⟨a, Ha⟩ : ∃ a, Hid (k % F.op.length = a) := ⟨_, rfl⟩
      have hkja : Hid (k = j * F.op.length + a) := by
        show _ = _
        rw [← Hj.out, ← Ha.out, Nat.mul_comm]; exact (Nat.div_add_mod _ _).symm
      have haM : a < F.op.length := by rw [← Ha.out]; exact Nat.mod_lt _ hMp
      have hjJ : j < F.di.length := by
        rw [← Hj.out]
        exact Nat.div_lt_of_lt_mul (by have := HT.out; rw [Nat.mul_comm]; omega)
      have hqu : Int.tdiv (k : Int) (F.op.length : Int) = (j : Int) := by rw [← Hj.out]; rfl
      have hre : Int.tmod (k : Int) (F.op.length : Int) = (a : Int) := by rw [← Ha.out]; rfl
      have hM0 : ((F.op.length : Int) == 0) = false := by rw [beq_eq_false_iff_ne]; omega
      have hM1 : ¬ (F.op.length : Int) = 0 := by omega
      have y0 := hws.kp.get d0
      have y1 := hws.kp.get d1
      go_wp2_with fail
      go_region
      have Q1 := Lib.hid (hws.go (Kp.refl wk).drew)
      have lk : k < gv.length := by rw [Hn4.out]; exact hlk
      obtain ⟨ad4, e4_, hd4_⟩ := h4.at_ lk
      have He4 := Lib.hid e4_
      have Hd4 := Lib.hid (fun (wx : World) (hx : Kp wb wx) => by have := hx.get hd4_; rw [← lget_at lk] at this; exact (this : wx.cell? (ad4.add k) = some (.int .i64 (lget gv k))))
      obtain rfl := He4.out
      obtain ⟨xv, Hxv⟩ : ∃ z, Hid (lget gv k = z) := ⟨_, rfl⟩
      have Hxb := Hgb.out k
      rw [Hxv.out] at Hxb Hd4
      clear e4_ hd4_ He4 hws y0 y1 hqu hre
      generalize wk.drew = w5 at *
      have hJ0 : 0 < F.di.length := by omega
      have hjI : (j : Int) < (F.di.length : Int) := by omega
      have haI : (a : Int) < (F.op.length : Int) := by omega
      have hkI : (k : Int) < (T : Int) := by omega
      obtain ⟨nj, Hnj⟩ : ∃ z, Hid (lget needs j - rowS F.op.length (vG F.op.length gv k) j = z) := ⟨_, rfl⟩
      obtain ⟨la, Hla⟩ : ∃ z, Hid (startR S rooms a - colT F.di.length (vG F.op.length gv k) a = z) := ⟨_, rfl⟩
      have hnb : 0 ≤ nj ∧ nj ≤ 5 := by
        have h1 := Hnn.out.1 j hjJ
        rw [Hnj.out] at h1
        have h2 := (HP.out.nb j).2
        have h3 : 0 ≤ rowS F.op.length (vG F.op.length gv k) j := sumTo_nn (fun b _ => by unfold vG; split; exact (Hgb.out _).1; omega)
        have := Hnj.out; omega
      have hlb : 0 ≤ la ∧ la ≤ 20 := by
        have h1 := Hnn.out.2 a haM
        rw [Hla.out] at h1
        have h2 := (HP.out.rb a).2
        have h4 := (HP.out.rb a).1
        have h3 : 0 ≤ colT F.di.length (vG F.op.length gv k) a := sumTo_nn (fun b _ => by unfold vG; split; exact (Hgb.out _).1; omega)
        have h5 : startR S rooms a ≤ 20 := by unfold startR; split <;> omega
        have := Hla.out; omega
      have ad1 : (⟨L.gn, 0, none⟩ : Addr).add j = ⟨L.gn, j, none⟩ := add0 _ _
      have ad2 : (⟨L.gr, 0, none⟩ : Addr).add a = ⟨L.gr, a, none⟩ := add0 _ _
      have ad3 : (⟨L.gm, 0, none⟩ : Addr).add j = ⟨L.gm, j, none⟩ := add0 _ _
      have ad5 : (⟨L.Bm j, 0, none⟩ : Addr).add a = ⟨L.Bm j, a, none⟩ := add0 _ _
      obtain ⟨y0, -, -⟩ := Q1.out.fields hJ0
      obtain ⟨y1, y1f, -, -⟩ := Q1.out.ns.setNeed hjJ
      rw [Hnj.out] at y1
      have y2 := Hd4.out _ Q1.out.kp
      go_wp2_with fail
      go_region
      have Q2 := Lib.hid ((Q1.out.need hjJ (nj - xv)).go (Kp.refl _).drew)
      clear Q1 y0 y1 y1f y2
      generalize (w5.setCell ⟨L.gn, j, none⟩ (.int .i64 (nj - xv))).drew = w6 at *
      obtain ⟨-, y0, -⟩ := Q2.out.fields hJ0
      obtain ⟨y1, y1f, -, -⟩ := Q2.out.ns.setRoom haM
      rw [Hla.out] at y1
      have y2 := Hd4.out _ Q2.out.kp
      go_wp2_with fail
      go_region
      have Q3 := Lib.hid ((Q2.out.room haM (la - xv)).go (Kp.refl _).drew)
      clear Q2 y0 y1 y1f y2
      generalize (w6.setCell ⟨L.gr, a, none⟩ (.int .i64 (la - xv))).drew = w7 at *
      obtain ⟨-, -, y0⟩ := Q3.out.fields hJ0
      obtain ⟨y1, y2, y2f, -⟩ := Q3.out.ns.setMay Q3.out.am hjJ haM
      have Q4 := Lib.hid (Q3.out.may_ hjJ haM false)
      have z2 := Hd4.out _ Q4.out.kp
      have z1 := Q4.out.kp.get d1
      obtain ⟨bd, ar, cr2, rfl, z3, z4f⟩ := dist_row HP.out.good (HB.out.kp Q4.out.kp) hjJ
      have z4 := z4f a haM
      obtain ⟨dv, Hdv⟩ : ∃ z, Hid (dF F j a = z) := ⟨_, rfl⟩
      rw [Hdv.out] at z4
      go_wp2_with fail
      clear y0 y1 y2 y2f
      generalize w7.setCell ⟨L.Bm j, a, none⟩ (.bool false) = w8 at *
      have hcb := cost_row_bd (J := F.di.length) (M := F.op.length) (x := vG F.op.length gv k) (fun i b => vG_nn (fun i => (Hgb.out i).1) k i b) (fun i b => dF_bd HP.out.good i b) (fun i hi => by have h1 := Hnn.out.1 i hi; have h2 := (HP.out.nb i).2; omega) h8
      have hdb := dF_bd HP.out.good j a
      rw [Hdv.out] at hdb
      have hxd : 0 ≤ xv * dv ∧ xv * dv ≤ 99000 := ⟨Int.mul_nonneg Hxb.1 hdb.1, Int.le_trans (Int.mul_le_mul Hxb.2 hdb.2 hdb.1 (by omega)) (by decide)⟩
      clear Q3
      go_quiet (fail)
      have Q5 := Lib.hid (Q4.out.go ((Kp.refl w8).drewN nq))
      clear Q4 z1 z2 z3 z4 z4f
      generalize w8.drewN nq = w9 at *
      obtain ⟨y0, y1, -⟩ := Q5.out.fields hJ0
      obtain ⟨y2, y2f, -, -⟩ := Q5.out.ns.setNeed hjJ
      obtain ⟨y3, y3f, -, -⟩ := Q5.out.ns.setRoom haM
      rw [upd_at] at y2 y3
      have hkT : j * F.op.length + a < T := by have := hkja.out; omega
      have hrow : ∀ i, rowS F.op.length (vG F.op.length gv (k + 1)) i = rowS F.op.length (vG F.op.length gv k) i + if i = j then xv else 0 := fun i => by
        have := vG_row gv haM (j := j) i
        rw [← hkja.out, Hxv.out] at this; exact this
      have hcol : ∀ b, b < F.op.length → colT F.di.length (vG F.op.length gv (k + 1)) b = colT F.di.length (vG F.op.length gv k) b + if b = a then xv else 0 := fun b hb => by
        have := vG_col gv hjJ haM hb
        rw [← hkja.out, Hxv.out] at this; exact this
      have Hrow := Lib.hid hrow; have Hcol := Lib.hid hcol
      have hc1 := HBc.out
      by_cases hneg : nj - xv < 0
      · have hno : ¬ ExtG F.di.length F.op.length (dF F) (openM S) (lget needs) (lget rooms) cc T (vG F.op.length gv T) := fun hE => by
          have := (ext_room HP.out hE (show k + 1 ≤ T by omega)).1 j hjJ
          rw [Hrow.out, if_pos rfl] at this
          have := Hnj.out; omega
        have HX := Lib.hid hno
        have hfin := hkw.trans Q5.out.kp
        clear hno hrow hcol
        go_wp2_with fail
        go_ret
        exact ⟨-1, rfl, ⟨fun e => absurd e (by omega), fun he => absurd he HX.out⟩, hfin⟩
      · by_cases hneg2 : la - xv < 0
        · have hno : ¬ ExtG F.di.length F.op.length (dF F) (openM S) (lget needs) (lget rooms) cc T (vG F.op.length gv T) := fun hE => by
            have := (ext_room HP.out hE (show k + 1 ≤ T by omega)).2 a haM
            rw [Hcol.out a haM, if_pos rfl] at this
            have := Hla.out; omega
          have HX := Lib.hid hno
          have hfin := hkw.trans Q5.out.kp
          clear hno hrow hcol
          go_wp2_with fail
          go_ret
          exact ⟨-1, rfl, ⟨fun e => absurd e (by omega), fun he => absurd he HX.out⟩, hfin⟩
        · have Q6 := Lib.hid (Q5.out.congr (nl' := fun j => lget needs j - rowS F.op.length (vG F.op.length gv (k + 1)) j) (lf' := fun a => startR S rooms a - colT F.di.length (vG F.op.length gv (k + 1)) a) (may' := mayT F.op.length (startM F S 99) (k + 1)) (fun i _ => by
            rw [Hrow.out]
            by_cases e : i = j
            · rw [e, upd_at, if_pos rfl]; have := Hnj.out; omega
            · rw [upd_ne e, if_neg e]; omega) (fun b hb => by
            rw [Hcol.out b hb]
            by_cases e : b = a
            · rw [e, upd_at, if_pos rfl]; have := Hla.out; omega
            · rw [upd_ne e, if_neg e]; omega) (fun i b _ hb => by
            have := mayT_succ (may := startM F S 99) (j := j) (i := i) haM hb
            rw [← hkja.out] at this; exact this))
          have Hnn2 : Hid ((∀ j, j < F.di.length → 0 ≤ lget needs j - rowS F.op.length (vG F.op.length gv (k + 1)) j) ∧ (∀ a, a < F.op.length → 0 ≤ startR S rooms a - colT F.di.length (vG F.op.length gv (k + 1)) a)) := by
            refine ⟨fun i hi => ?_, fun b hb => ?_⟩
            · rw [Hrow.out]
              by_cases e : i = j
              · rw [e, if_pos rfl]; have := Hnj.out; omega
              · rw [if_neg e]; have := Hnn.out.1 i hi; omega
            · rw [Hcol.out b hb]
              by_cases e : b = a
              · rw [e, if_pos rfl]; have := Hla.out; omega
              · rw [if_neg e]; have := Hnn.out.2 b hb; omega
          have Hct : Hid (costT F.di.length F.op.length (dF F) (vG F.op.length gv (k + 1)) = costT F.di.length F.op.length (dF F) (vG F.op.length gv k) + xv * dv) := by
            show _ = _
            have := vG_cost (dF F) gv hjJ haM
            rw [← hkja.out, Hxv.out, Hdv.out] at this; exact this
          have Hww : Hid (wrap64 (costT F.di.length F.op.length (dF F) (vG F.op.length gv k) + wrap64 (xv * dF F j a)) = costT F.di.length F.op.length (dF F) (vG F.op.length gv k) + xv * dv) := by
            show _ = _
            rw [Hdv.out, show wrap64 (xv * dv) = xv * dv from IntWalk.wrap64_in (xv * dv) (by omega)]
            exact IntWalk.wrap64_in _ (by omega)
          clear hrow hcol
          go_wp2_with fail
          go_roundw
          case rel => exact ⟨k + 1, by omega, by go_num, by rw [Hct.out]; first | rw [Hww.out] | rfl, Q6.out, Hnn2⟩
          case measure => simp [intOf]; omega
    · obtain rfl : k = T := by omega
      have hz0 : ∀ i, rowS F.op.length (fun _ _ => (0 : Int)) i = 0 := fun i => sumTo_c0 _
      have hNn : NetN F.di.length F.op.length (dF F) (mayT F.op.length (startM F S 99) k) (fun a => startR S rooms a - colT F.di.length (vG F.op.length gv k) a) (fun j => lget needs j - rowS F.op.length (vG F.op.length gv k) j) (fun j => lget needs j - rowS F.op.length (vG F.op.length gv k) j) (fun a => startR S rooms a - colT F.di.length (vG F.op.length gv k) a) (fun _ _ => 0) := by
        refine ⟨Net.zero (fun j a => (dF_bd HP.out.good j a).1) (fun x hx => Hnn.out.2 x hx), fun j _ => by rw [hz0]; omega, fun j => ?_⟩
        by_cases hj : j < F.di.length
        · have h1 := Hnn.out.1 j hj
          have h2 := (HP.out.nb j).2
          have h3 : 0 ≤ rowS F.op.length (vG F.op.length gv k) j := sumTo_nn (fun b _ => vG_nn (fun i => (Hgb.out i).1) k j b)
          omega
        · have h3 : rowS F.op.length (vG F.op.length gv k) j = 0 := by
            rw [row_congr (y := fun _ _ => 0) (fun b hb => by
              unfold vG
              rw [if_neg]
              have h4 := HT.out
              have h5 := Nat.mul_le_mul_right F.op.length (show F.di.length ≤ j by omega)
              omega)]
            exact hz0 _
          have h2 := (HP.out.nb j)
          omega
      have CF := Lib.hid (l7Fill_any2 (.agg #[.slice A F.op.length c, .slice B F.di.length d]) F L _ _ _ _ _ _ wb.heap.size N wb wk hFA hws.kp (Nat.le_refl _) hws.kp.le HP.out.good hws.ns hNn (fun x hx => by have h2 : startR S rooms x ≤ 20 := (by unfold startR; have := HP.out.rb x; split <;> omega); have h3 : 0 ≤ colT F.di.length (vG F.op.length gv k) x := sumTo_nn (fun b _ => vG_nn (fun i => (Hgb.out i).1) k b x); omega) hws.lo (by have := World.block_lt_of_cell? _ _ (hws.rg 1 _ rfl); dsimp only at this; omega))
      unfold NetL.val at CF
      have y0 := hws.rg 0 _ rfl; have y1 := hws.rg 1 _ rfl; have y2 := hws.rg 2 _ rfl; have y3 := hws.rg 3 _ rfl
      simp only [Nat.zero_add] at y0 y1 y2 y3
      have y4 := hws.kp.get d0; have y5 := hws.kp.get d1
      have Q1 := Lib.hid hws
      clear hNn hz0 hws
      go_wp2_with fail
      with_reducible refine Calls.mono CF.out ?_
      clear CF y0 y1 y2 y3 y4 y5
      rintro e w5 ⟨nl, lf, fl, rfl, hn2, hnn2, hor, ht⟩
      have hthr := ht.range Q1.out.rg (fun e => by have := e.2; omega)
      have htht := ht.there Q1.out.th (fun e => by have := e.2; omega)
      have Hth := Lib.hid htht
      have hkw5 := Q1.out.kp.turn ht (fun i hi => hi.1)
      have hst := turn_setCells N [.slice L.nA F.di.length L.cn, .slice (some ⟨L.gr, 0, none⟩) F.op.length L.cr, .slice L.fA F.di.length L.cf, .slice L.mA F.di.length L.cm] 0 w5
      have hN2 := hn2.turnB Q1.out.lo hst (Nat.le_refl _)
      have hkw6 := hkw5.turn hst (fun i e => by have e2 : i = N := e; have h1 := hn2.rm.lt L.gr rfl; have h2 := Q1.out.lo.gr; omega)
      have hrg6 := World.rangeAt_setCells_same w5 N 0 [.slice L.nA F.di.length L.cn, .slice (some ⟨L.gr, 0, none⟩) F.op.length L.cr, .slice L.fA F.di.length L.cf, .slice L.mA F.di.length L.cm] htht
      have HN2 := Lib.hid hN2; have HK6 := Lib.hid hkw6; have HR6 := Lib.hid hrg6
      have Hor := Lib.hid hor; have Hnn2 := Lib.hid hnn2
      have y0 := hthr 0 _ rfl; have y1 := hthr 1 _ rfl; have y2 := hthr 2 _ rfl; have y3 := hthr 3 _ rfl
      simp only [Nat.zero_add] at y0 y1 y2 y3
      have z0 := hrg6 0 _ rfl; have z2 := hrg6 2 _ rfl
      simp only [Nat.zero_add] at z0 z2
      have CS := Lib.hid (l3Sum_any L.nA (mapTo nl F.di.length) F.di.length L.cn (w5.setCells N 0 [.slice L.nA F.di.length L.cn, .slice (some ⟨L.gr, 0, none⟩) F.op.length L.cr, .slice L.fA F.di.length L.cf, .slice L.mA F.di.length L.cm]) (by
        by_cases hj : 0 < F.di.length
        · obtain ⟨A', c', e, hi⟩ := (hN2.nd hj).ints (by rw [mapTo_len]; omega)
          simp only [Value.slice.injEq] at e
          have key : ∀ X : Option Addr, X = A' → IntsAt _ X (mapTo nl F.di.length) := fun X h => h ▸ hi
          exact key _ ((hN2.na hj).trans e.1)
        · rw [show F.di.length = 0 by omega]; exact IntsAt.nil _ _) (mapTo_len _ _) (fun k' hk' => small_take (L := mapTo nl F.di.length) (fun x hx => by
          unfold mapTo at hx
          obtain ⟨i, _, rfl⟩ := List.mem_map.1 hx
          exact hnn2.nb i) (by rw [mapTo_len]; omega) k' (by rw [mapTo_len]; exact hk')) (fun x hx => by
          unfold mapTo at hx
          obtain ⟨i, _, rfl⟩ := List.mem_map.1 hx
          have := hnn2.nb i; omega))
      clear hor hnn2 hn2 ht hst hN2 hkw5 hkw6 hrg6 hthr htht
      go_wp2_with (first | (refine wpList_store_mid rfl 83 (.tmp 11) (.tmp 103) rfl N 0 #[.slice L.nA F.di.length L.cn, .slice (some ⟨L.gr, 0, none⟩) F.op.length L.cr, .slice L.fA F.di.length L.cf, .slice L.mA F.di.length L.cm] rfl rfl Hth.out (by kernel_rfl) (by simp [Value.oneCell']) ?_) | fail)
      clear y0 y1 y2 y3
      with_reducible refine Calls.mono CS.out ?_
      rintro e w6 ⟨rfl, hw⟩
      obtain rfl := hw
      clear CS
      have hsum : (mapTo nl F.di.length).sum = sumTo nl F.di.length := rfl
      have hvm := vG_may (F := F) (rooms := rooms) (S := S) (gv := gv) (T := k) (fun i => (Hgb.out i).1) Hnn.out.2
      have hvz : ∀ j a, j < F.di.length → a < F.op.length → k ≤ j * F.op.length + a → vG F.op.length gv k j a = 0 := fun j a _ _ hp => by unfold vG; rw [if_neg (by omega)]
      have hmay : ∀ j a, j < F.di.length → a < F.op.length → mayT F.op.length (startM F S 99) k j a = mayT F.op.length (openM S) k j a := fun j a _ _ => by unfold mayT; rw [startM_open HP.out.good]
      have hroom : ∀ a, a < F.op.length → (∀ j, j < F.di.length → mayT F.op.length (startM F S 99) k j a = false) ∨ startR S rooms a - colT F.di.length (vG F.op.length gv k) a = lget rooms a - colT F.di.length (vG F.op.length gv k) a := fun a ha => by
        rcases startR_or F S rooms 99 F.di.length a with h | h
        · exact .inl fun j hj => by unfold mayT; rw [h j hj]; rfl
        · exact .inr (by rw [h])
      have h0b : ∀ a, a < F.op.length → 0 ≤ lget rooms a - colT F.di.length (vG F.op.length gv k) a := fun a ha => by
        have h1 := Hnn.out.2 a ha
        have h2 : startR S rooms a ≤ lget rooms a := by unfold startR; have := HP.out.rb a; split <;> omega
        omega
      rcases sum_left Hnn2.out Hor.out with ⟨hs0, hcan⟩ | ⟨hs1, hcan⟩
      · have hz : ∀ j, j < F.di.length → nl j = 0 := by
          rcases Hor.out with h | ⟨_, h⟩
          · exact h
          · obtain ⟨x, hx⟩ := hcan
            exact absurd hx (h x)
        have hq := net_can Hnn2.out hz
        have hL1 : IsLst F.di.length F.op.length (dF F) (mayT F.op.length (startM F S 99) k) (fun j => lget needs j - rowS F.op.length (vG F.op.length gv k) j) (fun a => startR S rooms a - colT F.di.length (vG F.op.length gv k) a) (costT F.di.length F.op.length (dF F) fl) := ⟨⟨fl, hq.1, rfl⟩, hq.2⟩
        have hL2 := lst_congr (d' := dF F) (fun _ _ _ _ => rfl) hmay (fun _ _ => rfl) hroom Hnn.out.2 h0b hL1
        have htest := ext_test HL.out (fun j a => vG_nn (fun i => (Hgb.out i).1) k j a) hvm hvz hL2
        have Htest := Lib.hid htest
        have hc3 := HBc.out
        have hkq := HK6.out
        have hs2 : ¬ 0 < (mapTo nl F.di.length).sum := by rw [hsum, hs0]; omega
        have hb0 := cost_row_bd (J := F.di.length) (M := F.op.length) (x := vG F.op.length gv k) (fun i b => vG_nn (fun i => (Hgb.out i).1) k i b) (fun i b => dF_bd HP.out.good i b) (fun i hi => by have h1 := Hnn.out.1 i hi; have h2 := (HP.out.nb i).2; omega) h8
        have hb1 := cost_row_bd (J := F.di.length) (M := F.op.length) (d := dF F) (x := fun j a => if j < F.di.length ∧ a < F.op.length then fl j a else 0) (fun i b => by split; (rename_i h; exact hq.1.nn i b h.1 h.2); omega) (fun i b => dF_bd HP.out.good i b) (fun i hi => by
          have e : rowS F.op.length (fun j a => if j < F.di.length ∧ a < F.op.length then fl j a else 0) i = rowS F.op.length fl i := row_congr (fun a ha => by rw [if_pos ⟨hi, ha⟩])
          rw [e, hq.1.row i hi]
          have h1 := (HP.out.nb i).2
          have h3 : 0 ≤ rowS F.op.length (vG F.op.length gv k) i := sumTo_nn (fun b _ => vG_nn (fun i => (Hgb.out i).1) k i b)
          omega) h8
        rw [cost_congr (y := fl) (fun i b hi hb => by rw [if_pos ⟨hi, hb⟩])] at hb1
        have HG := Lib.hid (net_grid HN2.out (by omega) (by omega))
        have hfb := haul_flow (F := F) (rooms := mapTo (fun a => startR S rooms a - colT F.di.length (vG F.op.length gv k) a) F.op.length) (needs := mapTo (fun j => lget needs j - rowS F.op.length (vG F.op.length gv k) j) F.di.length) (S := S) (may := mayT F.op.length (openM S) k) (fl := fl) (fun j b _ _ h => by unfold mayT at h; rw [Bool.and_eq_true] at h; exact h.1) (haul_congr (rm' := lget (mapTo (fun a => startR S rooms a - colT F.di.length (vG F.op.length gv k) a) F.op.length)) hmay (fun j hj => by rw [mapTo_lget hj]) (fun a ha => .inr (by rw [mapTo_lget ha])) (fun a ha => by rw [mapTo_lget ha]; exact Hnn.out.2 a ha) hq.1)
        have hhb : haulB F (mapTo (fun a => startR S rooms a - colT F.di.length (vG F.op.length gv k) a) F.op.length) (mapTo (fun j => lget needs j - rowS F.op.length (vG F.op.length gv k) j) F.di.length) S = true := haulB_rest Hhb.out (fun a ha => ⟨Hnn.out.2 a ha, by
          have h2 : startR S rooms a ≤ 20 := by unfold startR; have := HP.out.rb a; split <;> omega
          have h3 : 0 ≤ colT F.di.length (vG F.op.length gv k) a := sumTo_nn (fun b _ => vG_nn (fun i => (Hgb.out i).1) k b a)
          omega⟩) (fun j hj => ⟨Hnn.out.1 j hj, by
          have h2 := (HP.out.nb j).2
          have h3 : 0 ≤ rowS F.op.length (vG F.op.length gv k) j := sumTo_nn (fun b _ => vG_nn (fun i => (Hgb.out i).1) k j b)
          omega⟩)
        have CL := Lib.hid (show Calls Try.prog 52 #[.agg #[.slice A F.op.length c, .slice B F.di.length d], .slice L.fA F.di.length L.cf] (w5.setCells N 0 [.slice L.nA F.di.length L.cn, .slice (some ⟨L.gr, 0, none⟩) F.op.length L.cr, .slice L.fA F.di.length L.cf, .slice L.mA F.di.length L.cm]) (fun e w' => e = .returned (.int .i64 (costT F.di.length F.op.length (dF F) fl)) ∧ Kp (w5.setCells N 0 [.slice L.nA F.di.length L.cn, .slice (some ⟨L.gr, 0, none⟩) F.op.length L.cr, .slice L.fA F.di.length L.cf, .slice L.mA F.di.length L.cm]) w') from by
          rw [← cost_mat fl]
          exact l7Cost_any _ F _ _ S L.fA (matL F.di.length F.op.length fl) F.di.length L.cf _ (hFA.kp hkq) HG.out (matL_len _ _ _) hhb hfb)
        have z4 := hkq.get d0; have z5 := hkq.get d1
        clear htest hL1 hL2 hq hz hvm hvz hmay hroom h0b hcan hfb hhb
        go_wp2_with fail
        with_reducible refine Calls.mono CL.out ?_
        rintro e w7 ⟨rfl, hk7⟩
        clear CL z0 z2 z4 z5
        go_wp2_with fail
        go_ret
        exact ⟨_, rfl, Htest.out, hkw.trans (hkq.trans hk7)⟩
      · have hno : ¬ ExtG F.di.length F.op.length (dF F) (openM S) (lget needs) (lget rooms) cc k (vG F.op.length gv k) := ext_no hvz (fun y hy => hcan ⟨y, haul_congr (fun j a hj ha => (hmay j a hj ha).symm) (fun _ _ => rfl) (fun a ha => by
          rcases hroom a ha with h | h
          · exact .inl fun j hj => by rw [← hmay j a hj ha]; exact h j hj
          · exact .inr h.symm) Hnn.out.2 hy⟩)
        have Hno := Lib.hid hno
        have hc1 := HBc.out
        have hfin := hkw.trans HK6.out
        have hs2 : 0 < (mapTo nl F.di.length).sum := hs1
        clear hcan hno hvm hvz hmay hroom h0b
        go_wp2_with fail
        go_ret
        exact ⟨-1, rfl, ⟨fun e => absurd e (by omega), fun he => absurd he Hno.out⟩, hfin⟩
end Go.Proofs.Ytgdicmeabppngaa

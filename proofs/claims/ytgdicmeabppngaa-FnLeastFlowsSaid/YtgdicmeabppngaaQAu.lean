/- LeastFlow: what the program holds while it fixes the numbers; The least cost of a flow: there is one, and it is not great; The frame of a law's proof where an argument is a field; Words for the laws on lists of lists; Lists of lists among the results of a law: marks in them, and that they are held. No condition. -/
import Derived.Test.YtgdicmeabppngaaQAt
import Derived.Test.YtgdicmeabppngaaQAl
import Derived.Test.YtgdicmeabppngaaQAs
import Derived.Test.YtgdicmeabppngaaQAa
import Derived.Lib.SmallJoins
import Derived.Test.YtgdicmeabppngaaQAb
namespace Go.Proofs.Ytgdicmeabppngaa
open Go.RowKit Go.Sort

theorem Mat.addR {w w' : World} {base g cap k M g' c' gw cw : Nat} {Bk Ck : Nat → Nat} {V V' : Nat → Nat → Int} (h : Mat w base g cap k M Bk Ck V)
    (hr : Own w base (.slice (some ⟨gw, 0, none⟩) M cw) (mapTo (V' k) M)) (he : ∀ j, j < k → V' j = V j) (h1 : gw ≠ g) (h2 : ∀ j, j < k → Bk j ≠ gw)
    (ho : w'.ownsRow base 24 1 (.slice (some ⟨g', 0, none⟩) (k + 1) c') (k + 1) (((List.range k).map fun j => Value.slice (some ⟨Bk j, 0, none⟩) M (Ck j)) ++ [Value.slice (some ⟨gw, 0, none⟩) M cw]))
    (ht : Turn (fun i => (Value.slice (some ⟨g, 0, none⟩) k cap).ownBlock = some i) w w') :
    Mat w' base g' c' (k + 1) M (upd Bk k gw) (upd Ck k cw) V' := by
  have hs : ∀ (b : Nat) (k2 : Nat) (n c : Nat), (Value.slice (some ⟨b, 0, none⟩) n c).ownBlock = some k2 → b = k2 := fun b k2 n c hh => by simpa [Value.ownBlock] using hh
  refine ⟨?_, fun j hj => ?_, fun i j hi hj hne => ?_⟩
  · have e : ((List.range k).map fun j => Value.slice (some ⟨Bk j, 0, none⟩) M (Ck j)) ++ [Value.slice (some ⟨gw, 0, none⟩) M cw] = (List.range (k + 1)).map fun j => Value.slice (some ⟨upd Bk k gw j, 0, none⟩) M (upd Ck k cw j) := by
      rw [List.range_succ, List.map_append]
      congr 1
      · apply List.map_congr_left
        intro j hj
        have : j < k := List.mem_range.1 hj
        rw [upd_ne (by omega), upd_ne (by omega)]
      · simp [upd_at]
    rw [← e]; exact ho
  · by_cases e : j = k
    · subst e
      rw [upd_at, upd_at]
      exact hr.turn ht (fun k2 e1 e2 => by have := hs _ _ _ _ e1; have := hs _ _ _ _ e2; omega)
    · rw [upd_ne e, upd_ne e, he j (by omega)]
      have hb := h.gne (j := j) (by omega)
      exact (h.row j (by omega)).turn ht (fun k2 e1 e2 => by have := hs _ _ _ _ e1; have := hs _ _ _ _ e2; omega)
  · by_cases e1 : i = k
    · have e2 : j ≠ k := fun e => hne (e1.trans e.symm)
      rw [e1, upd_at, upd_ne e2]; exact fun e => h2 j (by omega) e.symm
    · rw [upd_ne e1]
      by_cases e2 : j = k
      · rw [e2, upd_at]; exact h2 i (by omega)
      · rw [upd_ne e2]; exact h.apart i j (by omega) (by omega) hne
/-- Between two rows. -/
structure LsO (w0 wr : World) (base2 gl cl gr cr J M i g cap : Nat) (Bk Ck : Nat → Nat) (L E : Nat → Int) (V : Nat → Nat → Int) (bs : List (Nat × Value)) : Prop where
  kp : Kp w0 wr
  ol : Own wr w0.heap.size (.slice (some ⟨gl, 0, none⟩) M cl) (mapTo L M)
  oe : Own wr w0.heap.size (.slice (some ⟨gr, 0, none⟩) J cr) (mapTo E J)
  mt : Mat wr base2 g cap i M Bk Ck V
  ne : gl ≠ gr
  lt : gl < base2 ∧ gr < base2 ∧ w0.heap.size ≤ base2
  bx : ∀ p ∈ bs, wr.cell? ⟨p.1, 0, none⟩ = some p.2 ∧ p.1 ≠ gl ∧ p.1 ≠ gr
/-- And a row under way. -/
structure LsS (w0 wr : World) (base2 gl cl gr cr gw cw J M i g cap : Nat) (Bk Ck : Nat → Nat) (L E : Nat → Int) (V : Nat → Nat → Int) (R : Nat → Int) (bs : List (Nat × Value)) : Prop where
  o : LsO w0 wr base2 gl cl gr cr J M i g cap Bk Ck L E V bs
  rw_ : Own wr base2 (.slice (some ⟨gw, 0, none⟩) M cw) (mapTo R M)
  n1 : gw ≠ g
  n2 : ∀ j, j < i → Bk j ≠ gw
  n3 : ∀ p ∈ bs, p.1 ≠ gw
section
variable {w0 wr wr' : World} {base2 gl cl gr cr gw cw J M i g cap : Nat} {Bk Ck : Nat → Nat} {L E : Nat → Int} {V : Nat → Nat → Int} {R : Nat → Int} {bs : List (Nat × Value)}
theorem LsO.go (h : LsO w0 wr base2 gl cl gr cr J M i g cap Bk Ck L E V bs) (hk : Kp wr wr') : LsO w0 wr' base2 gl cl gr cr J M i g cap Bk Ck L E V bs := ⟨h.kp.trans hk, h.ol.kp hk, h.oe.kp hk, h.mt.kp hk, h.ne, h.lt, fun p hp => ⟨hk.get (h.bx p hp).1, (h.bx p hp).2⟩⟩
theorem LsS.go (h : LsS w0 wr base2 gl cl gr cr gw cw J M i g cap Bk Ck L E V R bs) (hk : Kp wr wr') : LsS w0 wr' base2 gl cl gr cr gw cw J M i g cap Bk Ck L E V R bs := ⟨h.o.go hk, h.rw_.kp hk, h.n1, h.n2, h.n3⟩
theorem LsS.setL (h : LsS w0 wr base2 gl cl gr cr gw cw J M i g cap Bk Ck L E V R bs) {a : Nat} (ha : a < M) (z : Int) : LsS w0 (wr.setCell ⟨gl, a, none⟩ (.int .i64 z)) base2 gl cl gr cr gw cw J M i g cap Bk Ck (upd L a z) E V R bs := by
  have ht := turn_cell wr ⟨gl, a, none⟩ (.int .i64 z)
  have e := ((h.o.ol.slotL (mapTo_len _ _) ha).2.2 z).1
  rw [mapTo_set] at e
  have hl := h.o.lt
  have hgl := (h.o.ol.lt gl rfl).1
  refine ⟨⟨h.o.kp.turn ht (fun k e => by have : k = gl := e; omega), e, h.o.oe.turn ht (fun k hk e => by have h1 : gr = k := (by simpa [Value.ownBlock] using hk); have h2 : k = gl := e; have := h.o.ne; omega), h.o.mt.turn ht (fun e => by have h2 : g = gl := e; have := h.o.mt.glt; omega) (fun j hj e => by have h2 : Bk j = gl := e; have := h.o.mt.lt hj; omega), h.o.ne, h.o.lt, fun p hp => ⟨ht.get (h.o.bx p hp).1 (fun e => (h.o.bx p hp).2.1 e), (h.o.bx p hp).2⟩⟩, h.rw_.turn ht (fun k hk e => by have h1 : gw = k := (by simpa [Value.ownBlock] using hk); have h2 : k = gl := e; have := (h.rw_.lt gw rfl).1; omega), h.n1, h.n2, h.n3⟩
theorem LsS.setE (h : LsS w0 wr base2 gl cl gr cr gw cw J M i g cap Bk Ck L E V R bs) {a : Nat} (ha : a < J) (z : Int) : LsS w0 (wr.setCell ⟨gr, a, none⟩ (.int .i64 z)) base2 gl cl gr cr gw cw J M i g cap Bk Ck L (upd E a z) V R bs := by
  have ht := turn_cell wr ⟨gr, a, none⟩ (.int .i64 z)
  have e := ((h.o.oe.slotL (mapTo_len _ _) ha).2.2 z).1
  rw [mapTo_set] at e
  have hl := h.o.lt
  have hgl := (h.o.oe.lt gr rfl).1
  refine ⟨⟨h.o.kp.turn ht (fun k e => by have : k = gr := e; omega), h.o.ol.turn ht (fun k hk e => by have h1 : gl = k := (by simpa [Value.ownBlock] using hk); have h2 : k = gr := e; have := h.o.ne; omega), e, h.o.mt.turn ht (fun e => by have h2 : g = gr := e; have := h.o.mt.glt; omega) (fun j hj e => by have h2 : Bk j = gr := e; have := h.o.mt.lt hj; omega), h.o.ne, h.o.lt, fun p hp => ⟨ht.get (h.o.bx p hp).1 (fun e => (h.o.bx p hp).2.2 e), (h.o.bx p hp).2⟩⟩, h.rw_.turn ht (fun k hk e => by have h1 : gw = k := (by simpa [Value.ownBlock] using hk); have h2 : k = gr := e; have := (h.rw_.lt gw rfl).1; omega), h.n1, h.n2, h.n3⟩
theorem LsS.setR (h : LsS w0 wr base2 gl cl gr cr gw cw J M i g cap Bk Ck L E V R bs) {a : Nat} (ha : a < M) (z : Int) : LsS w0 (wr.setCell ⟨gw, a, none⟩ (.int .i64 z)) base2 gl cl gr cr gw cw J M i g cap Bk Ck L E V (upd R a z) bs := by
  have ht := turn_cell wr ⟨gw, a, none⟩ (.int .i64 z)
  have e := ((h.rw_.slotL (mapTo_len _ _) ha).2.2 z).1
  rw [mapTo_set] at e
  have hl := h.o.lt
  have hgl := (h.rw_.lt gw rfl).1
  refine ⟨⟨h.o.kp.turn ht (fun k e => by have : k = gw := e; omega), h.o.ol.turn ht (fun k hk e => by have h1 : gl = k := (by simpa [Value.ownBlock] using hk); have h2 : k = gw := e; omega), h.o.oe.turn ht (fun k hk e => by have h1 : gr = k := (by simpa [Value.ownBlock] using hk); have h2 : k = gw := e; omega), h.o.mt.turn ht (fun e => h.n1 e.symm) (fun j hj e => h.n2 j hj e), h.o.ne, h.o.lt, fun p hp => ⟨ht.get (h.o.bx p hp).1 (fun e => h.n3 p hp e), (h.o.bx p hp).2⟩⟩, e, h.n1, h.n2, h.n3⟩
/-- What the functions say in between does not matter. -/
theorem LsS.congr (h : LsS w0 wr base2 gl cl gr cr gw cw J M i g cap Bk Ck L E V R bs) {L' E' R' : Nat → Int} (hl : ∀ a, a < M → L' a = L a) (he : ∀ a, a < J → E' a = E a) (hr : ∀ a, a < M → R' a = R a) : LsS w0 wr base2 gl cl gr cr gw cw J M i g cap Bk Ck L' E' V R' bs := by
  have c : ∀ {f f' : Nat → Int} {n : Nat}, (∀ a, a < n → f' a = f a) → mapTo f' n = mapTo f n := fun hh => by
    unfold mapTo
    exact List.map_congr_left (fun x hx => hh x (List.mem_range.1 hx))
  exact ⟨⟨h.o.kp, by rw [c hl]; exact h.o.ol, by rw [c he]; exact h.o.oe, h.o.mt, h.o.ne, h.o.lt, h.o.bx⟩, by rw [c hr]; exact h.rw_, h.n1, h.n2, h.n3⟩
end
/-- What is left, as lists. -/
theorem haulB_rest {F : Fld} {rooms needs S : List Int} (hb : haulB F rooms needs S = true) {L E : Nat → Int} (hL : ∀ a, a < F.op.length → 0 ≤ L a ∧ L a ≤ 20) (hE : ∀ j, j < F.di.length → 0 ≤ E j ∧ E j ≤ 5) : haulB F (mapTo L F.op.length) (mapTo E F.di.length) S = true := by
  rw [haulB_iff] at hb ⊢
  refine ⟨hb.1, ⟨fun x hx => ?_, mapTo_len _ _⟩, ⟨fun x hx => ?_, mapTo_len _ _⟩⟩
  · unfold mapTo at hx
    obtain ⟨k, hk, rfl⟩ := List.mem_map.1 hx
    exact hL k (List.mem_range.1 hk)
  · unfold mapTo at hx
    obtain ⟨k, hk, rfl⟩ := List.mem_map.1 hx
    exact hE k (List.mem_range.1 hk)
end Go.Proofs.Ytgdicmeabppngaa

namespace Go.Proofs.Ytgdicmeabppngaa
open Go.RowKit Go.Sort

theorem lfOk_iff {F : Fld} {rooms needs S : List Int} : lfOk F rooms needs S = true ↔ haulB F rooms needs S = true ∧ needs.sum ≤ roomS rooms S := by
  unfold lfOk; rw [Bool.and_eq_true, decide_eq_true_eq]
theorem lst_ex {J M : Nat} {d : Nat → Nat → Int} {may : Nat → Nat → Bool} {nd rm : Nat → Int} (hd : ∀ j a, 0 ≤ d j a) : (∃ x, Haul J M may nd rm x) → ∃ c, IsLst J M d may nd rm c := by
  rintro ⟨x, hx⟩
  have key : ∀ (n : Nat) (x : Nat → Nat → Int), Haul J M may nd rm x → costT J M d x ≤ n → ∃ c, IsLst J M d may nd rm c := by
    intro n
    induction n with
    | zero =>
      intro x hx hc
      exact ⟨costT J M d x, ⟨x, hx, rfl⟩, fun y hy => by
        have : 0 ≤ costT J M d y := sumTo_nn (fun j hj => sumTo_nn (fun a ha => Int.mul_nonneg (hy.nn j a hj ha) (hd j a)))
        omega⟩
    | succ n ih =>
      intro x hx hc
      by_cases h : ∃ y, Haul J M may nd rm y ∧ costT J M d y < costT J M d x
      · obtain ⟨y, hy, hlt⟩ := h
        exact ih y hy (by omega)
      · exact ⟨costT J M d x, ⟨x, hx, rfl⟩, fun y hy => Int.not_lt.1 (fun hlt => h ⟨y, hy, hlt⟩)⟩
  have h0 : 0 ≤ costT J M d x := sumTo_nn (fun j hj => sumTo_nn (fun a ha => Int.mul_nonneg (hx.nn j a hj ha) (hd j a)))
  exact key (costT J M d x).toNat x hx (by omega)
/-- With room enough there is a least cost. -/
theorem lf_lst {F : Fld} {rooms needs S : List Int} (h : lfOk F rooms needs S = true) : IsLst F.di.length F.op.length (dF F) (openM S) (lget needs) (lget rooms) (lfV F rooms needs S) := by
  obtain ⟨h1, h2⟩ := lfOk_iff.1 h
  have hP := haul_p h1
  obtain ⟨x, hx⟩ := haul_ex (J := F.di.length) (M := F.op.length) (sA := fun a => flHas S a) (rm := lget rooms) (fun a _ => (hP.rb a).1) (sumTo (lget needs) F.di.length).toNat (lget needs) (fun j _ => (hP.nb j).1) (by have : 0 ≤ sumTo (lget needs) F.di.length := sumTo_nn (fun j _ => (hP.nb j).1); omega) (by rw [hP.ns, hP.rs]; exact h2)
  obtain ⟨c, hc⟩ := lst_ex (d := dF F) (fun j a => (dF_bd hP.good j a).1) ⟨x, hx⟩
  have := lfV_yes h hc
  rw [this]; exact hc
theorem lf_bd {F : Fld} {rooms needs S : List Int} (h : lfOk F rooms needs S = true) : 0 ≤ lfV F rooms needs S ∧ lfV F rooms needs S ≤ 24255 := by
  obtain ⟨h1, h2⟩ := lfOk_iff.1 h
  have hP := haul_p h1
  obtain ⟨x, hx, hc⟩ := (lf_lst h).some_
  have hf := haul_flow (S := S) (fun j a _ _ h => h) hx
  have hb := costFl_bd (flow := matL F.di.length F.op.length x) hP.good (fun j => (hP.nb j).2) (fun j hj => (flow_parts hf).2.1 j (by rw [matL_len]; exact hj)) F.di.length (Nat.le_refl _)
  rw [cost_mat, hc] at hb
  have h8 := (goodF_iff.1 hP.good).2.2.1
  omega
theorem lf_bd0 (F : Fld) (rooms needs S : List Int) : 0 ≤ lfV F rooms needs S ∧ lfV F rooms needs S ≤ 24255 := by
  cases h : lfOk F rooms needs S
  · rw [lfV_no h]; omega
  · exact lf_bd h
end Go.Proofs.Ytgdicmeabppngaa

namespace Go.Proofs.Ytgdicmeabppngaa
open Go.ChangeShapes Go.WideShapes Go.ChangeAt Go.RowKit Go.Deep Go.Joins

section
variable {H : Type} {enc : TypeId × Value → H} {P : Program} {W : World}
theorem intsAt_of_trod {t e : TypeId} {fuel : Nat} {v : Value} {y : DataW H × List MemPlace} (ht : P.underlying t = some (.slice e)) (he : P.underlying e = some (.int .i64)) (hc : P.cellsOf e = 1)
    (hf : DataW.trod enc P W 0 (fun _ => true) true fuel t [v] = some y) : ∃ A xs c, v = .slice A xs.length c ∧ IntsAt W A xs := by
  rcases open_ints ht he hc hf with ⟨hcs, _⟩ | ⟨a', len', cap', zs, hcs, _, hl, hm, hz, _, hcell, _⟩
  · simp at hcs
    subst hcs
    exact ⟨none, [], 0, rfl, IntsAt.nil _ _⟩
  · simp at hcs
    subst hcs
    simp only [if_true] at hz
    have hlen : (zs.take len').length = len' := by rw [List.length_take]; omega
    refine ⟨some a', zs.take len', cap', by rw [hlen], by rw [hlen]; unfold maxLen at hm; omega, fun k hk => ⟨a', rfl, ?_⟩⟩
    rw [hlen] at hk
    rw [hcell k (by omega)]
    simp [List.getD, List.getElem?_take, hk]
theorem gridAt_of_trod {t e q : TypeId} {fuel : Nat} {v : Value} {y : DataW H × List MemPlace} (ht : P.underlying t = some (.slice e)) (he : P.underlying e = some (.slice q)) (hq : P.underlying q = some (.int .i64)) (ce : P.cellsOf e = 1) (cq : P.cellsOf q = 1)
    (hf : DataW.trod enc P W 0 (fun _ => true) true fuel t [v] = some y) : ∃ B rows c, v = .slice B rows.length c ∧ GridAt W B rows := by
  rcases open_int_rows ht he hq ce cq hf with ⟨hcs, _⟩ | ⟨a, len, cap, A, L, C, Z, hcs, _, hl, hm, _, hr⟩
  · simp at hcs
    subst hcs
    exact ⟨none, [], 0, rfl, by simp, fun k hk => absurd hk (by simp)⟩
  · simp at hcs
    subst hcs
    have hlen : ((List.range len).map fun r => (Z r).take (L r)).length = len := by simp
    refine ⟨some a, (List.range len).map fun r => (Z r).take (L r), cap, by rw [hlen], by rw [hlen]; unfold maxLen at hm; omega, fun k hk => ?_⟩
    rw [hlen] at hk
    obtain ⟨h1, h2, h3, h4, _, h6, h7⟩ := hr k (by omega)
    have e1 : ((List.range len).map fun r => (Z r).take (L r)).getD k [] = (Z k).take (L k) := by simp [List.getD, hk]
    have e2 : ((Z k).take (L k)).length = L k := by rw [List.length_take]; omega
    rw [e1]
    refine ⟨a, A k, C k, rfl, by rw [e2]; exact h1, by rw [e2]; unfold maxLen at h3; omega, fun i hi => ?_⟩
    rw [e2] at hi
    cases hA : A k with
    | none => have := h6 hA; omega
    | some a' =>
      refine ⟨a', rfl, ?_⟩
      rw [(h7 a' hA).2 i (by omega)]
      simp [List.getD, List.getElem?_take, hi]
end
theorem Fld.bulk_op {F : Fld} (h : F.bulk ≤ 1048576) : F.op.length ≤ 9223372036854775807 := by unfold Fld.bulk at h; omega
end Go.Proofs.Ytgdicmeabppngaa

namespace Go.Proofs.Ytgdicmeabppngaa
open Go.RowKit Go.Sort Go.ChangeShapes Go.WideShapes Go.ChangeAt

theorem left1_pos {n : Nat} {l : Int} (h : (n : Int) ≤ l) : left1 n l = l - n := by unfold left1; rw [if_pos h]
theorem left1_no {n : Nat} {l : Int} (h : ¬ (n : Int) ≤ l) : left1 n l = -1 := by unfold left1; rw [if_neg h]
set_option maxRecDepth 100000 in
/-- An argument that is a slice of slices. -/
theorem open_gridAt {H : Type} {enc : TypeId × Value → H} {W : World} {v : Value} {d : DataW H} {p : List MemPlace} {b0 : Nat}
    (hv : Value.okWide Try.prog W .any b0 25 v) (h : DataW.Trod enc Try.prog W 0 (fun _ => true) true 25 v d p) : ∃ B rows c, v = .slice B rows.length c ∧ GridAt W B rows := by
  obtain ⟨a, len, cap, rfl⟩ := okWide_slice Try.underlying25 hv
  obtain ⟨fuel, hf⟩ := h
  simp only [Value.cells] at hf
  exact gridAt_of_trod Try.underlying25 Try.underlying24 Try.underlying3 cellsInts cellsInt hf
theorem rows_small {rows : List (List Int)} {l : Nat} (h : rowSum rows ≤ l) : ∀ k (hk : k < rows.length), rows[k].length ≤ l := fun k hk => Nat.le_trans (rowSum_mem hk) h
end Go.Proofs.Ytgdicmeabppngaa

namespace Go.Proofs.Ytgdicmeabppngaa
open Go.RowKit Go.Sort

/-- Few and short rows. -/
structure GSm (L : List (List Int)) : Prop where
  len : L.length ≤ 1024
  row : ∀ j, (L.getD j []).length ≤ 1024
def rowAt (L : List (List Int)) (j : Nat) : List Int := L.getD j []
theorem startAt_small {L : List (List Int)} (h : GSm L) : ∀ j, j ≤ L.length → startAt (rowAt L) j ≤ j * 1024
  | 0, _ => by simp [startAt]
  | j + 1, hj => by
    have h1 := startAt_small h j (by omega)
    have h2 : (rowAt L j).length ≤ 1024 := h.row j
    show startAt (rowAt L) j + (rowAt L j).length ≤ _
    omega
theorem startAt_top {L : List (List Int)} (h : GSm L) (j : Nat) (hj : j ≤ L.length) : startAt (rowAt L) j ≤ 1048576 := by
  have h1 := startAt_small h j hj
  have h2 := h.len
  have : j * 1024 ≤ 1024 * 1024 := Nat.mul_le_mul_right _ (by omega)
  omega
def GridV (w : World) (v : Value) (L : List (List Int)) : Prop := ∃ A c, v = .slice A L.length c ∧ GridAt w A L
theorem OwnGrid.gridv {w : World} {base : Nat} {v : Value} {L : List (List Int)} (h : OwnGrid w base v L.length (rowAt L)) (hs : GSm L) : GridV w v L :=
  h.grid rfl (fun _ _ => rfl) (by have := hs.len; omega) (fun j _ => Nat.le_trans (show (rowAt L j).length ≤ 1024 from hs.row j) (by omega))
theorem OwnGrid.gridOf {w : World} {base n c : Nat} {A : Option Addr} {L : List (List Int)} (h : OwnGrid w base (.slice A n c) L.length (rowAt L)) (hs : GSm L) : GridAt w A L := by
  obtain ⟨A', c', e, hg⟩ := h.gridv hs
  simp only [Value.slice.injEq] at e
  rw [e.1]; exact hg
theorem GOwn.gridv {w : World} {lo : Option Nat} {base : Nat} {v : Value} {L : List (List Int)} (h : GOwn w lo base v L) (hs : GSm L) : GridV w v L := by
  obtain ⟨A, c, e, _, hr⟩ := h.rows (by have := hs.len; omega)
  exact ⟨A, c, e, hr.grid⟩
def marked (L : List (List Int)) (j : Nat) : List Int := seqF (1 + startAt (rowAt L) j) (rowAt L j).length
theorem marked_grid {w : World} {base n c : Nat} {A : Option Addr} {L : List (List Int)} (h : OwnGrid w base (.slice A n c) L.length (marked L)) (hs : GSm L) : GridAt w A ((List.range L.length).map (marked L)) := by
  obtain ⟨A', c', e, hg⟩ := h.grid (rows := (List.range L.length).map (marked L)) (by simp) (fun j hj => by simp [List.getD, hj]) (by have := hs.len; omega) (fun j _ => by
    have h1 : (rowAt L j).length ≤ 1024 := hs.row j
    unfold marked; rw [seqF_len]; omega)
  simp only [Value.slice.injEq] at e
  rw [e.1]; exact hg
end Go.Proofs.Ytgdicmeabppngaa

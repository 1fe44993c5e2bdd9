/- The least cost of a flow: there is one, and it is not great; Words for the laws on lists of lists; Lists of lists among the results of a law: marks in them, and that they are held. No condition. -/
import Derived.Test.YtibbjgbbclmfnaaLsAr
import Derived.Test.YtibbjgbbclmfnaaLsAb
import Derived.Test.YtibbjgbbclmfnaaLsAi
namespace Go.Proofs.Ytibbjgbbclmfnaa
open Go.RowKit Go.Sort

theorem lfOk_iff {F : Fld} {rooms needs S : List Int} : lfOk F rooms needs S = true ↔ haulB F rooms needs S = true ∧ needs.sum ≤ roomS rooms S := by
  unfold lfOk; rw [Bool.and_eq_true, decide_eq_true_eq]
theorem lst_ex {J M : Nat} {d : Nat → Nat → Int} {may : Nat → Nat → Bool} {nd rm : Nat → Int} (hd : ∀ j a, 0 ≤ d j a) : (∃ x, Haul J M may nd rm x) → ∃ c, IsLst J M d may nd rm c := by
  rintro ⟨x, hx⟩
  have key : ∀ (n : Nat) (x : Nat → Nat → Int), Haul J M may nd rm x → costT J M d x ≤ n → ∃ c, IsLst J M d may nd rm c := by
    intro n
    induction n with
    | zero =>
      intro x hx hc
      exact ⟨costT J M d x, ⟨x, hx, rfl⟩, fun y hy => by
        have : 0 ≤ costT J M d y := sumTo_nn (fun j hj => sumTo_nn (fun a ha => Int.mul_nonneg (hy.nn j a hj ha) (hd j a)))
        omega⟩
    | succ n ih =>
      intro x hx hc
      by_cases h : ∃ y, Haul J M may nd rm y ∧ costT J M d y < costT J M d x
      · obtain ⟨y, hy, hlt⟩ := h
        exact ih y hy (by omega)
      · exact ⟨costT J M d x, ⟨x, hx, rfl⟩, fun y hy => Int.not_lt.1 (fun hlt => h ⟨y, hy, hlt⟩)⟩
  have h0 : 0 ≤ costT J M d x := sumTo_nn (fun j hj => sumTo_nn (fun a ha => Int.mul_nonneg (hx.nn j a hj ha) (hd j a)))
  exact key (costT J M d x).toNat x hx (by omega)
/-- With room enough there is a least cost. -/
theorem lf_lst {F : Fld} {rooms needs S : List Int} (h : lfOk F rooms needs S = true) : IsLst F.di.length F.op.length (dF F) (openM S) (lget needs) (lget rooms) (lfV F rooms needs S) := by
  obtain ⟨h1, h2⟩ := lfOk_iff.1 h
  have hP := haul_p h1
  obtain ⟨x, hx⟩ := haul_ex (J := F.di.length) (M := F.op.length) (sA := fun a => flHas S a) (rm := lget rooms) (fun a _ => (hP.rb a).1) (sumTo (lget needs) F.di.length).toNat (lget needs) (fun j _ => (hP.nb j).1) (by have : 0 ≤ sumTo (lget needs) F.di.length := sumTo_nn (fun j _ => (hP.nb j).1); omega) (by rw [hP.ns, hP.rs]; exact h2)
  obtain ⟨c, hc⟩ := lst_ex (d := dF F) (fun j a => (dF_bd hP.good j a).1) ⟨x, hx⟩
  have := lfV_yes h hc
  rw [this]; exact hc
theorem lf_bd {F : Fld} {rooms needs S : List Int} (h : lfOk F rooms needs S = true) : 0 ≤ lfV F rooms needs S ∧ lfV F rooms needs S ≤ 24255 := by
  obtain ⟨h1, h2⟩ := lfOk_iff.1 h
  have hP := haul_p h1
  obtain ⟨x, hx, hc⟩ := (lf_lst h).some_
  have hf := haul_flow (S := S) (fun j a _ _ h => h) hx
  have hb := costFl_bd (flow := matL F.di.length F.op.length x) hP.good (fun j => (hP.nb j).2) (fun j hj => (flow_parts hf).2.1 j (by rw [matL_len]; exact hj)) F.di.length (Nat.le_refl _)
  rw [cost_mat, hc] at hb
  have h8 := (goodF_iff.1 hP.good).2.2.1
  omega
theorem lf_bd0 (F : Fld) (rooms needs S : List Int) : 0 ≤ lfV F rooms needs S ∧ lfV F rooms needs S ≤ 24255 := by
  cases h : lfOk F rooms needs S
  · rw [lfV_no h]; omega
  · exact lf_bd h
end Go.Proofs.Ytibbjgbbclmfnaa

namespace Go.Proofs.Ytibbjgbbclmfnaa
open Go.RowKit Go.Sort Go.ChangeShapes Go.WideShapes Go.ChangeAt

theorem eqIntSS_same (A B : Option Addr) (xs : List (List Int)) (n c d : Nat) (w : World) (hx : GridAt w A xs) (hy : GridAt w B xs) (hnx : xs.length = n) :
    Calls Try.prog 17 #[.slice A n c, .slice B n d] w fun e w' => e = .returned (.bool true) ∧ Dr w w' :=
  (eqIntSS_dr A B xs xs n n c d w hx hy hnx hnx).mono fun _ _ ⟨he, h⟩ => ⟨by rw [he]; simp, h⟩
theorem left1_pos {n : Nat} {l : Int} (h : (n : Int) ≤ l) : left1 n l = l - n := by unfold left1; rw [if_pos h]
theorem left1_no {n : Nat} {l : Int} (h : ¬ (n : Int) ≤ l) : left1 n l = -1 := by unfold left1; rw [if_neg h]
set_option maxRecDepth 100000 in
/-- An argument that is a slice of slices. -/
theorem open_gridAt {H : Type} {enc : TypeId × Value → H} {W : World} {v : Value} {d : DataW H} {p : List MemPlace} {b0 : Nat}
    (hv : Value.okWide Try.prog W .any b0 23 v) (h : DataW.Trod enc Try.prog W 0 (fun _ => true) true 23 v d p) : ∃ B rows c, v = .slice B rows.length c ∧ GridAt W B rows := by
  obtain ⟨a, len, cap, rfl⟩ := okWide_slice Try.underlying23 hv
  obtain ⟨fuel, hf⟩ := h
  simp only [Value.cells] at hf
  exact gridAt_of_trod Try.underlying23 Try.underlying22 Try.underlying3 cellsInts cellsInt hf
theorem rows_small {rows : List (List Int)} {l : Nat} (h : rowSum rows ≤ l) : ∀ k (hk : k < rows.length), rows[k].length ≤ l := fun k hk => Nat.le_trans (rowSum_mem hk) h
theorem toIntSS_at (B : Option Addr) (rows : List (List Int)) (m c : Nat) (w : World) (hx : GridAt w B rows) (hm : rows.length = m) (hb : ((m + rowSum rows : Nat) : Int) ≤ 1048576) :
    Calls Try.prog 24 #[.slice B m c] w fun e w' => ∃ A c', e = .returned (.slice A m c') ∧ GridAt w' A rows ∧ Kp w w' := by
  have hs := rows_small (rows := rows) (l := 1048576) (by omega)
  refine (toIntSS_any B rows m c w hx hm (by omega) hs).mono ?_
  rintro e w' ⟨v, rfl, ho, hk⟩
  obtain ⟨A, c', e1, hg⟩ := ho.grid hm (fun j hj => rfl) (by omega) (fun j hj => by
    have hj' : j < rows.length := by omega
    have := hs j hj'
    simp [List.getD, hj']; omega)
  exact ⟨A, c', by rw [e1], hg, hk⟩
theorem eqIntSS_any2 (A B : Option Addr) (xs : List (List Int)) (n c d : Nat) (w : World) (hx : GridAt w A xs) (hy : GridAt w B xs) (hn : xs.length = n) :
    Calls Try.prog 17 #[.slice A n c, .slice B n d] w fun e w' => e = .returned (.bool true) ∧ Kp w w' :=
  (eqIntSS_same A B xs n c d w hx hy hn).mono fun _ _ ⟨h1, h2⟩ => ⟨h1, h2.kp⟩
end Go.Proofs.Ytibbjgbbclmfnaa

namespace Go.Proofs.Ytibbjgbbclmfnaa
open Go.RowKit Go.Sort

/-- Few and short rows. -/
structure GSm (L : List (List Int)) : Prop where
  len : L.length ≤ 1024
  row : ∀ j, (L.getD j []).length ≤ 1024
def rowAt (L : List (List Int)) (j : Nat) : List Int := L.getD j []
theorem startAt_small {L : List (List Int)} (h : GSm L) : ∀ j, j ≤ L.length → startAt (rowAt L) j ≤ j * 1024
  | 0, _ => by simp [startAt]
  | j + 1, hj => by
    have h1 := startAt_small h j (by omega)
    have h2 : (rowAt L j).length ≤ 1024 := h.row j
    show startAt (rowAt L) j + (rowAt L j).length ≤ _
    omega
theorem startAt_top {L : List (List Int)} (h : GSm L) (j : Nat) (hj : j ≤ L.length) : startAt (rowAt L) j ≤ 1048576 := by
  have h1 := startAt_small h j hj
  have h2 := h.len
  have : j * 1024 ≤ 1024 * 1024 := Nat.mul_le_mul_right _ (by omega)
  omega
def GridV (w : World) (v : Value) (L : List (List Int)) : Prop := ∃ A c, v = .slice A L.length c ∧ GridAt w A L
theorem OwnGrid.gridv {w : World} {base : Nat} {v : Value} {L : List (List Int)} (h : OwnGrid w base v L.length (rowAt L)) (hs : GSm L) : GridV w v L :=
  h.grid rfl (fun _ _ => rfl) (by have := hs.len; omega) (fun j _ => Nat.le_trans (show (rowAt L j).length ≤ 1024 from hs.row j) (by omega))
theorem OwnGrid.gridOf {w : World} {base n c : Nat} {A : Option Addr} {L : List (List Int)} (h : OwnGrid w base (.slice A n c) L.length (rowAt L)) (hs : GSm L) : GridAt w A L := by
  obtain ⟨A', c', e, hg⟩ := h.gridv hs
  simp only [Value.slice.injEq] at e
  rw [e.1]; exact hg
theorem GOwn.gridv {w : World} {lo : Option Nat} {base : Nat} {v : Value} {L : List (List Int)} (h : GOwn w lo base v L) (hs : GSm L) : GridV w v L := by
  obtain ⟨A, c, e, _, hr⟩ := h.rows (by have := hs.len; omega)
  exact ⟨A, c, e, hr.grid⟩
def marked (L : List (List Int)) (j : Nat) : List Int := seqF (1 + startAt (rowAt L) j) (rowAt L j).length
theorem markG_any (v : Value) (L : List (List Int)) (base : Nat) (w : World) (h : OwnGrid w base v L.length (rowAt L)) (hs : GSm L) :
    Calls Try.prog 18 #[v, .int .i64 1] w fun e w' => e = .returned (.int .i64 (1 + (startAt (rowAt L) L.length : Int))) ∧ OwnGrid w' base v L.length (marked L) ∧ Turn (fun i => base ≤ i ∧ i < w.heap.size) w w' :=
  markIntSS_any v L.length (rowAt L) 1 base w.heap.size w h.bounded (by omega) (by have := hs.len; omega) (fun j hj => by have := startAt_top hs j hj; omega)
theorem marked_grid {w : World} {base n c : Nat} {A : Option Addr} {L : List (List Int)} (h : OwnGrid w base (.slice A n c) L.length (marked L)) (hs : GSm L) : GridAt w A ((List.range L.length).map (marked L)) := by
  obtain ⟨A', c', e, hg⟩ := h.grid (rows := (List.range L.length).map (marked L)) (by simp) (fun j hj => by simp [List.getD, hj]) (by have := hs.len; omega) (fun j _ => by
    have h1 : (rowAt L j).length ≤ 1024 := hs.row j
    unfold marked; rw [seqF_len]; omega)
  simp only [Value.slice.injEq] at e
  rw [e.1]; exact hg
set_option maxRecDepth 100000 in
set_option maxHeartbeats 400000 in
theorem heldG_any (A : Option Addr) (L : List (List Int)) (n c : Nat) (w : World) (h : GridAt w A ((List.range L.length).map (marked L))) (hs : GSm L) (hn : L.length = n) :
    Calls Try.prog 19 #[.slice A n c, .int .i64 1] w fun e w' => e = .returned (.int .i64 (1 + (startAt (rowAt L) n : Int))) ∧ Dr w w' := by
  have hl := hs.len
  have Hn := Lib.hid hn
  have hn1 : n ≤ 1024 := by omega
  have HS := Lib.hid hs
  clear hn hl hs
  go_enter Try.func19, Try.ntmps19
  go_wp2_with fail
  go_loopw [1, 5] (fun kv i wr => ∃ j : Nat, j ≤ n ∧ i = .int .i64 j ∧ kv = .int .i64 (1 + (startAt (rowAt L) j : Int)) ∧ Dr w wr) (fun _ i _ => n - (intOf i).toNat)
  case atStart => exact ⟨0, by omega, rfl, by simp [startAt], Dr.refl _⟩
  case round =>
    obtain ⟨j, hj, rfl, rfl, hd⟩ := hrel
    by_cases hlt : j < n
    · have lx : j < ((List.range L.length).map (marked L)).length := by simp; rw [Hn.out]; exact hlt
      obtain ⟨ad, A2, c2, rfl, hc, hi⟩ := (h.kp hd.kp).at_ lx
      have e1 : ((List.range L.length).map (marked L))[j] = marked L j := by simp
      rw [e1] at hc hi
      have hml : (marked L j).length = (rowAt L j).length := by unfold marked; rw [seqF_len]
      rw [hml] at hc
      have h3 : (rowAt L j).length ≤ 1024 := HS.out.row j
      have h4 := startAt_top HS.out j (by rw [Hn.out]; omega)
      have es : Hid ((startAt (rowAt L) (j + 1) : Int) = startAt (rowAt L) j + (rowAt L j).length) := by show (startAt (rowAt L) (j + 1) : Int) = _; simp [startAt]
      go_wp2_with fail
      have CC := Lib.hid (heldIntS_any A2 (rowAt L j).length c2 (1 + (startAt (rowAt L) j : Int)) wr hi (by omega) (by omega))
      with_reducible refine Calls.mono CC.out ?_
      rintro e w1 ⟨rfl, hd1⟩
      clear CC
      have hng : ¬ (1 + (startAt (rowAt L) j : Int) + ((rowAt L j).length : Int) < 0) := by omega
      go_wp2_with fail
      go_roundw
      case rel => exact ⟨j + 1, by omega, by go_num, by rw [es.out] <;> go_num, hd.trans hd1⟩
      case measure => simp [intOf]; omega
    · obtain rfl : j = n := by omega
      go_wp2_with fail
      go_ret
      exact ⟨rfl, hd⟩
end Go.Proofs.Ytibbjgbbclmfnaa

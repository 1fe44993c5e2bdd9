/- Lists of lists among the results of a law: marks in them, and that they are held. No condition. -/
import Derived.Test.YtghpkjllcapbpaaGridLaw
import Derived.Test.YtghpkjllcapbpaaGridApp
namespace Go.Proofs.Ytghpkjllcapbpaa
open Go.RowKit Go.Sort

/-- Few and short rows. -/
structure GSm (L : List (List Int)) : Prop where
  len : L.length ≤ 1024
  row : ∀ j, (L.getD j []).length ≤ 1024
def rowAt (L : List (List Int)) (j : Nat) : List Int := L.getD j []
theorem startAt_small {L : List (List Int)} (h : GSm L) : ∀ j, j ≤ L.length → startAt (rowAt L) j ≤ j * 1024
  | 0, _ => by simp [startAt]
  | j + 1, hj => by
    have h1 := startAt_small h j (by omega)
    have h2 : (rowAt L j).length ≤ 1024 := h.row j
    show startAt (rowAt L) j + (rowAt L j).length ≤ _
    omega
theorem startAt_top {L : List (List Int)} (h : GSm L) (j : Nat) (hj : j ≤ L.length) : startAt (rowAt L) j ≤ 1048576 := by
  have h1 := startAt_small h j hj
  have h2 := h.len
  have : j * 1024 ≤ 1024 * 1024 := Nat.mul_le_mul_right _ (by omega)
  omega
def GridV (w : World) (v : Value) (L : List (List Int)) : Prop := ∃ A c, v = .slice A L.length c ∧ GridAt w A L
theorem OwnGrid.gridv {w : World} {base : Nat} {v : Value} {L : List (List Int)} (h : OwnGrid w base v L.length (rowAt L)) (hs : GSm L) : GridV w v L :=
  h.grid rfl (fun _ _ => rfl) (by have := hs.len; omega) (fun j _ => Nat.le_trans (show (rowAt L j).length ≤ 1024 from hs.row j) (by omega))
theorem OwnGrid.gridOf {w : World} {base n c : Nat} {A : Option Addr} {L : List (List Int)} (h : OwnGrid w base (.slice A n c) L.length (rowAt L)) (hs : GSm L) : GridAt w A L := by
  obtain ⟨A', c', e, hg⟩ := h.gridv hs
  simp only [Value.slice.injEq] at e
  rw [e.1]; exact hg
theorem GOwn.gridv {w : World} {lo : Option Nat} {base : Nat} {v : Value} {L : List (List Int)} (h : GOwn w lo base v L) (hs : GSm L) : GridV w v L := by
  obtain ⟨A, c, e, _, hr⟩ := h.rows (by have := hs.len; omega)
  exact ⟨A, c, e, hr.grid⟩
def marked (L : List (List Int)) (j : Nat) : List Int := seqF (1 + startAt (rowAt L) j) (rowAt L j).length
theorem markG_any (v : Value) (L : List (List Int)) (base : Nat) (w : World) (h : OwnGrid w base v L.length (rowAt L)) (hs : GSm L) :
    Calls Try.prog 27 #[v, .int .i64 1] w fun e w' => e = .returned (.int .i64 (1 + (startAt (rowAt L) L.length : Int))) ∧ OwnGrid w' base v L.length (marked L) ∧ Turn (fun i => base ≤ i ∧ i < w.heap.size) w w' :=
  markIntSS_any v L.length (rowAt L) 1 base w.heap.size w h.bounded (by omega) (by have := hs.len; omega) (fun j hj => by have := startAt_top hs j hj; omega)
theorem marked_grid {w : World} {base n c : Nat} {A : Option Addr} {L : List (List Int)} (h : OwnGrid w base (.slice A n c) L.length (marked L)) (hs : GSm L) : GridAt w A ((List.range L.length).map (marked L)) := by
  obtain ⟨A', c', e, hg⟩ := h.grid (rows := (List.range L.length).map (marked L)) (by simp) (fun j hj => by simp [List.getD, hj]) (by have := hs.len; omega) (fun j _ => by
    have h1 : (rowAt L j).length ≤ 1024 := hs.row j
    unfold marked; rw [seqF_len]; omega)
  simp only [Value.slice.injEq] at e
  rw [e.1]; exact hg
set_option maxRecDepth 100000 in
set_option maxHeartbeats 400000 in
theorem heldG_any (A : Option Addr) (L : List (List Int)) (n c : Nat) (w : World) (h : GridAt w A ((List.range L.length).map (marked L))) (hs : GSm L) (hn : L.length = n) :
    Calls Try.prog 38 #[.slice A n c, .int .i64 1] w fun e w' => e = .returned (.int .i64 (1 + (startAt (rowAt L) n : Int))) ∧ Dr w w' := by
  have hl := hs.len
  have Hn := Lib.hid hn
  have hn1 : n ≤ 1024 := by omega
  have HS := Lib.hid hs
  clear hn hl hs
  go_enter Try.func38, Try.ntmps38
  go_wp2_with fail
  go_loopw [1, 5] (fun kv i wr => ∃ j : Nat, j ≤ n ∧ i = .int .i64 j ∧ kv = .int .i64 (1 + (startAt (rowAt L) j : Int)) ∧ Dr w wr) (fun _ i _ => n - (intOf i).toNat)
  case atStart => exact ⟨0, by omega, rfl, by simp [startAt], Dr.refl _⟩
  case round =>
    obtain ⟨j, hj, rfl, rfl, hd⟩ := hrel
    by_cases hlt : j < n
    · have lx : j < ((List.range L.length).map (marked L)).length := by simp; rw [Hn.out]; exact hlt
      obtain ⟨ad, A2, c2, rfl, hc, hi⟩ := (h.kp hd.kp).at_ lx
      have e1 : ((List.range L.length).map (marked L))[j] = marked L j := by simp
      rw [e1] at hc hi
      have hml : (marked L j).length = (rowAt L j).length := by unfold marked; rw [seqF_len]
      rw [hml] at hc
      have h3 : (rowAt L j).length ≤ 1024 := HS.out.row j
      have h4 := startAt_top HS.out j (by rw [Hn.out]; omega)
      have es : Hid ((startAt (rowAt L) (j + 1) : Int) = startAt (rowAt L) j + (rowAt L j).length) := by show (startAt (rowAt L) (j + 1) : Int) = _; simp [startAt]
      go_wp2_with fail
      have CC := Lib.hid (heldIntS_any A2 (rowAt L j).length c2 (1 + (startAt (rowAt L) j : Int)) wr hi (by omega) (by omega))
      with_reducible refine Calls.mono CC.out ?_
      rintro e w1 ⟨rfl, hd1⟩
      clear CC
      have hng : ¬ (1 + (startAt (rowAt L) j : Int) + ((rowAt L j).length : Int) < 0) := by omega
      go_wp2_with fail
      go_roundw
      case rel => exact ⟨j + 1, by omega, by go_num, by rw [es.out] <;> go_num, hd.trans hd1⟩
      case measure => simp [intOf]; omega
    · obtain rfl : j = n := by omega
      go_wp2_with fail
      go_ret
      exact ⟨rfl, hd⟩
end Go.Proofs.Ytghpkjllcapbpaa

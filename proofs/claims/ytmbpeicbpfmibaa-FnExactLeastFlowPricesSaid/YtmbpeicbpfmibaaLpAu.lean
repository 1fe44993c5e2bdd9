/- Words for the laws on lists of lists. No condition. -/
import Derived.Test.YtmbpeicbpfmibaaLpAb
namespace Go.Proofs.Ytmbpeicbpfmibaa
open Go.RowKit Go.Sort Go.ChangeShapes Go.WideShapes Go.ChangeAt

theorem eqIntSS_same (A B : Option Addr) (xs : List (List Int)) (n c d : Nat) (w : World) (hx : GridAt w A xs) (hy : GridAt w B xs) (hnx : xs.length = n) :
    Calls Try.prog 22 #[.slice A n c, .slice B n d] w fun e w' => e = .returned (.bool true) ∧ Dr w w' :=
  (eqIntSS_dr A B xs xs n n c d w hx hy hnx hnx).mono fun _ _ ⟨he, h⟩ => ⟨by rw [he]; simp, h⟩
theorem left1_pos {n : Nat} {l : Int} (h : (n : Int) ≤ l) : left1 n l = l - n := by unfold left1; rw [if_pos h]
theorem left1_no {n : Nat} {l : Int} (h : ¬ (n : Int) ≤ l) : left1 n l = -1 := by unfold left1; rw [if_neg h]
set_option maxRecDepth 100000 in
/-- An argument that is a slice of slices. -/
theorem open_gridAt {H : Type} {enc : TypeId × Value → H} {W : World} {v : Value} {d : DataW H} {p : List MemPlace} {b0 : Nat}
    (hv : Value.okWide Try.prog W .any b0 23 v) (h : DataW.Trod enc Try.prog W 0 (fun _ => true) true 23 v d p) : ∃ B rows c, v = .slice B rows.length c ∧ GridAt W B rows := by
  obtain ⟨a, len, cap, rfl⟩ := okWide_slice Try.underlying23 hv
  obtain ⟨fuel, hf⟩ := h
  simp only [Value.cells] at hf
  exact gridAt_of_trod Try.underlying23 Try.underlying22 Try.underlying3 cellsInts cellsInt hf
theorem rows_small {rows : List (List Int)} {l : Nat} (h : rowSum rows ≤ l) : ∀ k (hk : k < rows.length), rows[k].length ≤ l := fun k hk => Nat.le_trans (rowSum_mem hk) h
theorem toIntSS_at (B : Option Addr) (rows : List (List Int)) (m c : Nat) (w : World) (hx : GridAt w B rows) (hm : rows.length = m) (hb : ((m + rowSum rows : Nat) : Int) ≤ 1048576) :
    Calls Try.prog 33 #[.slice B m c] w fun e w' => ∃ A c', e = .returned (.slice A m c') ∧ GridAt w' A rows ∧ Kp w w' := by
  have hs := rows_small (rows := rows) (l := 1048576) (by omega)
  refine (toIntSS_any B rows m c w hx hm (by omega) hs).mono ?_
  rintro e w' ⟨v, rfl, ho, hk⟩
  obtain ⟨A, c', e1, hg⟩ := ho.grid hm (fun j hj => rfl) (by omega) (fun j hj => by
    have hj' : j < rows.length := by omega
    have := hs j hj'
    simp [List.getD, hj']; omega)
  exact ⟨A, c', by rw [e1], hg, hk⟩
theorem eqIntSS_any2 (A B : Option Addr) (xs : List (List Int)) (n c d : Nat) (w : World) (hx : GridAt w A xs) (hy : GridAt w B xs) (hn : xs.length = n) :
    Calls Try.prog 22 #[.slice A n c, .slice B n d] w fun e w' => e = .returned (.bool true) ∧ Kp w w' :=
  (eqIntSS_same A B xs n c d w hx hy hn).mono fun _ _ ⟨h1, h2⟩ => ⟨h1, h2.kp⟩
end Go.Proofs.Ytmbpeicbpfmibaa

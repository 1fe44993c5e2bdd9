/- Words for the laws on seasons. No condition. -/
import Derived.Test.YtpifeplcmfcheaaSea4
import Derived.Test.YtpifeplcmfcheaaKeep
import Derived.Test.YtpifeplcmfcheaaLawU
import Derived.Deep.DeepCutAuto
namespace Go.Proofs.Ytpifeplcmfcheaa
open Go.RowKit

theorem SeaAt.agg {w : World} {v : Value} {S : Sea} (h : SeaAt w v S) : ∃ A a B b C c D d, v = .agg #[.slice A S.op.length a, .slice B S.cl.length b, .slice C S.ke.length c, .slice D S.ro.length d] := by
  obtain ⟨A, a, B, b, C, c, D, d, e, _⟩ := h
  exact ⟨A, a, B, b, C, c, D, d, e⟩
theorem rows_small {rows : List (List Int)} {l : Nat} (h : rowSum rows ≤ l) : ∀ k (hk : k < rows.length), rows[k].length ≤ l := fun k hk => Nat.le_trans (rowSum_mem hk) h
theorem toIntSS_at (B : Option Addr) (rows : List (List Int)) (m c : Nat) (w : World) (hx : GridAt w B rows) (hm : rows.length = m) (hb : ((m + rowSum rows : Nat) : Int) ≤ 1048576) :
    Calls Try.prog 17 #[.slice B m c] w fun e w' => ∃ A c', e = .returned (.slice A m c') ∧ GridAt w' A rows ∧ Kp w w' := by
  have hs := rows_small (rows := rows) (l := 1048576) (by omega)
  refine (toIntSS_any B rows m c w hx hm (by omega) hs).mono ?_
  rintro e w' ⟨v, rfl, ho, hk⟩
  obtain ⟨A, c', e1, hg⟩ := ho.grid hm (fun j hj => rfl) (by omega) (fun j hj => by
    have hj' : j < rows.length := by omega
    have := hs j hj'
    simp [List.getD, hj']; omega)
  exact ⟨A, c', by rw [e1], hg, hk⟩
theorem eqIntSS_any2 (A B : Option Addr) (xs : List (List Int)) (n c d : Nat) (w : World) (hx : GridAt w A xs) (hy : GridAt w B xs) (hn : xs.length = n) :
    Calls Try.prog 19 #[.slice A n c, .slice B n d] w fun e w' => e = .returned (.bool true) ∧ Kp w w' :=
  (eqIntSS_same A B xs n c d w hx hy hn).mono fun _ _ ⟨h1, h2⟩ => ⟨h1, h2.kp⟩
end Go.Proofs.Ytpifeplcmfcheaa

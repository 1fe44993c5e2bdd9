/- A copy of a list: the reference's. No condition. -/
import Derived.Test.YtibbjgbbclmfnaaWaAg
namespace Go.Proofs.Ytibbjgbbclmfnaa
open Go.RowKit Go.Sort

set_option maxHeartbeats 400000 in
/-- A copy of the call's own. -/
theorem l1Own_any (ad : Addr) (xs : List Int) (n c : Nat) (w : World) (hx : IntsAt w (some ad) xs) (hn : xs.length = n) (hb : n ≤ 1048576) :
    Calls Try.prog 37 #[.slice (some ad) n c] w fun e w' => ∃ v, e = .returned v ∧ Own w' w.heap.size v xs ∧ Kp w w' := by
  have Hn := Lib.hid hn; clear hn
  have hlen : ([] : List Int).length + xs.length ≤ 4194304 := by rw [Hn.out]; simp; omega
  have ho0 := own_new0 w w.heap.size (Nat.le_refl _)
  have hk0 := (Kp.refl w).alloc (.cells #[] 3)
  go_enter Try.func37, Try.ntmps37
  go_wp2_with (at_builtin; refine wpl_appAll rfl (.tmp 3) (.tmp 4) rfl w.heap.size _ [] xs ad n c rfl rfl ho0 (hx.kp hk0) Hn.out hk0.le hlen ?_; intro v' w' ho' ht' _; have hk4 := ho0.kp_turn hk0 (Nat.le_refl _) ht')
  go_ret
  exact ⟨_, rfl, by simpa using ho', hk4⟩
end Go.Proofs.Ytibbjgbbclmfnaa

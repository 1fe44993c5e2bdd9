/- Sums of numbers of some places: reference and program. No condition. -/
import Derived.Test.YtcekddpllpbkmaaService
namespace Go.Proofs.Ytcekddpllpbkmaa
open Go.RowKit Go.Sort

def numAt (xs : List Int) (a : Int) : Int := xs.getD a.toNat 0
def roomTo (xs C : List Int) (k : Nat) : Int := ((C.take k).map (numAt xs)).sum
def roomS (xs C : List Int) : Int := (C.map (numAt xs)).sum
theorem roomTo_succ {xs C : List Int} {k : Nat} (hk : k < C.length) : roomTo xs C (k + 1) = roomTo xs C k + numAt xs C[k] := by
  unfold roomTo
  rw [List.take_succ_eq_append_getElem hk, List.map_append, List.sum_append]; simp
theorem roomTo_all {xs C : List Int} {k : Nat} (hk : C.length ≤ k) : roomTo xs C k = roomS xs C := by
  unfold roomTo roomS
  rw [List.take_of_length_le hk]
theorem numAt_bd {xs : List Int} {M : Int} (hM : 0 ≤ M) (h : ∀ x ∈ xs, -M ≤ x ∧ x ≤ M) (a : Int) : -M ≤ numAt xs a ∧ numAt xs a ≤ M := by
  unfold numAt
  by_cases hk : a.toNat < xs.length
  · have e : xs.getD a.toNat 0 = xs[a.toNat] := by simp [List.getD, hk]
    rw [e]; exact h _ (List.getElem_mem hk)
  · rw [List.getD_eq_getElem?_getD, List.getElem?_eq_none (by omega)]; simp; omega
theorem roomTo_bd {xs C : List Int} {M : Int} (hM : 0 ≤ M) (hM9 : M ≤ 100000) (h : ∀ x ∈ xs, -M ≤ x ∧ x ≤ M) : ∀ k, k ≤ C.length → -(k * 100000) ≤ roomTo xs C k ∧ roomTo xs C k ≤ k * 100000
  | 0, _ => by simp [roomTo]
  | k + 1, hk => by
    have h1 := roomTo_bd (C := C) hM hM9 h k (by omega)
    have h2 := numAt_bd hM h (C[k]'(by omega))
    rw [roomTo_succ (show k < C.length by omega)]; omega
theorem roomS_bd {xs C : List Int} {M : Int} (hM : 0 ≤ M) (hM9 : M ≤ 100000) (h : ∀ x ∈ xs, -M ≤ x ∧ x ≤ M) (hl : C.length ≤ 7) : -700000 ≤ roomS xs C ∧ roomS xs C ≤ 700000 := by
  have := roomTo_bd (C := C) hM hM9 h C.length (Nat.le_refl _)
  rw [roomTo_all (Nat.le_refl _)] at this
  omega
theorem numCell {w : World} {ad : Addr} {xs : List Int} {a : Int} (h : IntsAt w (some ad) xs) (h0 : 0 ≤ a) (h1 : a < xs.length) : w.cell? (ad.add a.toNat) = some (.int .i64 (numAt xs a)) := by
  have hk : a.toNat < xs.length := by omega
  rw [h.some_ hk]
  simp [numAt, List.getD, hk]
theorem l7Room_any (A1 : Option Addr) (xs : List Int) (n1 c1 : Nat) (A2 : Option Addr) (C : List Int) (n c0 : Nat) (M : Int) (w : World) (h1 : IntsAt w A1 xs) (hn1 : xs.length = n1) (h2 : IntsAt w A2 C) (hn : C.length = n) (hc : ∀ x ∈ C, 0 ≤ x ∧ x < n1) (hl : n ≤ 7) (hM : 0 ≤ M) (hM9 : M ≤ 100000) (hb : ∀ x ∈ xs, -M ≤ x ∧ x ≤ M) :
    Calls Try.prog 56 #[.slice A1 n1 c1, .slice A2 n c0] w fun e w' => e = .returned (.int .i64 (roomS xs C)) ∧ w = w' := by
  have hm1 : n1 ≤ 9223372036854775807 := hn1 ▸ h1.1
  have Hn1 := Lib.hid hn1; have Hn := Lib.hid hn
  have HC := Lib.hid hc
  have HB := Lib.hid (fun k (hk : k ≤ C.length) => roomTo_bd (C := C) hM hM9 hb k hk)
  have HN := Lib.hid (fun a => numAt_bd hM hb a)
  clear hn1 hn hc hb
  go_enter Try.func56, Try.ntmps56
  go_wp2_with fail
  go_loop [5, 6] (fun sv iv => ∃ k : Nat, k ≤ n ∧ iv = .int .i64 k ∧ sv = .int .i64 (roomTo xs C k)) (fun _ iv => n - (intOf iv).toNat)
  case atStart => exact ⟨0, by omega, rfl, rfl⟩
  case round =>
    obtain ⟨k, hk, rfl, rfl⟩ := hrel
    by_cases hlt : k < n
    · have lx : k < C.length := by rw [Hn.out]; exact hlt
      obtain ⟨sd, rfl, hck⟩ := h2.at_ lx
      obtain ⟨ha0, ha1⟩ := HC.out _ (List.getElem_mem lx)
      obtain ⟨rd, rfl, _⟩ := h1.at_ (k := 0) (by rw [Hn1.out]; omega)
      have hnc := numCell h1 ha0 (by rw [Hn1.out]; exact ha1)
      have hsu := Lib.hid (roomTo_succ (xs := xs) lx)
      obtain ⟨b1, b2⟩ := HB.out k (Nat.le_of_lt lx)
      obtain ⟨b3, b4⟩ := HN.out C[k]
      generalize numAt xs C[k] = q at *
      generalize roomTo xs C k = p at *
      go_wp2_with fail
      go_round
      case rel => exact ⟨k + 1, by omega, by go_num, by rw [hsu.out] <;> go_num⟩
      case measure => simp [intOf]; omega
    · go_wp2_with fail
      go_ret
      exact ⟨ret_int (by rw [roomTo_all (by rw [Hn.out]; omega)]), rfl⟩
end Go.Proofs.Ytcekddpllpbkmaa

/- Seasons in memory: words, and contracts of the laws' helpers on seasons. No condition. -/
import Derived.Test.YtjoebikljmkhfaaGridLaw
import Derived.Test.YtjoebikljmkhfaaMark2
import Derived.Test.YtjoebikljmkhfaaLawU
namespace Go.Proofs.Ytjoebikljmkhfaa
open Go.RowKit

theorem infoGrid : (Try.prog.info? 26).map (fun i => (i.zero, i.size, i.bytes)) = some (some (.slice none 0 0), 1, 24) := by kernel_rfl

/-- A slice of slices of slices. -/
def GridsAt (w : World) (C : Option Addr) (rs : List (List (List Int))) : Prop :=
  rs.length ≤ 9223372036854775807 ∧ ∀ k, k < rs.length → ∃ cd B c, C = some cd ∧ w.cell? (cd.add k) = some (.slice B (rs.getD k []).length c) ∧ GridAt w B (rs.getD k [])
theorem GridsAt.at_ {w : World} {C : Option Addr} {rs : List (List (List Int))} (h : GridsAt w C rs) {k : Nat} (hk : k < rs.length) :
    ∃ cd B c, C = some cd ∧ w.cell? (cd.add k) = some (.slice B rs[k].length c) ∧ GridAt w B rs[k] := by
  obtain ⟨bd, A, c, h1, h2, h3⟩ := h.2 k hk
  have e : rs.getD k [] = rs[k] := by simp [List.getD, hk]
  exact ⟨bd, A, c, h1, by rw [h2, e], by rw [← e]; exact h3⟩
theorem GridsAt.some_ {w : World} {cd : Addr} {rs : List (List (List Int))} (h : GridsAt w (some cd) rs) {k : Nat} (hk : k < rs.length) :
    ∃ B c, w.cell? (cd.add k) = some (.slice B rs[k].length c) ∧ GridAt w B rs[k] := by
  obtain ⟨cd', B, c, h1, h2, h3⟩ := h.at_ hk
  cases h1; exact ⟨B, c, h2, h3⟩
theorem GridsAt.kp {w w' : World} {C : Option Addr} {rs : List (List (List Int))} (h : GridsAt w C rs) (hk : Kp w w') : GridsAt w' C rs :=
  ⟨h.1, fun k hlt => by obtain ⟨bd, A, c, e, hc, hi⟩ := h.2 k hlt; exact ⟨bd, A, c, e, hk.get hc, hi.kp hk⟩⟩

/-- A season: costs to open, to close, to keep; the rounds. -/
structure Sea where
  op : List Int
  cl : List Int
  ke : List Int
  ro : List (List (List Int))
def SeaAt (w : World) (v : Value) (S : Sea) : Prop :=
  ∃ A a B b C c D d, v = .agg #[.slice A S.op.length a, .slice B S.cl.length b, .slice C S.ke.length c, .slice D S.ro.length d] ∧ IntsAt w A S.op ∧ IntsAt w B S.cl ∧ IntsAt w C S.ke ∧ GridsAt w D S.ro
theorem SeaAt.kp {w w' : World} {v : Value} {S : Sea} (h : SeaAt w v S) (hk : Kp w w') : SeaAt w' v S := by
  obtain ⟨A, a, B, b, C, c, D, d, e, h1, h2, h3, h4⟩ := h
  exact ⟨A, a, B, b, C, c, D, d, e, h1.kp hk, h2.kp hk, h3.kp hk, h4.kp hk⟩
theorem row4 (w : World) (a b c d : Value) (t : TypeId) : (w.alloc (.cells #[a, b, c, d] t)).rowIs w.heap.size t 4 (fun j => if j = 0 then a else if j = 1 then b else if j = 2 then c else d) :=
  World.rowIs_alloc w #[a, b, c, d] t _ (fun i hi => by
    have : i = 0 ∨ i = 1 ∨ i = 2 ∨ i = 3 := by simp at hi; omega
    rcases this with rfl | rfl | rfl | rfl <;> rfl)
theorem box4 (w : World) (a b c d : Value) (t : TypeId) : (w.alloc (.cells #[a, b, c, d] t)).cell? ⟨w.heap.size, 0, none⟩ = some a ∧ (w.alloc (.cells #[a, b, c, d] t)).cell? ⟨w.heap.size, 1, none⟩ = some b ∧
    (w.alloc (.cells #[a, b, c, d] t)).cell? ⟨w.heap.size, 2, none⟩ = some c ∧ (w.alloc (.cells #[a, b, c, d] t)).cell? ⟨w.heap.size, 3, none⟩ = some d := by
  refine ⟨?_, ?_, ?_, ?_⟩ <;> (rw [World.cell?_alloc_at _ _ _ _ rfl]; rfl)

def gridSum : List (List (List Int)) → Nat
  | [] => 0
  | r :: rs => r.length + rowSum r + gridSum rs
theorem gridSum_append (a b : List (List (List Int))) : gridSum (a ++ b) = gridSum a + gridSum b := by
  induction a with
  | nil => simp [gridSum]
  | cons r rs ih => simp [gridSum, ih]; omega
theorem gridSum_take_succ {rs : List (List (List Int))} {k : Nat} (hk : k < rs.length) : gridSum (rs.take (k + 1)) = gridSum (rs.take k) + (rs[k].length + rowSum rs[k]) := by
  rw [List.take_succ_eq_append_getElem hk, gridSum_append]; simp [gridSum]
theorem gridSum_take_le (rs : List (List (List Int))) (k : Nat) : gridSum (rs.take k) ≤ gridSum rs := by
  have := gridSum_append (rs.take k) (rs.drop k)
  rw [List.take_append_drop] at this; omega
theorem gridSum_mem {rs : List (List (List Int))} {k : Nat} (hk : k < rs.length) : rs[k].length + rowSum rs[k] ≤ gridSum rs := by
  have h1 := gridSum_take_succ hk
  have h2 := gridSum_take_le rs (k + 1)
  omega

set_option maxHeartbeats 400000 in
theorem szIntSSS_any (B : Option Addr) (rs : List (List (List Int))) (m c : Nat) (l : Int) (w : World) (hx : GridsAt w B rs) (hm : rs.length = m) (h0 : 0 ≤ l) (h1 : l ≤ 1048576) :
    Calls Try.prog 18 #[.slice B m c, .int .i64 l] w fun e w' => e = .returned (.int .i64 (left1 (m + gridSum rs) l)) ∧ w = w' := by
  have hm63 : m ≤ 9223372036854775807 := hm ▸ hx.1
  have Hm := Lib.hid hm; clear hm
  by_cases h : (m : Int) ≤ l
  · go_enter Try.func18, Try.ntmps18
    go_wp2_with fail
    go_loop [1, 5] (fun lv i => ∃ k : Nat, k ≤ m ∧ i = .int .i64 k ∧ (gridSum (rs.take k) : Int) ≤ l - m ∧ lv = .int .i64 (l - m - gridSum (rs.take k))) (fun _ i => m - (intOf i).toNat)
    case atStart => exact ⟨0, by omega, rfl, by simp [gridSum]; omega, by simp [gridSum]⟩
    case round =>
      obtain ⟨k, hk, rfl, hs, rfl⟩ := hrel
      by_cases hlt : k < m
      · have lx : k < rs.length := by rw [Hm.out]; exact hlt
        obtain ⟨bd, A, ca, rfl, hc, hr⟩ := hx.at_ lx
        have hsum := Lib.hid (gridSum_take_succ lx)
        have hsl := gridSum_take_le rs (k + 1)
        go_wp2_with fail
        refine (szIntSS_any A _ _ ca _ w hr rfl (by omega) (by omega)).mono ?_
        rintro e w' ⟨rfl, rfl⟩
        by_cases hf : ((rs[k].length + rowSum rs[k] : Nat) : Int) ≤ l - m - gridSum (rs.take k)
        · have e1 : left1 (rs[k].length + rowSum rs[k]) (l - m - gridSum (rs.take k)) = l - m - gridSum (rs.take k) - (rs[k].length + rowSum rs[k] : Nat) := by rw [left1, if_pos hf]
          rw [e1]
          clear e1
          go_wp2_with fail
          go_round
          case rel => exact ⟨k + 1, by omega, by go_num, by rw [hsum.out]; omega, by rw [hsum.out]; go_num⟩
          case measure => simp [intOf]; omega
        · have e1 : left1 (rs[k].length + rowSum rs[k]) (l - m - gridSum (rs.take k)) = -1 := by rw [left1, if_neg hf]
          rw [e1]
          clear e1
          go_wp2_with fail
          go_ret
          refine ⟨ret_int ?_, rfl⟩
          have := hsum.out
          rw [left1, if_neg (by omega)]
      · go_wp2_with fail
        go_ret
        refine ⟨ret_int ?_, rfl⟩
        have e2 : rs.take k = rs := List.take_of_length_le (by rw [Hm.out]; omega)
        rw [e2] at hs ⊢
        rw [left1, if_pos (by omega)]; omega
  · go_enter Try.func18, Try.ntmps18
    go_wp2_with fail
    go_ret
    exact ⟨ret_int (by rw [left1, if_neg (by omega)]), rfl⟩

set_option maxHeartbeats 400000 in
theorem eqIntSSS_eq (A B : Option Addr) (xs : List (List (List Int))) (n c d : Nat) (w : World) (hx : GridsAt w A xs) (hy : GridsAt w B xs) (hnx : xs.length = n) :
    Calls Try.prog 26 #[.slice A n c, .slice B n d] w fun e w' => e = .returned (.bool true) ∧ Dr w w' := by
  have hn : n ≤ 9223372036854775807 := hnx ▸ hx.1
  have Hx := Lib.hid hnx; clear hnx
  have h1 : ((n : Int) != (n : Int)) = false := by simp
  go_enter Try.func26, Try.ntmps26
  go_wp2
  go_loopw [5] (fun i wr => ∃ k : Nat, k ≤ n ∧ i = .int .i64 k ∧ Dr w wr) (fun i _ => n - (intOf i).toNat)
  case atStart => exact ⟨0, by omega, rfl, Dr.refl w⟩
  case round =>
    obtain ⟨k, hk, rfl, hdr⟩ := hrel
    by_cases hlt : k < n
    · have lx : k < xs.length := by rw [Hx.out]; exact hlt
      obtain ⟨ad, A, ca, rfl, hc, hra⟩ := (hx.kp hdr.kp).at_ lx
      obtain ⟨bd, B, cb, rfl, hd, hrb⟩ := (hy.kp hdr.kp).at_ lx
      have Cq := Lib.hid (fun (W : World) (hW : Kp wr W) => eqIntSS_same A B xs[k] _ ca cb W (hra.kp hW) (hrb.kp hW) rfl)
      go_wp2_with fail
      go_quiet ((go_at_call 12; exact Calls.dr_quiet (Cq.out _ ((Kp.refl _).drewN _))))
      go_wp2_with fail
      go_roundw
      case rel => exact ⟨k + 1, by omega, by go_num, hdr.drewN nq⟩
      case measure => simp [intOf]; omega
    · go_wp2_with fail
      go_ret
      exact ⟨rfl, hdr⟩
end Go.Proofs.Ytjoebikljmkhfaa

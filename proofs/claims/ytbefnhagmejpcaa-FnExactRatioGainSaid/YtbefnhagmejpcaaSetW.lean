/- The comparisons of two sets, the reference's and the program's. No condition. -/
import Derived.Test.YtbefnhagmejpcaaSort
namespace Go.Proofs.Ytbefnhagmejpcaa
open Go.RowKit Go.Sort

def cmpI (x y : Int) : Int := if x < y then -1 else if y < x then 1 else 0
def orL : List Int → Int
  | [] => 0
  | x :: xs => if x = 0 then orL xs else x
theorem orL_drop {xs : List Int} {k : Nat} (hk : k < xs.length) (h : xs[k] = 0) : orL (xs.drop k) = orL (xs.drop (k + 1)) := by
  rw [List.drop_eq_getElem_cons hk, orL, if_pos h]
theorem orL_at {xs : List Int} {k : Nat} (hk : k < xs.length) (h : xs[k] ≠ 0) : orL (xs.drop k) = xs[k] := by
  rw [List.drop_eq_getElem_cons hk, orL, if_neg h]
theorem isNaN_any (x : Int) (w : World) : Calls Try.prog 132 #[.int .i64 x] w fun e w' => e = .returned (.bool false) ∧ w = w' := by
  go_enter Try.func132, Try.ntmps132
  have h : (x != x) = false := by simp
  go_wp2_with fail
  go_ret
  exact ⟨rfl, rfl⟩
theorem compareI_any (x y : Int) (w : World) : Calls Try.prog 109 #[.int .i64 x, .int .i64 y] w fun e w' => e = .returned (.int .i64 (cmpI x y)) ∧ w = w' := by
  go_enter Try.func109, Try.ntmps109
  go_wp2_with fail
  have CC := Lib.hid (isNaN_any x w)
  with_reducible refine Calls.mono CC.out ?_
  rintro e w1 ⟨rfl, hw⟩
  obtain rfl := hw
  clear CC
  go_wp2_with fail
  have CC := Lib.hid (isNaN_any y w)
  with_reducible refine Calls.mono CC.out ?_
  rintro e w2 ⟨rfl, hw⟩
  obtain rfl := hw
  clear CC
  by_cases h1 : x < y
  · have e : Hid (cmpI x y = -1) := by show cmpI x y = _; simp [cmpI, h1]
    go_wp2_with fail
    go_ret
    exact ⟨ret_int e.out.symm, rfl⟩
  · by_cases h2 : y < x
    · have e : Hid (cmpI x y = 1) := by show cmpI x y = _; simp [cmpI, h1, h2]
      go_wp2_with fail
      go_ret
      exact ⟨ret_int e.out.symm, rfl⟩
    · have e : Hid (cmpI x y = 0) := by show cmpI x y = _; simp [cmpI, h1, h2]
      go_wp2_with fail
      go_ret
      exact ⟨ret_int e.out.symm, rfl⟩
theorem or_any (A0 : Option Addr) (xs : List Int) (n c0 : Nat) (w : World) (hS : IntsAt w A0 xs) (hn : xs.length = n) :
    Calls Try.prog 108 #[.slice A0 n c0] w fun e w' => e = .returned (.int .i64 (orL xs)) ∧ w = w' := by
  have hm : n ≤ 9223372036854775807 := hn ▸ hS.1
  have Hn := Lib.hid hn; clear hn
  go_enter Try.func108, Try.ntmps108
  go_wp2_with fail
  go_loop [8] (fun iv => ∃ k : Nat, k ≤ n ∧ iv = .int .i64 k ∧ Hid (orL (xs.drop k) = orL xs)) (fun iv => n - (intOf iv).toNat)
  case atStart => exact ⟨0, by omega, rfl, rfl⟩
  case round =>
    obtain ⟨k, hk, rfl, Hp⟩ := hrel
    by_cases hlt : k < n
    · have lx : k < xs.length := by rw [Hn.out]; exact hlt
      obtain ⟨ad, rfl, hc⟩ := hS.at_ lx
      cases ht : (xs[k] != 0)
      · have e0 : xs[k] = 0 := by simpa using ht
        have Hy := Lib.hid ((orL_drop lx e0).symm.trans Hp.out)
        clear e0
        go_wp2_with fail
        go_round
        case rel => exact ⟨k + 1, by omega, by go_num, Hy⟩
        case measure => simp [intOf]; omega
      · have e0 : xs[k] ≠ 0 := by simpa using ht
        have Hy := Lib.hid ((orL_at lx e0).symm.trans Hp.out)
        clear e0
        go_wp2_with fail
        go_ret
        exact ⟨ret_int Hy.out, rfl⟩
    · have e0 : xs.drop k = [] := List.drop_eq_nil_of_le (by rw [Hn.out]; omega)
      have Hy : Hid (orL xs = 0) := by show orL xs = 0; rw [← Hp.out, e0]; rfl
      clear e0
      go_wp2_with fail
      go_ret
      exact ⟨ret_int Hy.out.symm, rfl⟩
theorem lexC_cons (x y : Int) (xs ys : List Int) : lexC (x :: xs) (y :: ys) = if x < y then -1 else if y < x then 1 else lexC xs ys := rfl
theorem lexC_step {xs ys : List Int} {k : Nat} (hx : k < xs.length) (hy : k < ys.length) : lexC (xs.drop k) (ys.drop k) = if cmpI xs[k] ys[k] = 0 then lexC (xs.drop (k + 1)) (ys.drop (k + 1)) else cmpI xs[k] ys[k] := by
  rw [List.drop_eq_getElem_cons hx, List.drop_eq_getElem_cons hy, lexC_cons]
  unfold cmpI
  by_cases h1 : xs[k] < ys[k]
  · simp [h1]
  · by_cases h2 : ys[k] < xs[k]
    · simp [h1, h2]
    · simp [h1, h2]
theorem slicesCompare_any (A1 A2 : Option Addr) (xs ys : List Int) (n m c d : Nat) (w : World) (h1 : IntsAt w A1 xs) (hn : xs.length = n) (h2 : IntsAt w A2 ys) (hm : ys.length = m) :
    Calls Try.prog 110 #[.slice A1 n c, .slice A2 m d] w fun e w' => e = .returned (.int .i64 (lexC xs ys)) ∧ w = w' := by
  have hn9 : n ≤ 9223372036854775807 := hn ▸ h1.1
  have hm9 : m ≤ 9223372036854775807 := hm ▸ h2.1
  have Hn := Lib.hid hn; clear hn
  have Hm := Lib.hid hm; clear hm
  go_enter Try.func110, Try.ntmps110
  go_wp2_with fail
  go_loop [11] (fun iv => ∃ k : Nat, k ≤ n ∧ k ≤ m ∧ iv = .int .i64 k ∧ Hid (lexC (xs.drop k) (ys.drop k) = lexC xs ys)) (fun iv => n - (intOf iv).toNat)
  case atStart => exact ⟨0, by omega, by omega, rfl, rfl⟩
  case round =>
    obtain ⟨k, hk, hkm, rfl, Hp⟩ := hrel
    by_cases hlt : k < n
    · have lx : k < xs.length := by rw [Hn.out]; exact hlt
      obtain ⟨ad, rfl, hc⟩ := h1.at_ lx
      by_cases hlt2 : k < m
      · have ly : k < ys.length := by rw [Hm.out]; exact hlt2
        obtain ⟨bd, rfl, hd⟩ := h2.at_ ly
        have hst := Lib.hid (lexC_step lx ly)
        go_wp2_with fail
        have CC := Lib.hid (compareI_any xs[k] ys[k] w)
        with_reducible refine Calls.mono CC.out ?_
        rintro e w1 ⟨rfl, hw⟩
        obtain rfl := hw
        clear CC
        cases ht : (cmpI xs[k] ys[k] != 0)
        · have e0 : cmpI xs[k] ys[k] = 0 := by simpa using ht
          have Hy : Hid (lexC (xs.drop (k + 1)) (ys.drop (k + 1)) = lexC xs ys) := by show _ = _; rw [← Hp.out, hst.out, if_pos e0]
          clear e0
          go_wp2_with fail
          go_round
          case rel => exact ⟨k + 1, by omega, by omega, by go_num, Hy⟩
          case measure => simp [intOf]; omega
        · have e0 : ¬ cmpI xs[k] ys[k] = 0 := by simpa using ht
          have Hy : Hid (cmpI xs[k] ys[k] = lexC xs ys) := by show _ = _; rw [← Hp.out, hst.out, if_neg e0]
          clear e0
          go_wp2_with fail
          go_ret
          exact ⟨ret_int Hy.out, rfl⟩
      · have e0 : ys.drop k = [] := List.drop_eq_nil_of_le (by rw [Hm.out]; omega)
        have Hy : Hid (lexC xs ys = 1) := by show _ = _; rw [← Hp.out, e0, List.drop_eq_getElem_cons lx]; rfl
        clear e0
        go_wp2_with fail
        go_ret
        exact ⟨ret_int Hy.out.symm, rfl⟩
    · have e0 : xs.drop k = [] := List.drop_eq_nil_of_le (by rw [Hn.out]; omega)
      by_cases hlt2 : k < m
      · have ly : k < ys.length := by rw [Hm.out]; exact hlt2
        have Hy : Hid (lexC xs ys = -1) := by show _ = _; rw [← Hp.out, e0, List.drop_eq_getElem_cons ly]; rfl
        have hnm : n < m := by omega
        clear e0
        go_wp2_with fail
        go_ret
        exact ⟨ret_int Hy.out.symm, rfl⟩
      · have e1 : ys.drop k = [] := List.drop_eq_nil_of_le (by rw [Hm.out]; omega)
        have Hy : Hid (lexC xs ys = 0) := by show _ = _; rw [← Hp.out, e0, e1]; rfl
        have hnm : ¬ n < m := by omega
        clear e0 e1
        go_wp2_with fail
        go_ret
        exact ⟨ret_int Hy.out.symm, rfl⟩
theorem cmpS_or (a b : List Int) : orL [cmpI a.length b.length, lexC a b] = cmpS a b := by
  unfold cmpS cmpI
  by_cases h1 : a.length < b.length
  · simp [orL, h1]
  · by_cases h2 : b.length < a.length
    · simp [orL, h1, h2]
    · simp only [orL, h1, h2, Int.ofNat_lt, if_false, if_true]
      by_cases h3 : lexC a b = 0 <;> simp [h3]
theorem two_ints (w : World) (x y : Int) : IntsAt (w.alloc (.cells #[.int .i64 x, .int .i64 y] 3)) (some ⟨w.heap.size, 0, none⟩) [x, y] :=
  ⟨by simp, fun k hk => by
    have hk2 : k < 2 := by simpa using hk
    refine ⟨_, rfl, ?_⟩
    rw [add0, World.cell?_alloc_at _ _ _ _ rfl]
    match k, hk2 with
    | 0, _ => rfl
    | 1, _ => rfl⟩
theorem compareSets_any (A1 A2 : Option Addr) (xs ys : List Int) (n m c d : Nat) (w : World) (h1 : IntsAt w A1 xs) (hn : xs.length = n) (h2 : IntsAt w A2 ys) (hm : ys.length = m) :
    Calls Try.prog 100 #[.slice A1 n c, .slice A2 m d] w fun e w' => e = .returned (.int .i64 (cmpS xs ys)) ∧ Gw w w' := by
  have hn9 : n ≤ 9223372036854775807 := hn ▸ h1.1
  have hm9 : m ≤ 9223372036854775807 := hm ▸ h2.1
  have Hor : Hid (orL [cmpI n m, lexC xs ys] = cmpS xs ys) := by show _ = _; rw [← hn, ← hm]; exact cmpS_or xs ys
  have Hn := Lib.hid hn; clear hn
  have Hm := Lib.hid hm; clear hm
  go_enter Try.func100, Try.ntmps100
  go_wp2_with fail
  have CC := Lib.hid (compareI_any (n : Int) (m : Int) w)
  with_reducible refine Calls.mono CC.out ?_
  rintro e w1 ⟨rfl, hw⟩
  obtain rfl := hw
  clear CC
  go_wp2_with fail
  have CC := Lib.hid (slicesCompare_any A1 A2 xs ys n m c d w h1 Hn.out h2 Hm.out)
  with_reducible refine Calls.mono CC.out ?_
  rintro e w2 ⟨rfl, hw⟩
  obtain rfl := hw
  clear CC
  have T2 := Lib.hid (two_ints w (cmpI n m) (lexC xs ys))
  generalize cmpI n m = p at *
  generalize lexC xs ys = q at *
  go_wp2_with fail
  have CC := Lib.hid (or_any _ [p, q] 2 2 _ T2.out rfl)
  with_reducible refine Calls.mono CC.out ?_
  rintro e w3 ⟨rfl, hw⟩
  obtain rfl := hw
  clear CC
  go_wp2_with fail
  go_ret
  exact ⟨ret_int Hor.out, (Gw.refl w).alloc _⟩
theorem bef_len {a b : List Int} (h : a.length ≠ b.length) : befB a b = decide (a.length < b.length) := by
  unfold befB cmpS
  by_cases h1 : a.length < b.length
  · simp [h1]
  · simp [h1, show b.length < a.length by omega]
theorem bef_same {a b : List Int} (h : a.length = b.length) : befB a b = decide (lexC a b < 0) := by
  unfold befB cmpS
  simp [h]
theorem lexC_lt {xs ys : List Int} {k : Nat} (hx : k < xs.length) (hy : k < ys.length) (h : xs[k] ≠ ys[k]) : decide (lexC (xs.drop k) (ys.drop k) < 0) = decide (xs[k] < ys[k]) := by
  rw [lexC_step hx hy]
  unfold cmpI
  by_cases h1 : xs[k] < ys[k]
  · simp [h1]
  · simp [h1, show ys[k] < xs[k] by omega]
theorem lexC_same {xs ys : List Int} {k : Nat} (hx : k < xs.length) (hy : k < ys.length) (h : xs[k] = ys[k]) : lexC (xs.drop k) (ys.drop k) = lexC (xs.drop (k + 1)) (ys.drop (k + 1)) := by
  rw [lexC_step hx hy]
  simp [cmpI, h]
set_option maxHeartbeats 400000 in
theorem l2Before_any (A1 A2 : Option Addr) (xs ys : List Int) (n m c d : Nat) (w : World) (h1 : IntsAt w A1 xs) (hn : xs.length = n) (h2 : IntsAt w A2 ys) (hm : ys.length = m) :
    Calls Try.prog 95 #[.slice A1 n c, .slice A2 m d] w fun e w' => e = .returned (.bool (befB xs ys)) ∧ Dr w w' := by
  have hn9 : n ≤ 9223372036854775807 := hn ▸ h1.1
  have hm9 : m ≤ 9223372036854775807 := hm ▸ h2.1
  by_cases hnm : n = m
  · subst hnm
    have hne : ((n : Int) != (n : Int)) = false := by simp
    have Hb := Lib.hid (bef_same (a := xs) (b := ys) (hn.trans hm.symm))
    have Hn := Lib.hid hn; clear hn
    have Hm := Lib.hid hm; clear hm
    go_enter Try.func95, Try.ntmps95
    go_wp2_with fail
    go_loopw [5] (fun iv wr => ∃ k : Nat, k ≤ n ∧ iv = .int .i64 k ∧ Hid (lexC (xs.drop k) (ys.drop k) = lexC xs ys) ∧ Dr w wr) (fun iv _ => n - (intOf iv).toNat)
    case atStart => exact ⟨0, by omega, rfl, rfl, Dr.refl w⟩
    case round =>
      obtain ⟨k, hk, rfl, Hp, hdr⟩ := hrel
      by_cases hlt : k < n
      · have lx : k < xs.length := by rw [Hn.out]; exact hlt
        have ly : k < ys.length := by rw [Hm.out]; exact hlt
        obtain ⟨ad, rfl, hc⟩ := (h1.kp hdr.kp).at_ lx
        obtain ⟨bd, rfl, hd⟩ := (h2.kp hdr.kp).at_ ly
        cases ht : (xs[k] != ys[k])
        · have e0 : xs[k] = ys[k] := by simpa using ht
          have Hy := Lib.hid ((lexC_same lx ly e0).symm.trans Hp.out)
          clear e0
          go_wp2_with fail
          go_quiet (fail)
          go_wp2_with fail
          go_roundw
          case rel => exact ⟨k + 1, by omega, by go_num, Hy, hdr.drewN nq⟩
          case measure => simp [intOf]; omega
        · have e0 : xs[k] ≠ ys[k] := by simpa using ht
          have Hy : Hid (decide (xs[k] < ys[k]) = befB xs ys) := by show _ = _; rw [Hb.out, ← Hp.out]; exact (lexC_lt lx ly e0).symm
          clear e0
          go_wp2_with fail
          go_quiet (fail)
          go_wp2_with fail
          go_quiet (fail)
          go_wp2_with fail
          go_ret
          exact ⟨ret_bool Hy.out, (hdr.drewN _).drewN _⟩
      · have e0 : xs.drop k = [] := List.drop_eq_nil_of_le (by rw [Hn.out]; omega)
        have e1 : ys.drop k = [] := List.drop_eq_nil_of_le (by rw [Hm.out]; omega)
        have Hy : Hid (befB xs ys = false) := by show _ = _; rw [Hb.out, ← Hp.out, e0, e1]; rfl
        clear e0 e1
        go_wp2_with fail
        go_ret
        exact ⟨ret_bool Hy.out.symm, hdr⟩
  · have hne : ((n : Int) != (m : Int)) = true := by simp; omega
    have Hb : Hid (befB xs ys = decide (n < m)) := by show _ = _; rw [← hn, ← hm]; exact bef_len (by omega)
    have hd : decide (n < m) = decide ((n : Int) < (m : Int)) := by simp
    go_enter Try.func95, Try.ntmps95
    go_wp2_with fail
    go_ret
    exact ⟨ret_bool (by rw [Hb.out, hd]), Dr.refl w⟩
end Go.Proofs.Ytbefnhagmejpcaa

/- The library's sort of a slice of rows, at this program; The comparisons of two sets, the reference's and the program's; All sets of some sites in their order, as the program tells them; All sets of some sites in their order, as the reference tells them; least and lists: the first row with the least value; the rows of which something is so; Cells that are kept; The payment and the total of a set: reference and program; The best set of a field and its total: reference and program; The best one is no worse than any; Sums over the first numbers. No condition. -/
import Derived.Test.YtcccmndkolmboaaQAd
import Derived.Test.YtcccmndkolmboaaQAa
import Derived.Deep.RegionHeld3
import Derived.Test.YtcccmndkolmboaaQAc
namespace Go.Proofs.Ytcccmndkolmboaa
open Go.RowKit Go.Sort Go.Shelf

def sortL_ren : Go.Shelf.Ren := ⟨fun | 6 => 56 | 15 => 66 | 14 => 65 | 28 => 79 | 29 => 80 | 20 => 71 | 21 => 72 | 22 => 73 | 23 => 74 | 24 => 75 | 25 => 76 | 26 => 77 | 27 => 78 | 46 => 83 | 47 => 84 | 48 => 85 | 49 => 86 | 50 => 87 | 57 => 88 | n => n, fun | 22 => 25 | 24 => 24 | 25 => 75 | 3 => 3 | 39 => 70 | 0 => 0 | 53 => 89 | 55 => 44 | 4 => 4 | 46 => 82 | 45 => 81 | 50 => 86 | 5 => 5 | 9 => 9 | 66 => 92 | 70 => 96 | 76 => 98 | 77 => 99 | n => n, fun | n => n⟩
theorem sortL : Go.Proofs.SlLaysF.n6 Try.prog sortL_ren := {
  mixed := by kernel_rfl
  f6 := ⟨Try.f56.name, by decide, Try.func56.trans (congrArg some (by kernel_rfl))⟩
  f14 := ⟨Try.f65.name, by decide, Try.func65.trans (congrArg some (by kernel_rfl))⟩
  f15 := Try.func66.trans (congrArg some (by kernel_rfl))
  f20 := ⟨Try.f71.name, by decide, Try.func71.trans (congrArg some (by kernel_rfl))⟩
  f21 := ⟨Try.f72.name, by decide, Try.func72.trans (congrArg some (by kernel_rfl))⟩
  f22 := ⟨Try.f73.name, by decide, Try.func73.trans (congrArg some (by kernel_rfl))⟩
  f23 := ⟨Try.f74.name, by decide, Try.func74.trans (congrArg some (by kernel_rfl))⟩
  f24 := ⟨Try.f75.name, by decide, Try.func75.trans (congrArg some (by kernel_rfl))⟩
  f25 := ⟨Try.f76.name, by decide, Try.func76.trans (congrArg some (by kernel_rfl))⟩
  f26 := ⟨Try.f77.name, by decide, Try.func77.trans (congrArg some (by kernel_rfl))⟩
  f27 := ⟨Try.f78.name, by decide, Try.func78.trans (congrArg some (by kernel_rfl))⟩
  f28 := Try.func79.trans (congrArg some (by kernel_rfl))
  f29 := Try.func80.trans (congrArg some (by kernel_rfl))
  f46 := ⟨Try.f83.name, by decide, Try.func83.trans (congrArg some (by kernel_rfl))⟩
  f47 := Try.func84.trans (congrArg some (by kernel_rfl))
  f48 := Try.func85.trans (congrArg some (by kernel_rfl))
  f49 := ⟨Try.f86.name, by decide, Try.func86.trans (congrArg some (by kernel_rfl))⟩
  f50 := ⟨Try.f87.name, by decide, Try.func87.trans (congrArg some (by kernel_rfl))⟩
  f57 := ⟨Try.f88.name, by decide, Try.func88.trans (congrArg some (by kernel_rfl))⟩
  t0 := Try.underlying0
  a0 := Try.isAgg0
  z0 := Try.sizeOf0
  v0 := Try.zeroValue0
  t3 := Try.underlying3
  a3 := Try.isAgg3
  z3 := Try.sizeOf3
  v3 := Try.zeroValue3
  t4 := Try.underlying4
  a4 := Try.isAgg4
  z4 := Try.sizeOf4
  v4 := Try.zeroValue4
  t5 := Try.underlying5
  a5 := Try.isAgg5
  z5 := Try.sizeOf5
  v5 := Try.zeroValue5
  t9 := Try.underlying9
  a9 := Try.isAgg9
  z9 := Try.sizeOf9
  v9 := Try.zeroValue9
  t22 := Try.underlying25
  a22 := Try.isAgg25
  z22 := Try.sizeOf25
  v22 := Try.zeroValue25
  a24 := Try.isAgg24
  z24 := Try.sizeOf24
  t25 := Try.underlying75
  a25 := Try.isAgg75
  z25 := Try.sizeOf75
  v25 := Try.zeroValue75
  t39 := Try.underlying70
  a39 := Try.isAgg70
  z39 := Try.sizeOf70
  v39 := Try.zeroValue70
  t45 := Try.underlying81
  a45 := Try.isAgg81
  z45 := Try.sizeOf81
  v45 := Try.zeroValue81
  t46 := Try.underlying82
  a46 := Try.isAgg82
  z46 := Try.sizeOf82
  v46 := Try.zeroValue82
  t50 := Try.underlying86
  a50 := Try.isAgg86
  z50 := Try.sizeOf86
  v50 := Try.zeroValue86
  t53 := Try.underlying89
  a53 := Try.isAgg89
  z53 := Try.sizeOf89
  v53 := Try.zeroValue89
  t55 := Try.underlying44
  a55 := Try.isAgg44
  z55 := Try.sizeOf44
  v55 := Try.zeroValue44
  t66 := Try.underlying92
  a66 := Try.isAgg92
  z66 := Try.sizeOf92
  v66 := Try.zeroValue92
  t70 := Try.underlying96
  a70 := Try.isAgg96
  z70 := Try.sizeOf96
  v70 := Try.zeroValue96
  t76 := Try.underlying98
  a76 := Try.isAgg98
  z76 := Try.sizeOf98
  v76 := Try.zeroValue98
  t77 := Try.underlying99
  a77 := Try.isAgg99
  z77 := Try.sizeOf99
  v77 := Try.zeroValue99 }
end Go.Proofs.Ytcccmndkolmboaa

namespace Go.Proofs.Ytcccmndkolmboaa
open Go.RowKit Go.Sort

def cmpI (x y : Int) : Int := if x < y then -1 else if y < x then 1 else 0
def orL : List Int → Int
  | [] => 0
  | x :: xs => if x = 0 then orL xs else x
theorem orL_drop {xs : List Int} {k : Nat} (hk : k < xs.length) (h : xs[k] = 0) : orL (xs.drop k) = orL (xs.drop (k + 1)) := by
  rw [List.drop_eq_getElem_cons hk, orL, if_pos h]
theorem orL_at {xs : List Int} {k : Nat} (hk : k < xs.length) (h : xs[k] ≠ 0) : orL (xs.drop k) = xs[k] := by
  rw [List.drop_eq_getElem_cons hk, orL, if_neg h]
theorem isNaN_any (x : Int) (w : World) : Calls Try.prog 81 #[.int .i64 x] w fun e w' => e = .returned (.bool false) ∧ w = w' := by
  go_enter Try.func81, Try.ntmps81
  have h : (x != x) = false := by simp
  go_wp2_with fail
  go_ret
  exact ⟨rfl, rfl⟩
theorem compareI_any (x y : Int) (w : World) : Calls Try.prog 68 #[.int .i64 x, .int .i64 y] w fun e w' => e = .returned (.int .i64 (cmpI x y)) ∧ w = w' := by
  go_enter Try.func68, Try.ntmps68
  go_wp2_with fail
  have CC := Lib.hid (isNaN_any x w)
  with_reducible refine Calls.mono CC.out ?_
  rintro e w1 ⟨rfl, hw⟩
  obtain rfl := hw
  clear CC
  go_wp2_with fail
  have CC := Lib.hid (isNaN_any y w)
  with_reducible refine Calls.mono CC.out ?_
  rintro e w2 ⟨rfl, hw⟩
  obtain rfl := hw
  clear CC
  by_cases h1 : x < y
  · have e : Hid (cmpI x y = -1) := by show cmpI x y = _; simp [cmpI, h1]
    go_wp2_with fail
    go_ret
    exact ⟨ret_int e.out.symm, rfl⟩
  · by_cases h2 : y < x
    · have e : Hid (cmpI x y = 1) := by show cmpI x y = _; simp [cmpI, h1, h2]
      go_wp2_with fail
      go_ret
      exact ⟨ret_int e.out.symm, rfl⟩
    · have e : Hid (cmpI x y = 0) := by show cmpI x y = _; simp [cmpI, h1, h2]
      go_wp2_with fail
      go_ret
      exact ⟨ret_int e.out.symm, rfl⟩
theorem or_any (A0 : Option Addr) (xs : List Int) (n c0 : Nat) (w : World) (hS : IntsAt w A0 xs) (hn : xs.length = n) :
    Calls Try.prog 67 #[.slice A0 n c0] w fun e w' => e = .returned (.int .i64 (orL xs)) ∧ w = w' := by
  have hm : n ≤ 9223372036854775807 := hn ▸ hS.1
  have Hn := Lib.hid hn; clear hn
  go_enter Try.func67, Try.ntmps67
  go_wp2_with fail
  go_loop [8] (fun iv => ∃ k : Nat, k ≤ n ∧ iv = .int .i64 k ∧ Hid (orL (xs.drop k) = orL xs)) (fun iv => n - (intOf iv).toNat)
  case atStart => exact ⟨0, by omega, rfl, rfl⟩
  case round =>
    obtain ⟨k, hk, rfl, Hp⟩ := hrel
    by_cases hlt : k < n
    · have lx : k < xs.length := by rw [Hn.out]; exact hlt
      obtain ⟨ad, rfl, hc⟩ := hS.at_ lx
      cases ht : (xs[k] != 0)
      · have e0 : xs[k] = 0 := by simpa using ht
        have Hy := Lib.hid ((orL_drop lx e0).symm.trans Hp.out)
        clear e0
        go_wp2_with fail
        go_round
        case rel => exact ⟨k + 1, by omega, by go_num, Hy⟩
        case measure => simp [intOf]; omega
      · have e0 : xs[k] ≠ 0 := by simpa using ht
        have Hy := Lib.hid ((orL_at lx e0).symm.trans Hp.out)
        clear e0
        go_wp2_with fail
        go_ret
        exact ⟨ret_int Hy.out, rfl⟩
    · have e0 : xs.drop k = [] := List.drop_eq_nil_of_le (by rw [Hn.out]; omega)
      have Hy : Hid (orL xs = 0) := by show orL xs = 0; rw [← Hp.out, e0]; rfl
      clear e0
      go_wp2_with fail
      go_ret
      exact ⟨ret_int Hy.out.symm, rfl⟩
theorem lexC_cons (x y : Int) (xs ys : List Int) : lexC (x :: xs) (y :: ys) = if x < y then -1 else if y < x then 1 else lexC xs ys := rfl
theorem lexC_step {xs ys : List Int} {k : Nat} (hx : k < xs.length) (hy : k < ys.length) : lexC (xs.drop k) (ys.drop k) = if cmpI xs[k] ys[k] = 0 then lexC (xs.drop (k + 1)) (ys.drop (k + 1)) else cmpI xs[k] ys[k] := by
  rw [List.drop_eq_getElem_cons hx, List.drop_eq_getElem_cons hy, lexC_cons]
  unfold cmpI
  by_cases h1 : xs[k] < ys[k]
  · simp [h1]
  · by_cases h2 : ys[k] < xs[k]
    · simp [h1, h2]
    · simp [h1, h2]
theorem slicesCompare_any (A1 A2 : Option Addr) (xs ys : List Int) (n m c d : Nat) (w : World) (h1 : IntsAt w A1 xs) (hn : xs.length = n) (h2 : IntsAt w A2 ys) (hm : ys.length = m) :
    Calls Try.prog 69 #[.slice A1 n c, .slice A2 m d] w fun e w' => e = .returned (.int .i64 (lexC xs ys)) ∧ w = w' := by
  have hn9 : n ≤ 9223372036854775807 := hn ▸ h1.1
  have hm9 : m ≤ 9223372036854775807 := hm ▸ h2.1
  have Hn := Lib.hid hn; clear hn
  have Hm := Lib.hid hm; clear hm
  go_enter Try.func69, Try.ntmps69
  go_wp2_with fail
  go_loop [11] (fun iv => ∃ k : Nat, k ≤ n ∧ k ≤ m ∧ iv = .int .i64 k ∧ Hid (lexC (xs.drop k) (ys.drop k) = lexC xs ys)) (fun iv => n - (intOf iv).toNat)
  case atStart => exact ⟨0, by omega, by omega, rfl, rfl⟩
  case round =>
    obtain ⟨k, hk, hkm, rfl, Hp⟩ := hrel
    by_cases hlt : k < n
    · have lx : k < xs.length := by rw [Hn.out]; exact hlt
      obtain ⟨ad, rfl, hc⟩ := h1.at_ lx
      by_cases hlt2 : k < m
      · have ly : k < ys.length := by rw [Hm.out]; exact hlt2
        obtain ⟨bd, rfl, hd⟩ := h2.at_ ly
        have hst := Lib.hid (lexC_step lx ly)
        go_wp2_with fail
        have CC := Lib.hid (compareI_any xs[k] ys[k] w)
        with_reducible refine Calls.mono CC.out ?_
        rintro e w1 ⟨rfl, hw⟩
        obtain rfl := hw
        clear CC
        cases ht : (cmpI xs[k] ys[k] != 0)
        · have e0 : cmpI xs[k] ys[k] = 0 := by simpa using ht
          have Hy : Hid (lexC (xs.drop (k + 1)) (ys.drop (k + 1)) = lexC xs ys) := by show _ = _; rw [← Hp.out, hst.out, if_pos e0]
          clear e0
          go_wp2_with fail
          go_round
          case rel => exact ⟨k + 1, by omega, by omega, by go_num, Hy⟩
          case measure => simp [intOf]; omega
        · have e0 : ¬ cmpI xs[k] ys[k] = 0 := by simpa using ht
          have Hy : Hid (cmpI xs[k] ys[k] = lexC xs ys) := by show _ = _; rw [← Hp.out, hst.out, if_neg e0]
          clear e0
          go_wp2_with fail
          go_ret
          exact ⟨ret_int Hy.out, rfl⟩
      · have e0 : ys.drop k = [] := List.drop_eq_nil_of_le (by rw [Hm.out]; omega)
        have Hy : Hid (lexC xs ys = 1) := by show _ = _; rw [← Hp.out, e0, List.drop_eq_getElem_cons lx]; rfl
        clear e0
        go_wp2_with fail
        go_ret
        exact ⟨ret_int Hy.out.symm, rfl⟩
    · have e0 : xs.drop k = [] := List.drop_eq_nil_of_le (by rw [Hn.out]; omega)
      by_cases hlt2 : k < m
      · have ly : k < ys.length := by rw [Hm.out]; exact hlt2
        have Hy : Hid (lexC xs ys = -1) := by show _ = _; rw [← Hp.out, e0, List.drop_eq_getElem_cons ly]; rfl
        have hnm : n < m := by omega
        clear e0
        go_wp2_with fail
        go_ret
        exact ⟨ret_int Hy.out.symm, rfl⟩
      · have e1 : ys.drop k = [] := List.drop_eq_nil_of_le (by rw [Hm.out]; omega)
        have Hy : Hid (lexC xs ys = 0) := by show _ = _; rw [← Hp.out, e0, e1]; rfl
        have hnm : ¬ n < m := by omega
        clear e0 e1
        go_wp2_with fail
        go_ret
        exact ⟨ret_int Hy.out.symm, rfl⟩
theorem cmpS_or (a b : List Int) : orL [cmpI a.length b.length, lexC a b] = cmpS a b := by
  unfold cmpS cmpI
  by_cases h1 : a.length < b.length
  · simp [orL, h1]
  · by_cases h2 : b.length < a.length
    · simp [orL, h1, h2]
    · simp only [orL, h1, h2, Int.ofNat_lt, if_false, if_true]
      by_cases h3 : lexC a b = 0 <;> simp [h3]
theorem two_ints (w : World) (x y : Int) : IntsAt (w.alloc (.cells #[.int .i64 x, .int .i64 y] 3)) (some ⟨w.heap.size, 0, none⟩) [x, y] :=
  ⟨by simp, fun k hk => by
    have hk2 : k < 2 := by simpa using hk
    refine ⟨_, rfl, ?_⟩
    rw [add0, World.cell?_alloc_at _ _ _ _ rfl]
    match k, hk2 with
    | 0, _ => rfl
    | 1, _ => rfl⟩
theorem compareSets_any (A1 A2 : Option Addr) (xs ys : List Int) (n m c d : Nat) (w : World) (h1 : IntsAt w A1 xs) (hn : xs.length = n) (h2 : IntsAt w A2 ys) (hm : ys.length = m) :
    Calls Try.prog 57 #[.slice A1 n c, .slice A2 m d] w fun e w' => e = .returned (.int .i64 (cmpS xs ys)) ∧ Gw w w' := by
  have hn9 : n ≤ 9223372036854775807 := hn ▸ h1.1
  have hm9 : m ≤ 9223372036854775807 := hm ▸ h2.1
  have Hor : Hid (orL [cmpI n m, lexC xs ys] = cmpS xs ys) := by show _ = _; rw [← hn, ← hm]; exact cmpS_or xs ys
  have Hn := Lib.hid hn; clear hn
  have Hm := Lib.hid hm; clear hm
  go_enter Try.func57, Try.ntmps57
  go_wp2_with fail
  have CC := Lib.hid (compareI_any (n : Int) (m : Int) w)
  with_reducible refine Calls.mono CC.out ?_
  rintro e w1 ⟨rfl, hw⟩
  obtain rfl := hw
  clear CC
  go_wp2_with fail
  have CC := Lib.hid (slicesCompare_any A1 A2 xs ys n m c d w h1 Hn.out h2 Hm.out)
  with_reducible refine Calls.mono CC.out ?_
  rintro e w2 ⟨rfl, hw⟩
  obtain rfl := hw
  clear CC
  have T2 := Lib.hid (two_ints w (cmpI n m) (lexC xs ys))
  generalize cmpI n m = p at *
  generalize lexC xs ys = q at *
  go_wp2_with fail
  have CC := Lib.hid (or_any _ [p, q] 2 2 _ T2.out rfl)
  with_reducible refine Calls.mono CC.out ?_
  rintro e w3 ⟨rfl, hw⟩
  obtain rfl := hw
  clear CC
  go_wp2_with fail
  go_ret
  exact ⟨ret_int Hor.out, (Gw.refl w).alloc _⟩
theorem bef_len {a b : List Int} (h : a.length ≠ b.length) : befB a b = decide (a.length < b.length) := by
  unfold befB cmpS
  by_cases h1 : a.length < b.length
  · simp [h1]
  · simp [h1, show b.length < a.length by omega]
theorem bef_same {a b : List Int} (h : a.length = b.length) : befB a b = decide (lexC a b < 0) := by
  unfold befB cmpS
  simp [h]
theorem lexC_lt {xs ys : List Int} {k : Nat} (hx : k < xs.length) (hy : k < ys.length) (h : xs[k] ≠ ys[k]) : decide (lexC (xs.drop k) (ys.drop k) < 0) = decide (xs[k] < ys[k]) := by
  rw [lexC_step hx hy]
  unfold cmpI
  by_cases h1 : xs[k] < ys[k]
  · simp [h1]
  · simp [h1, show ys[k] < xs[k] by omega]
theorem lexC_same {xs ys : List Int} {k : Nat} (hx : k < xs.length) (hy : k < ys.length) (h : xs[k] = ys[k]) : lexC (xs.drop k) (ys.drop k) = lexC (xs.drop (k + 1)) (ys.drop (k + 1)) := by
  rw [lexC_step hx hy]
  simp [cmpI, h]
end Go.Proofs.Ytcccmndkolmboaa

namespace Go.Proofs.Ytcccmndkolmboaa
open Go.RowKit Go.Sort Go.Shelf

def rowsTo (n k : Nat) : List (List Int) := (List.range k).map fun c => bitsL n (c + 1)
theorem rowsTo_len (n k : Nat) : (rowsTo n k).length = k := by simp [rowsTo]
theorem rowsTo_succ (n k : Nat) : rowsTo n (k + 1) = rowsTo n k ++ [bitsL n (k + 1)] := by simp [rowsTo, List.range_succ]
theorem codesL_to (n : Nat) : codesL n = rowsTo n (2 ^ n - 1) := rfl
set_option maxHeartbeats 1000000 in
/-- The library's sort by compareSets. -/
theorem sort_any {n base : Nat} {lo : Option Nat} {v : Value} {rows : List (List Int)} {w : World} (h : GOwn w lo base v rows) (hv : v ≠ .slice none 0 0) (hr : rows.Perm (codesL n)) (hl : rows.length ≤ 1000000) :
    Calls Try.prog 56 #[v, .func (.func 57) #[] #[]] w fun e w' => e = .returned (.tuple #[]) ∧ GOwn w' lo base v (setsL n) ∧ Turn (fun i => v.ownBlock = some i) w w' := by
  obtain ⟨hs, h1, h2⟩ := h
  have hlen : hs.length = rows.length := by rw [h1.1]; omega
  rcases id h1.2 with ⟨rfl, _⟩ | ⟨g, cap, cur, rfl, hb, hg, hn, hm, hsz, ht⟩
  · exact absurd rfl hv
  have hblk : g < w.heap.size := (World.ownsRow.lt h1 g rfl).2
  have hs0 : hs = (List.range rows.length).map (hdD hs) := by
    apply List.ext_getElem
    · simp [hlen]
    · intro i hi hi2
      simp [hdD, List.getD, hi]
  have h1' : w.ownsRow base 24 1 (.slice (some ⟨g, 0, none⟩) rows.length cap) rows.length ((List.range rows.length).map (hdD hs)) := by rw [← hs0]; exact h1
  obtain ⟨g2, cap2, e2, _, _, _, _, _, hH⟩ := Lib.holds_of_ownsRow h1' (by simp)
  simp only [Value.slice.injEq, Option.some.injEq, Addr.mk.injEq] at e2
  obtain ⟨⟨rfl, _, _⟩, _, rfl⟩ := e2
  have one : OneCell (hdD hs) := fun i => by
    by_cases hi : i < rows.length
    · obtain ⟨u, e1, e2, _⟩ := h2 i hi
      have := e2.one
      simp [hdD, List.getD, e1, this]
    · simp [hdD, List.getD, List.getElem?_eq_none (show hs.length ≤ i by omega), Value.oneCell']
  have eg : ∀ args w, (callFunc 57 args).run Try.prog w = .ok (.enter 57 args) w := enters_of Try.func57 (by kernel_rfl) rfl
  have hcmp := cmp_lays (g := 57) (blk := g) rows.length (fun A1 A2 xs ys n m c d W q1 q2 q3 q4 => compareSets_any A1 A2 xs ys n m c d W q1 q2 q3 q4) h1 (fun j hj => by
    obtain ⟨u, e1, e2, e3⟩ := h2 j hj
    exact ⟨u, e1, e2, fun hn i hi hh => e3 hn i hi (by rw [← hh]; rfl)⟩)
  have hH' : Holds (hdD hs) w g 0 (Array.range rows.length) := by
    have e : (List.range rows.length).toArray = Array.range rows.length := by simp
    rw [← e]; exact hH
  have hcon := Any.slices_SortFunc sortL (hdD hs) one (cmpD rows) (swo_cmpD rows) 57 #[] g 0 cap (Array.range rows.length) w eg (by rw [Array.size_range]; exact hcmp) hH' hblk (by rw [Array.size_range]; omega)
  rw [Array.size_range] at hcon
  refine Calls.mono hcon ?_
  rintro e w' ⟨rfl, d', q, os, hp, hso, rfl⟩
  have hgo := gown_sorted (n := q) (os := os) h1 h2 hp
  rw [sorted_sets hr hp hso] at hgo
  refine ⟨rfl, hgo, rfl, rfl, rfl, by simp [sortWorld], fun i hi hn => ?_⟩
  have hne : g ≠ i := fun e => hn (by rw [e]; rfl)
  unfold sortWorld
  rw [heap_grow_old _ _ (by simpa using hi)]
  simp [putRow, mapBlock, Sort.ahead, Array.getElem?_modify, hne]
set_option maxRecDepth 100000 in
set_option maxHeartbeats 1000000 in
theorem sets_any (n : Nat) (w : World) (hn : n ≤ 7) :
    Calls Try.prog 45 #[.int .i64 n] w fun e w' => ∃ v, e = .returned v ∧ v ≠ .slice none 0 0 ∧ GOwn w' (some w.heap.size) w.heap.size v (setsL n) ∧ Kp w w' := by
  obtain ⟨P, HP, hpw, hP⟩ := pow_wrap (n : Int) (by omega) (by omega)
  rw [Int.toNat_natCast] at hpw
  have HP' : Hid (P = 2 ^ n) := by show P = _; simpa using HP.out
  have hpu := u64_one_shl (n : Int) (by omega) (by omega)
  rw [Int.toNat_natCast, ← HP'.out] at hpu
  have hP128 : P ≤ 128 := by rw [HP'.out]; exact Nat.pow_le_pow_right (by omega) hn
  have hP1 : 1 ≤ P := by rw [HP'.out]; exact Nat.one_le_two_pow
  go_enter Try.func45, Try.ntmps45
  go_wp2_with fail
  go_loopw [3, 4] (fun ov bv wr => ∃ b : Nat, 1 ≤ b ∧ b ≤ P ∧ bv = .int .u64 (b : Nat) ∧ Hid (ov ≠ .slice none 0 0) ∧ GOwn wr (some w.heap.size) w.heap.size ov (rowsTo n (b - 1)) ∧ Kp w wr) (fun _ bv _ => P - (intOf bv).toNat)
  case atStart => exact ⟨1, by omega, by omega, rfl, by show _ ≠ _; simp, gown_new w _ w.heap.size (Nat.le_refl _), (Kp.refl _).alloc _⟩
  case round =>
    obtain ⟨b, hb1, hk, rfl, Hv, hown, hkb⟩ := hrel
    by_cases hlt : b < P
    · have hb : b < 2 ^ n := by rw [← HP'.out]; exact hlt
      have Hb := Lib.hid hb
      clear hb
      have hlen := Lib.hid (rowsTo_len n (b - 1))
      have hlen2 : Hid ((rowsTo n (b - 1)).length < 1048576) := by show _ < _; rw [hlen.out]; omega
      have hg := Lib.hid (GOwn.lt hown)
      have hst : Hid (rowsTo n (b + 1 - 1) = rowsTo n (b - 1) ++ [bitsL n b]) := by
        show _ = _
        have := rowsTo_succ n (b - 1)
        rw [show b - 1 + 1 = b by omega] at this
        exact this
      have hkw := hkb
      go_wp2_with fail
      have CC := Lib.hid (list_any b n wr Hb.out (by omega))
      with_reducible refine Calls.mono CC.out ?_
      rintro e w1 ⟨v, rfl, ho, hk1⟩
      clear CC
      replace hkb := hkb.trans hk1
      replace hown := hown.kp hk1
      have hrp := Lib.hid ((RowP.of_own ho (by have := bitsL_len n b; omega)).mono (b' := w.heap.size) hkw.le)
      have hap := Lib.hid (fun (g : Nat) (e : v.ownBlock = some g) => (ho.lt g e).1)
      obtain ⟨Av, cv, hve, _⟩ := ho.ints (by have := bitsL_len n b; omega)
      subst hve
      clear ho
      go_wp2_with (at_builtin; refine wpl_appg rfl (.tmp 12) (.tmp 15) rfl w.heap.size _ (rowsTo n (b - 1)) (bitsL n b) (.slice Av (bitsL n b).length cv) rfl rfl hown hrp.out (fun _ g e hh => by have h1 := hap.out g e; have h2 := (hg.out _ hh).2; omega) hkb.le hlen2.out ?_; intro v' w' ho' ht' h4'; have hkb' := hkb.turn ht' (fun i hi => (hown.lt i hi).1))
      go_roundw
      case rel => exact ⟨b + 1, by omega, by omega, by go_num, ho'.not_nil (by simp), by rw [hst.out]; exact ho', hkb'⟩
      case measure => simp [intOf]; omega
    · have hkp : Hid (rowsTo n (b - 1) = codesL n) := by show _ = _; rw [codesL_to, ← HP'.out, show b = P by omega]
      have hl : Hid ((rowsTo n (b - 1)).length ≤ 1000000) := by show _ ≤ _; rw [rowsTo_len]; omega
      go_wp2_with fail
      have CC := Lib.hid (sort_any (n := n) hown Hv.out (by rw [hkp.out]) hl.out)
      with_reducible refine Calls.mono CC.out ?_
      rintro e w1 ⟨rfl, ho2, ht2⟩
      clear CC
      have hkb2 := hkb.turn ht2 (fun i hi => (hown.lt i hi).1)
      go_wp2_with fail
      go_ret
      exact ⟨_, rfl, Hv.out, ho2, hkb2⟩
end Go.Proofs.Ytcccmndkolmboaa

namespace Go.Proofs.Ytcccmndkolmboaa
open Go.RowKit Go.Sort Go.Shelf

theorem rowsTo_mem {n k : Nat} {S : List Int} (h : S ∈ rowsTo n k) : ∃ c, c < k ∧ S = bitsL n (c + 1) := by
  simp only [rowsTo, List.mem_map, List.mem_range] at h
  obtain ⟨c, hc, rfl⟩ := h
  exact ⟨c, hc, rfl⟩
/-- One more set, put where it belongs. -/
theorem ins_sorted {rows : List (List Int)} {S : List Int} {k : Nat} (hs : rows.Pairwise (fun a b => befB a b = true)) (hk : k ≤ rows.length) (h1 : ∀ j (hj : j < rows.length), k ≤ j → befB S rows[j] = true) (h2 : 0 < k → befB S (rows.getD (k - 1) []) = false) (hn : S ∉ rows) :
    (rows.take k ++ [S] ++ rows.drop k).Pairwise (fun a b => befB a b = true) := by
  have hb : ∀ x ∈ rows.take k, befB x S = true := by
    intro x hx
    obtain ⟨j, hj, rfl⟩ := List.getElem_of_mem hx
    have hj2 : j < k := by simp at hj; omega
    have hj3 : j < rows.length := by omega
    rw [List.getElem_take]
    have h3 := h2 (by omega)
    have e4 : rows.getD (k - 1) [] = rows[k - 1]'(by omega) := by simp [List.getD, show k - 1 < rows.length by omega]
    rw [e4] at h3
    have hlast : befB (rows[k - 1]'(by omega)) S = true := by
      cases hh : befB (rows[k - 1]'(by omega)) S with
      | true => rfl
      | false => exact absurd (befB_total h3 hh) (fun e => hn (e ▸ List.getElem_mem _))
    rcases Nat.lt_or_ge j (k - 1) with h | h
    · exact befB_trans (List.pairwise_iff_getElem.1 hs j (k - 1) hj3 (by omega) h) hlast
    · have e : j = k - 1 := by omega
      subst e; exact hlast
  have ha : ∀ x ∈ rows.drop k, befB S x = true := by
    intro x hx
    obtain ⟨j, hj, rfl⟩ := List.getElem_of_mem hx
    have hj2 : k + j < rows.length := by simp at hj; omega
    rw [List.getElem_drop]
    exact h1 _ hj2 (by omega)
  rw [List.append_assoc, List.pairwise_append]
  refine ⟨hs.sublist (List.take_sublist _ _), ?_, ?_⟩
  · rw [List.singleton_append, List.pairwise_cons]
    exact ⟨ha, hs.sublist (List.drop_sublist _ _)⟩
  · intro x hx y hy
    rcases List.mem_append.1 hy with hy | hy
    · have : y = S := by simpa using hy
      subst this; exact hb x hx
    · obtain ⟨i, hi, rfl⟩ := List.getElem_of_mem hx
      obtain ⟨j, hj, rfl⟩ := List.getElem_of_mem hy
      have hi2 : i < k := by simp at hi; omega
      have hj2 : k + j < rows.length := by simp at hj; omega
      rw [List.getElem_take, List.getElem_drop]
      exact List.pairwise_iff_getElem.1 hs i (k + j) (by omega) hj2 (by omega)
theorem ins_perm {rows l : List (List Int)} {S : List Int} (k : Nat) (h : rows.Perm l) : (rows.take k ++ [S] ++ rows.drop k).Perm (l ++ [S]) := by
  have h1 : (rows.take k ++ [S] ++ rows.drop k).Perm (S :: rows) := by
    rw [List.append_assoc, List.singleton_append]
    refine List.perm_middle.trans ?_
    rw [List.take_append_drop]
  exact h1.trans ((List.Perm.cons S h).trans (List.perm_append_singleton S l).symm)
theorem fresh_code {n c : Nat} {rows : List (List Int)} (hc : c + 1 < 2 ^ n) (hp : rows.Perm (rowsTo n c)) : bitsL n (c + 1) ∉ rows := by
  intro h
  obtain ⟨d, hd, e⟩ := rowsTo_mem (hp.mem_iff.1 h)
  have := bitsL_inj (by omega) (by omega) e
  omega
theorem gown_ab (w : World) (lo : Option Nat) (o : Obj) : GOwn ((w.alloc (.cells #[] 24)).alloc o) lo w.heap.size (.slice (some ⟨w.heap.size, 0, none⟩) 0 0) [] :=
  (gown_new w lo _ (Nat.le_refl _)).kp ((Kp.refl _).alloc _)
theorem gown_ba (w : World) (lo : Option Nat) (o : Obj) : GOwn ((w.alloc o).alloc (.cells #[] 24)) lo w.heap.size (.slice (some ⟨w.heap.size + 1, 0, none⟩) 0 0) [] := by
  have := gown_new (w.alloc o) lo w.heap.size (by simp)
  simpa using this
theorem hd_ab (w : World) (u : Value) : ((w.alloc (.cells #[] 24)).alloc (.cells #[u] 24)).cell? ⟨w.heap.size + 1, 0, none⟩ = some u := by
  rw [World.cell?_alloc_at _ _ _ _ (by simp)]; rfl
theorem hd_ba (w : World) (u : Value) : ((w.alloc (.cells #[u] 24)).alloc (.cells #[] 24)).cell? ⟨w.heap.size, 0, none⟩ = some u :=
  ((Kp.refl _).alloc _).get (by rw [World.cell?_alloc_at _ _ _ _ rfl]; rfl)
theorem cell_turn {T : Nat → Prop} {W w' : World} {p : Addr} {u : Value} (h : W.cell? p = some u) (ht : Turn T W w') (hg : ¬ T p.block) : w'.cell? p = some u := by
  have hb : p.block < W.heap.size := World.block_lt_of_cell? _ _ h
  rw [World.cell?_of_block (ht.block p.block hb hg)]; exact h
theorem Kp.turn_new {w0 W w' : World} {lo : Option Nat} {v : Value} {rows : List (List Int)} (_ : Kp w0 w0) (h : Kp w0 W) (ht : Turn (fun i => v.ownBlock = some i) W w') (ho : GOwn W lo w0.heap.size v rows) : Kp w0 w' :=
  ho.kp_turn h (Nat.le_refl _) ht
end Go.Proofs.Ytcccmndkolmboaa

namespace Go.Proofs.Ytcccmndkolmboaa
open Go.RowKit Go.Sort

def bestTo (v : List Int → Int) (rows : List (List Int)) (k : Nat) : List Int := (rows.take k).foldl (bestStep v) (rows.getD 0 [])
theorem bestTo_succ {v : List Int → Int} {rows : List (List Int)} {k : Nat} (hk : k < rows.length) : bestTo v rows (k + 1) = bestStep v (bestTo v rows k) rows[k] := by
  unfold bestTo
  rw [List.take_succ_eq_append_getElem hk, List.foldl_append]; rfl
theorem bestTo_all (v : List Int → Int) (rows : List (List Int)) : bestTo v rows rows.length = bestL v rows := by
  unfold bestTo bestL
  rw [List.take_length]
theorem bestTo_mem {v : List Int → Int} {rows : List (List Int)} (h0 : 0 < rows.length) : ∀ k, k ≤ rows.length → bestTo v rows k ∈ rows
  | 0, _ => by
    have e : rows.getD 0 [] = rows[0] := by simp [List.getD, h0]
    unfold bestTo
    rw [List.take_zero, List.foldl_nil, e]
    exact List.getElem_mem h0
  | k + 1, hk => by
    rw [bestTo_succ (by omega)]
    unfold bestStep
    by_cases h : v rows[k] < v (bestTo v rows k)
    · rw [if_pos h]; exact List.getElem_mem _
    · rw [if_neg h]; exact bestTo_mem h0 k (by omega)
theorem bestL_mem {v : List Int → Int} {rows : List (List Int)} (h0 : 0 < rows.length) : bestL v rows ∈ rows := by
  rw [← bestTo_all]; exact bestTo_mem h0 _ (Nat.le_refl _)
/-- A function value that tells a number of a row. -/
def Val (FN : FuncId) (pre caps : Array Value) (v : List Int → Int) (Q : List Int → Prop) (w : World) : Prop :=
  (∀ (args : Array Value) (w : World), Sem.run Try.prog (callFunc FN args) w = .ok (.enter FN args) w) ∧
  ∀ (S : List Int) (Av : Option Addr) (cv : Nat) (w' : World), Kp w w' → Q S → IntsAt w' Av S → S.length ≤ cv → Calls Try.prog FN (pre.push (.slice Av S.length cv) ++ caps) w' fun e w'' => e = .returned (.int .i64 (v S)) ∧ Kp w' w''
theorem Val.kp {FN : FuncId} {pre caps : Array Value} {v : List Int → Int} {Q : List Int → Prop} {w w' : World} (h : Val FN pre caps v Q w) (hk : Kp w w') : Val FN pre caps v Q w' :=
  ⟨h.1, fun S Av cv w2 h2 => h.2 S Av cv w2 (hk.trans h2)⟩
/-- A function value that tells whether something is so of a row. -/
def Tells (FN : FuncId) (pre caps : Array Value) (p : List Int → Bool) (Q : List Int → Prop) (w : World) : Prop :=
  (∀ (args : Array Value) (w : World), Sem.run Try.prog (callFunc FN args) w = .ok (.enter FN args) w) ∧
  ∀ (S : List Int) (Av : Option Addr) (cv : Nat) (w' : World), Kp w w' → Q S → IntsAt w' Av S → S.length ≤ cv → Calls Try.prog FN (pre.push (.slice Av S.length cv) ++ caps) w' fun e w'' => e = .returned (.bool (p S)) ∧ Kp w' w''
theorem Tells.kp {FN : FuncId} {pre caps : Array Value} {p : List Int → Bool} {Q : List Int → Prop} {w w' : World} (h : Tells FN pre caps p Q w) (hk : Kp w w') : Tells FN pre caps p Q w' :=
  ⟨h.1, fun S Av cv w2 h2 => h.2 S Av cv w2 (hk.trans h2)⟩
set_option maxHeartbeats 1000000 in
theorem least_any (FN : FuncId) (pre caps : Array Value) (v : List Int → Int) (Q : List Int → Prop) (lo : Option Nat) (A0 : Option Addr) (rows : List (List Int)) (n c0 : Nat) (w : World) (h : RowsAt w lo A0 rows) (hn : rows.length = n) (h0 : 0 < n) (hv : Val FN pre caps v Q w) (hq : ∀ S ∈ rows, Q S) :
    Calls Try.prog 47 #[.slice A0 n c0, .func (.func FN) pre caps] w fun e w' => ∃ u, e = .returned u ∧ RowP w' lo u (bestL v rows) ∧ Kp w w' := by
  have hm : n ≤ 9223372036854775807 := hn ▸ h.1
  have Hn := Lib.hid hn
  have HM := Lib.hid hv
  have HF := hv.1
  have HQ := Lib.hid hq
  have HB := Lib.hid (fun k (hk : k ≤ rows.length) => hq _ (bestTo_mem (v := v) (by omega) k hk))
  have HE := Lib.hid (bestTo_all v rows)
  clear hn hv hq
  have l0 : 0 < rows.length := by rw [Hn.out]; exact h0
  obtain ⟨ad, A2, c2, rfl, hcl, hc2, hri, hrp⟩ := h.at_ l0
  have hz : ad.add 0 = ad := by unfold Addr.add; simp
  rw [hz] at hcl
  have Hs := Lib.hid hrp
  have hst : Hid (bestTo v rows 0 = rows[0]) := by show _ = _; unfold bestTo; simp [List.getD, l0]
  clear hrp hri hz
  go_enter Try.func47, Try.ntmps47
  go_wp2_with fail
  clear hcl
  go_loopw [5, 13] (fun bv iv wr => ∃ (k : Nat) (Ab : Option Addr) (cb : Nat), k ≤ n ∧ iv = .int .i64 k ∧ bv = .slice Ab (bestTo v rows k).length cb ∧ RowP wr lo (.slice Ab (bestTo v rows k).length cb) (bestTo v rows k) ∧ Kp w wr) (fun _ iv _ => n - (intOf iv).toNat)
  case atStart => exact ⟨0, A2, c2, by omega, rfl, by rw [hst.out], by rw [hst.out]; exact Hs.out, Kp.refl _⟩
  case round =>
    obtain ⟨k, Ab, cb, hk, rfl, rfl, hb, hkb⟩ := hrel
    by_cases hlt : k < n
    · have lx : k < rows.length := by rw [Hn.out]; exact hlt
      obtain ⟨A3, c3, hcl, hc3, hri, hrp⟩ := (h.kp hkb).some_ lx
      obtain ⟨Ab', cb', eb, hcb, hbi⟩ := hb.read
      simp only [Value.slice.injEq] at eb
      obtain ⟨rfl, _, rfl⟩ := eb
      have q1 := Lib.hid (HQ.out _ (List.getElem_mem lx))
      have q2 := Lib.hid (HB.out k (Nat.le_of_lt lx))
      have hstep := Lib.hid (bestTo_succ (v := v) lx)
      go_wp2_with fail
      have CC := Lib.hid (HM.out.2 rows[k] A3 c3 _ hkb q1.out hri hc3)
      with_reducible refine Calls.mono CC.out ?_
      rintro e w1 ⟨rfl, hk1⟩
      clear CC
      replace hkb := hkb.trans hk1
      replace hb := hb.kp hk1
      replace hrp := hrp.kp hk1
      go_wp2_with fail
      have CC := Lib.hid (HM.out.2 (bestTo v rows k) Ab cb _ hkb q2.out (hbi.kp hk1) hcb)
      with_reducible refine Calls.mono CC.out ?_
      rintro e w2 ⟨rfl, hk2⟩
      clear CC
      replace hkb := hkb.trans hk2
      replace hb := hb.kp hk2
      replace hrp := hrp.kp hk2
      by_cases hlt2 : v rows[k] < v (bestTo v rows k)
      · have Hy : Hid (bestTo v rows (k + 1) = rows[k]) := by show _ = _; rw [hstep.out]; exact if_pos hlt2
        go_wp2_with fail
        go_roundw
        case rel => exact ⟨k + 1, A3, c3, by omega, by go_num, by rw [Hy.out], by rw [Hy.out]; exact hrp, hkb⟩
        case measure => simp [intOf]; omega
      · have Hy : Hid (bestTo v rows (k + 1) = bestTo v rows k) := by show _ = _; rw [hstep.out]; exact if_neg hlt2
        go_wp2_with fail
        go_roundw
        case rel => exact ⟨k + 1, Ab, cb, by omega, by go_num, by rw [Hy.out], by rw [Hy.out]; exact hb, hkb⟩
        case measure => simp [intOf]; omega
    · obtain rfl : k = n := by omega
      have Hy : Hid (bestTo v rows k = bestL v rows) := by show _ = _; rw [← HE.out, Hn.out]
      go_wp2_with fail
      go_ret
      exact ⟨_, rfl, by rw [← Hy.out]; exact hb, hkb⟩
end Go.Proofs.Ytcccmndkolmboaa

namespace Go.Proofs.Ytcccmndkolmboaa
open Go.RowKit

theorem keepc1 {wv w' : World} {p : Addr} {a : Value} (h1 : wv.cell? p = some a) (h : Kp wv w') : w'.cell? p = some a ∧ Kp wv w' := ⟨h.get h1, h⟩
theorem keepc2 {wv w' : World} {p q : Addr} {a b : Value} (h1 : wv.cell? p = some a) (h2 : wv.cell? q = some b) (h : Kp wv w') : w'.cell? p = some a ∧ w'.cell? q = some b ∧ Kp wv w' := ⟨h.get h1, h.get h2, h⟩
theorem keepc3 {wv w' : World} {p q r : Addr} {a b c : Value} (h1 : wv.cell? p = some a) (h2 : wv.cell? q = some b) (h3 : wv.cell? r = some c) (h : Kp wv w') : w'.cell? p = some a ∧ w'.cell? q = some b ∧ w'.cell? r = some c ∧ Kp wv w' := ⟨h.get h1, h.get h2, h.get h3, h⟩
theorem keepc4 {wv w' : World} {p q r s : Addr} {a b c d : Value} (h1 : wv.cell? p = some a) (h2 : wv.cell? q = some b) (h3 : wv.cell? r = some c) (h4 : wv.cell? s = some d) (h : Kp wv w') : w'.cell? p = some a ∧ w'.cell? q = some b ∧ w'.cell? r = some c ∧ w'.cell? s = some d ∧ Kp wv w' := ⟨h.get h1, h.get h2, h.get h3, h.get h4, h⟩
theorem keepc5 {wv w' : World} {p q r s t : Addr} {a b c d e : Value} (h1 : wv.cell? p = some a) (h2 : wv.cell? q = some b) (h3 : wv.cell? r = some c) (h4 : wv.cell? s = some d) (h5 : wv.cell? t = some e) (h : Kp wv w') : w'.cell? p = some a ∧ w'.cell? q = some b ∧ w'.cell? r = some c ∧ w'.cell? s = some d ∧ w'.cell? t = some e ∧ Kp wv w' := ⟨h.get h1, h.get h2, h.get h3, h.get h4, h.get h5, h⟩
theorem keepc6 {wv w' : World} {p q r s t u : Addr} {a b c d e f : Value} (h1 : wv.cell? p = some a) (h2 : wv.cell? q = some b) (h3 : wv.cell? r = some c) (h4 : wv.cell? s = some d) (h5 : wv.cell? t = some e) (h6 : wv.cell? u = some f) (h : Kp wv w') : w'.cell? p = some a ∧ w'.cell? q = some b ∧ w'.cell? r = some c ∧ w'.cell? s = some d ∧ w'.cell? t = some e ∧ w'.cell? u = some f ∧ Kp wv w' := ⟨h.get h1, h.get h2, h.get h3, h.get h4, h.get h5, h.get h6, h⟩
theorem keepc7 {wv w' : World} {p0 p1 p2 p3 p4 p5 p6 : Addr} {v0 v1 v2 v3 v4 v5 v6 : Value} (h0 : wv.cell? p0 = some v0) (h1 : wv.cell? p1 = some v1) (h2 : wv.cell? p2 = some v2) (h3 : wv.cell? p3 = some v3) (h4 : wv.cell? p4 = some v4) (h5 : wv.cell? p5 = some v5) (h6 : wv.cell? p6 = some v6) (h : Kp wv w') : w'.cell? p0 = some v0 ∧ w'.cell? p1 = some v1 ∧ w'.cell? p2 = some v2 ∧ w'.cell? p3 = some v3 ∧ w'.cell? p4 = some v4 ∧ w'.cell? p5 = some v5 ∧ w'.cell? p6 = some v6 ∧ Kp wv w' := ⟨h.get h0, h.get h1, h.get h2, h.get h3, h.get h4, h.get h5, h.get h6, h⟩
theorem keepc8 {wv w' : World} {p0 p1 p2 p3 p4 p5 p6 p7 : Addr} {v0 v1 v2 v3 v4 v5 v6 v7 : Value} (h0 : wv.cell? p0 = some v0) (h1 : wv.cell? p1 = some v1) (h2 : wv.cell? p2 = some v2) (h3 : wv.cell? p3 = some v3) (h4 : wv.cell? p4 = some v4) (h5 : wv.cell? p5 = some v5) (h6 : wv.cell? p6 = some v6) (h7 : wv.cell? p7 = some v7) (h : Kp wv w') : w'.cell? p0 = some v0 ∧ w'.cell? p1 = some v1 ∧ w'.cell? p2 = some v2 ∧ w'.cell? p3 = some v3 ∧ w'.cell? p4 = some v4 ∧ w'.cell? p5 = some v5 ∧ w'.cell? p6 = some v6 ∧ w'.cell? p7 = some v7 ∧ Kp wv w' := ⟨h.get h0, h.get h1, h.get h2, h.get h3, h.get h4, h.get h5, h.get h6, h.get h7, h⟩
theorem keepc9 {wv w' : World} {p0 p1 p2 p3 p4 p5 p6 p7 p8 : Addr} {v0 v1 v2 v3 v4 v5 v6 v7 v8 : Value} (h0 : wv.cell? p0 = some v0) (h1 : wv.cell? p1 = some v1) (h2 : wv.cell? p2 = some v2) (h3 : wv.cell? p3 = some v3) (h4 : wv.cell? p4 = some v4) (h5 : wv.cell? p5 = some v5) (h6 : wv.cell? p6 = some v6) (h7 : wv.cell? p7 = some v7) (h8 : wv.cell? p8 = some v8) (h : Kp wv w') : w'.cell? p0 = some v0 ∧ w'.cell? p1 = some v1 ∧ w'.cell? p2 = some v2 ∧ w'.cell? p3 = some v3 ∧ w'.cell? p4 = some v4 ∧ w'.cell? p5 = some v5 ∧ w'.cell? p6 = some v6 ∧ w'.cell? p7 = some v7 ∧ w'.cell? p8 = some v8 ∧ Kp wv w' := ⟨h.get h0, h.get h1, h.get h2, h.get h3, h.get h4, h.get h5, h.get h6, h.get h7, h.get h8, h⟩
theorem keepc10 {wv w' : World} {p0 p1 p2 p3 p4 p5 p6 p7 p8 p9 : Addr} {v0 v1 v2 v3 v4 v5 v6 v7 v8 v9 : Value} (h0 : wv.cell? p0 = some v0) (h1 : wv.cell? p1 = some v1) (h2 : wv.cell? p2 = some v2) (h3 : wv.cell? p3 = some v3) (h4 : wv.cell? p4 = some v4) (h5 : wv.cell? p5 = some v5) (h6 : wv.cell? p6 = some v6) (h7 : wv.cell? p7 = some v7) (h8 : wv.cell? p8 = some v8) (h9 : wv.cell? p9 = some v9) (h : Kp wv w') : w'.cell? p0 = some v0 ∧ w'.cell? p1 = some v1 ∧ w'.cell? p2 = some v2 ∧ w'.cell? p3 = some v3 ∧ w'.cell? p4 = some v4 ∧ w'.cell? p5 = some v5 ∧ w'.cell? p6 = some v6 ∧ w'.cell? p7 = some v7 ∧ w'.cell? p8 = some v8 ∧ w'.cell? p9 = some v9 ∧ Kp wv w' := ⟨h.get h0, h.get h1, h.get h2, h.get h3, h.get h4, h.get h5, h.get h6, h.get h7, h.get h8, h.get h9, h⟩
end Go.Proofs.Ytcccmndkolmboaa

namespace Go.Proofs.Ytcccmndkolmboaa
open Go.RowKit Go.Sort

def opAt (F : Fld) (a : Int) : Int := F.op.getD a.toNat 0
def payTo (F : Fld) (S : List Int) (k : Nat) : Int := ((S.take k).map (opAt F)).sum
def payF (F : Fld) (S : List Int) : Int := (S.map (opAt F)).sum
theorem payTo_succ {F : Fld} {S : List Int} {k : Nat} (hk : k < S.length) : payTo F S (k + 1) = payTo F S k + opAt F S[k] := by
  unfold payTo
  rw [List.take_succ_eq_append_getElem hk, List.map_append, List.sum_append]; simp
theorem payTo_all {F : Fld} {S : List Int} {k : Nat} (hk : S.length ≤ k) : payTo F S k = payF F S := by
  unfold payTo payF
  rw [List.take_of_length_le hk]
theorem opAt_bd {F : Fld} (h : goodF F = true) (a : Int) : 0 ≤ opAt F a ∧ opAt F a ≤ 99 := by
  unfold opAt
  by_cases hk : a.toNat < F.op.length
  · have e : F.op.getD a.toNat 0 = F.op[a.toNat] := by simp [List.getD, hk]
    rw [e]; exact (goodF_iff.1 h).2.1 _ (List.getElem_mem hk)
  · rw [List.getD_eq_getElem?_getD, List.getElem?_eq_none (by omega)]; simp
theorem payTo_bd {F : Fld} (h : goodF F = true) (S : List Int) : ∀ k, k ≤ S.length → 0 ≤ payTo F S k ∧ payTo F S k ≤ k * 99
  | 0, _ => by simp [payTo]
  | k + 1, hk => by
    have h1 := payTo_bd h S k (by omega)
    have h2 := opAt_bd h (S[k]'(by omega))
    rw [payTo_succ (by omega)]; omega
theorem set_len {F : Fld} {S : List Int} (h : setB F S = true) : S.length ≤ F.op.length := by
  have hr := ris_iff.1 h
  have hm := set_mem h
  have := bitsL_len F.op.length (bagN S)
  rwa [set_bits h] at this
theorem payF_bd {F : Fld} (h : goodF F = true) {S : List Int} (hs : setB F S = true) : 0 ≤ payF F S ∧ payF F S ≤ 693 := by
  have h1 := payTo_bd h S S.length (Nat.le_refl _)
  rw [payTo_all (Nat.le_refl _)] at h1
  have := set_len hs
  have := (goodF_iff.1 h).1.2
  omega
theorem opCell {w : World} {ad : Addr} {F : Fld} {a : Int} (h : IntsAt w (some ad) F.op) (h0 : 0 ≤ a) (h1 : a < F.op.length) : w.cell? (ad.add a.toNat) = some (.int .i64 (opAt F a)) := by
  have hk : a.toNat < F.op.length := by omega
  rw [h.some_ hk]
  simp [opAt, List.getD, hk]
def totF (F : Fld) (S : List Int) : Int := serveF F S + payF F S
end Go.Proofs.Ytcccmndkolmboaa

namespace Go.Proofs.Ytcccmndkolmboaa
open Go.RowKit Go.Sort

def bestF (F : Fld) : List Int := bestL (totF F) (setsL F.op.length)
theorem sets_pos {F : Fld} (h : goodF F = true) : 0 < (setsL F.op.length).length := by
  have h1 := (goodF_iff.1 h).1.1
  rw [setsL_len]
  have : 2 ^ 1 ≤ 2 ^ F.op.length := Nat.pow_le_pow_right (by omega) h1
  omega
theorem sets_most {F : Fld} (h : goodF F = true) : (setsL F.op.length).length ≤ 127 := by
  have h1 := (goodF_iff.1 h).1.2
  rw [setsL_len]
  have : 2 ^ F.op.length ≤ 2 ^ 7 := Nat.pow_le_pow_right (by omega) h1
  omega
/-- What every one of the sets is. -/
def isSet (F : Fld) (S : List Int) : Prop := setB F S = true ∧ S ≠ []
theorem sets_set {F : Fld} : ∀ S ∈ setsL F.op.length, isSet F S := fun S h => by
  have := mem_setsL.1 h
  exact ⟨this.2, this.1⟩
theorem best_set {F : Fld} (h : goodF F = true) : isSet F (bestF F) := sets_set _ (bestL_mem (sets_pos h))
end Go.Proofs.Ytcccmndkolmboaa

namespace Go.Proofs.Ytcccmndkolmboaa
open Go.RowKit Go.Sort

theorem bestTo_le {v : List Int → Int} {rows : List (List Int)} : ∀ k, k ≤ rows.length → ∀ S ∈ rows.take k, v (bestTo v rows k) ≤ v S
  | 0, _, S, h => by simp at h
  | k + 1, hk, S, h => by
    have hk' : k < rows.length := by omega
    rw [bestTo_succ hk']
    have hstep : v (bestStep v (bestTo v rows k) rows[k]) ≤ v (bestTo v rows k) ∧ v (bestStep v (bestTo v rows k) rows[k]) ≤ v rows[k] := by
      unfold bestStep
      by_cases hlt : v rows[k] < v (bestTo v rows k)
      · rw [if_pos hlt]; omega
      · rw [if_neg hlt]; omega
    rw [List.take_succ_eq_append_getElem hk', List.mem_append] at h
    rcases h with h | h
    · have := bestTo_le (v := v) k (by omega) S h; omega
    · have e : S = rows[k] := by simpa using h
      rw [e]; exact hstep.2
theorem bestL_le {v : List Int → Int} {rows : List (List Int)} : ∀ S ∈ rows, v (bestL v rows) ≤ v S := fun S h => by
  rw [← bestTo_all]
  exact bestTo_le _ (Nat.le_refl _) S (by rw [List.take_length]; exact h)
end Go.Proofs.Ytcccmndkolmboaa

namespace Go.Proofs.Ytcccmndkolmboaa
theorem sumTo_addf (g h : Nat → Int) : ∀ k, sumTo (fun i => g i + h i) k = sumTo g k + sumTo h k
  | 0 => by simp [sumTo_zero]
  | k + 1 => by rw [sumTo_succ, sumTo_succ, sumTo_succ, sumTo_addf g h k]; omega
theorem sumTo_congr {g h : Nat → Int} : ∀ {k : Nat}, (∀ i, i < k → g i = h i) → sumTo g k = sumTo h k
  | 0, _ => rfl
  | k + 1, e => by rw [sumTo_succ, sumTo_succ, sumTo_congr (fun i hi => e i (by omega)), e k (by omega)]
theorem sumTo_mono' {g h : Nat → Int} : ∀ {k : Nat}, (∀ i, i < k → g i ≤ h i) → sumTo g k ≤ sumTo h k
  | 0, _ => Int.le_refl _
  | k + 1, e => by rw [sumTo_succ, sumTo_succ]; have := sumTo_mono' (fun i hi => e i (by omega) : ∀ i, i < k → g i ≤ h i); have := e k (by omega); omega
theorem sumTo_lt {g h : Nat → Int} {a : Nat} : ∀ {k : Nat}, (∀ i, i < k → g i ≤ h i) → a < k → g a < h a → sumTo g k < sumTo h k
  | 0, _, ha, _ => by omega
  | k + 1, e, ha, hl => by
    rw [sumTo_succ, sumTo_succ]
    by_cases h1 : a = k
    · subst h1; have := sumTo_mono' (fun i hi => e i (by omega) : ∀ i, i < a → g i ≤ h i); omega
    · have := sumTo_lt (fun i hi => e i (by omega) : ∀ i, i < k → g i ≤ h i) (by omega) hl; have := e k (by omega); omega
theorem sumTo_c0 (k : Nat) : sumTo (fun _ => 0) k = 0 := by
  induction k with
  | zero => rfl
  | succ k ih => rw [sumTo_succ, ih]; rfl
theorem sumTo_sub (g h : Nat → Int) : ∀ k, sumTo (fun i => g i - h i) k = sumTo g k - sumTo h k
  | 0 => by simp [sumTo_zero]
  | k + 1 => by rw [sumTo_succ, sumTo_succ, sumTo_succ, sumTo_sub g h k]; omega
theorem sumTo_mulc (g : Nat → Int) (c : Int) : ∀ k, sumTo (fun i => g i * c) k = sumTo g k * c
  | 0 => by simp [sumTo_zero]
  | k + 1 => by rw [sumTo_succ, sumTo_succ, sumTo_mulc g c k, Int.add_mul]
theorem sumTo_swap (g : Nat → Nat → Int) (k : Nat) : ∀ m, sumTo (fun i => sumTo (g i) k) m = sumTo (fun j => sumTo (fun i => g i j) m) k
  | 0 => by simp only [sumTo_zero]; rw [sumTo_c0]
  | m + 1 => by
    rw [sumTo_succ, sumTo_swap g k m, ← sumTo_addf]
    exact sumTo_congr (fun j _ => (sumTo_succ _ _).symm)
theorem sumTo_nn {g : Nat → Int} {k : Nat} (h : ∀ i, i < k → 0 ≤ g i) : 0 ≤ sumTo g k := by
  have := sumTo_mono' (g := fun _ => 0) h
  rwa [sumTo_c0] at this
theorem sumTo_ge {g : Nat → Int} {a : Nat} : ∀ {k : Nat}, (∀ i, i < k → 0 ≤ g i) → a < k → g a ≤ sumTo g k
  | 0, _, ha => by omega
  | k + 1, h, ha => by
    rw [sumTo_succ]
    by_cases h1 : a = k
    · subst h1; have := sumTo_nn (fun i hi => h i (by omega) : ∀ i, i < a → 0 ≤ g i); omega
    · have := sumTo_ge (fun i hi => h i (by omega) : ∀ i, i < k → 0 ≤ g i) (show a < k by omega); have := h k (by omega); omega
theorem sumTo_pos' {g : Nat → Int} {k : Nat} (h : ∀ i, i < k → 0 ≤ g i) (hs : 0 < sumTo g k) : ∃ i, i < k ∧ 0 < g i := by
  by_cases hh : ∃ i, i < k ∧ 0 < g i
  · exact hh
  · exfalso
    have : ∀ i, i < k → g i ≤ (fun _ => (0 : Int)) i := fun i hi => by
      have := h i hi
      by_cases h2 : 0 < g i
      · exact absurd ⟨i, hi, h2⟩ hh
      · show g i ≤ 0; omega
    have := sumTo_mono' this
    rw [sumTo_c0] at this; omega
/-- Change at one place. -/
def upd {α : Type} (g : Nat → α) (j : Nat) (x : α) (i : Nat) : α := if i = j then x else g i
def upd2 (f : Nat → Nat → Int) (j a : Nat) (x : Int) (i b : Nat) : Int := if i = j then upd (f j) a x b else f i b
theorem upd_at {α : Type} {g : Nat → α} {j : Nat} {x : α} : upd g j x j = x := if_pos rfl
theorem upd_ne {α : Type} {g : Nat → α} {j i : Nat} {x : α} (h : i ≠ j) : upd g j x i = g i := if_neg h
theorem sumTo_ones (n : Nat) : sumTo (fun _ => 1) n = (n : Int) := by
  induction n with
  | zero => rfl
  | succ n ih => rw [sumTo_succ, ih]; omega
theorem sumTo_single {g : Nat → Int} {p : Nat} : ∀ {n : Nat}, p < n → (∀ i, i < n → i ≠ p → g i = 0) → sumTo g n = g p
  | 0, h, _ => by omega
  | n + 1, h, h0 => by
    rw [sumTo_succ]
    by_cases e : p = n
    · subst e
      rw [sumTo_congr (h := fun _ => 0) (fun i hi => h0 i (by omega) (by omega)), sumTo_c0]; omega
    · rw [sumTo_single (show p < n by omega) (fun i hi hn => h0 i (by omega) hn), h0 n (by omega) (by omega)]; omega
theorem sumTo_one {p n : Nat} (h : p < n) : sumTo (fun i => if i = p then 1 else 0) n = 1 := by
  rw [sumTo_single h (fun i _ hn => if_neg hn), if_pos rfl]
theorem upd2_at {f : Nat → Nat → Int} {j a : Nat} {x : Int} : upd2 f j a x j a = x := by unfold upd2; rw [if_pos rfl, upd_at]
theorem upd2_ne {f : Nat → Nat → Int} {j a i b : Nat} {x : Int} (h : i ≠ j ∨ b ≠ a) : upd2 f j a x i b = f i b := by
  unfold upd2
  by_cases e : i = j
  · subst e; rw [if_pos rfl]
    rcases h with h | h
    · exact absurd rfl h
    · exact upd_ne h
  · rw [if_neg e]
end Go.Proofs.Ytcccmndkolmboaa

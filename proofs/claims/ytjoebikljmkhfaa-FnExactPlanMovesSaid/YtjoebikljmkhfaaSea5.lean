/- slices.Grow of nil, slices.Concat; which seasons are valid: reference and program. No condition. -/
import Derived.Test.YtjoebikljmkhfaaSea3
import Derived.Test.YtjoebikljmkhfaaStep2
import Derived.Test.YtjoebikljmkhfaaGood
import Derived.Test.YtjoebikljmkhfaaAllow
import Derived.Lib.AppendZerosOnto
import Derived.Lib.AppendZeros
namespace Go.Proofs.Ytjoebikljmkhfaa
open Go.RowKit

set_option maxRecDepth 100000 in
set_option maxHeartbeats 400000 in
theorem grow0_any (n : Nat) (w : World) (hn : n ≤ 1048576) :
    Calls Try.prog 52 #[.slice none 0 0, .int .i64 n] w fun e w' => ∃ v, e = .returned v ∧ Own w' w.heap.size v [] ∧ Kp w w' := by
  obtain ⟨i0, hi, hz0, hz1, hz2⟩ := info_parts infoInt
  by_cases h0 : n = 0
  · subst h0
    go_enter Try.func52, Try.ntmps52
    go_wp2_with fail
    go_ret
    exact ⟨_, rfl, Own.nil _ _, Kp.refl _⟩
  · have hp : 0 < n := by omega
    have hb := grownCap_ge w (0 + n) 0 3
    have hm := grownCap_le_maxLen w (0 + n) 0 3 (by unfold maxLen; omega)
    have hrz : ∀ ty, (Builtin.append_ #[22, 3] ty #[.slice none 0 0, .int .i64 (n : Int)]).run Try.prog w = .ok (.slice (some ⟨w.heap.size, 0, none⟩) (0 + n) (grownCap w (0 + n) 0 3))
        (w.drew.alloc (.cells (([] : List Value).toArray ++ Builtin.zeroCells (Value.int .i64 0).cells n ++ Builtin.zeroCells (Value.int .i64 0).cells (grownCap w (0 + n) 0 3 - (0 + n))) 3)) := fun ty =>
      Lib.run_append_grow_zeros w 22 3 ty 3 i0 (.int .i64 0) .i64 .i64 Try.underlying22 Try.underlying3 hi hz0 none 0 0 [] (run_firstCells_none _ _ _ _ _) n hp (by omega) (by omega) (by omega) (by rw [hz2]; omega) (growslice_fits (by omega) (by rw [hz2]; omega))
    have ho : Own (w.drew.alloc (.cells (([] : List Value).toArray ++ Builtin.zeroCells (Value.int .i64 0).cells n ++ Builtin.zeroCells (Value.int .i64 0).cells (grownCap w (0 + n) 0 3 - (0 + n))) 3)) w.heap.size (.slice (some ⟨w.heap.size, 0, none⟩) 0 (grownCap w (0 + n) 0 3)) [] := by
      refine World.ownsRow_made (w := w.drew) (e := 3) (size := 1) _ _ (Nat.le_refl _) hm ?_
      have hz : ∀ k, (Builtin.zeroCells (Value.int .i64 0).cells k).size = k := fun k => by simp [Builtin.zeroCells, Value.cells]
      rw [Array.size_append, Array.size_append, hz, hz]
      show 0 + n + _ = _ * 1
      omega
    have HO := Lib.hid ho
    clear ho
    unfold maxLen at hm
    generalize grownCap w (0 + n) 0 3 = G at *
    generalize Obj.cells (([] : List Value).toArray ++ Builtin.zeroCells (Value.int .i64 0).cells n ++ Builtin.zeroCells (Value.int .i64 0).cells (G - (0 + n))) 3 = ob at *
    have Hrz := Lib.hid hrz
    clear hrz
    go_enter Try.func52, Try.ntmps52
    go_wp2_with (at_builtin; refine Lib.wpList_append_run _ rfl _ _ _ _ rfl _ _ rfl rfl _ _ (Hrz.out _) ?_)
    go_ret
    exact ⟨_, rfl, HO.out, (Kp.refl _).drew.alloc _⟩
theorem wpl_app_all {ops : Array Oper} {rest : List Oper} {o : Oper} {a : Act} {Q : Exit → Act → World → Prop} {W : World} (hgd : o.guard = none) (s x : Operand)
    (ho : o.op = .call { callee := .builtin .append, args := #[s, x], argTypes := #[22, 22] }) (base : Nat) (v : Value) (xs ys : List Int) (A : Option Addr) (m c : Nat)
    (hs : a.eval s = v) (hx : a.eval x = .slice A m c) (hown : Own W base v xs) (hy : IntsAt W A ys) (hym : ys.length = m) (hbase : base ≤ W.heap.size) (hlen : xs.length + ys.length ≤ 4194304)
    (h : ∀ v' w', Own w' base v' (xs ++ ys) → Turn (fun i => v.ownBlock = some i) W w' → (v'.ownBlock = v.ownBlock ∨ ∀ g, v'.ownBlock = some g → W.heap.size ≤ g) → wpList Try.prog ops Q rest (a.put o.dst v') w') :
    wpList Try.prog ops Q (o :: rest) a W := by
  obtain ⟨v', w', hrun, h2, h3, h4⟩ := run_app_all (W := W) o.type base v xs ys A m c hown hy hym hbase hlen
  exact Lib.wpList_append_run _ hgd s x _ _ ho _ _ hs hx v' w' hrun (h v' w' h2 (Turn.of_grown h3) h4)
theorem flat_take_succ {rows : List (List Int)} {k : Nat} (hk : k < rows.length) : (rows.take (k + 1)).flatten = (rows.take k).flatten ++ rows[k] := by
  rw [List.take_succ_eq_append_getElem hk, List.flatten_append]; simp
theorem flat_len (rows : List (List Int)) : rows.flatten.length = rowSum rows := by
  induction rows with
  | nil => rfl
  | cons r rs ih => simp [rowSum, ih]
set_option maxHeartbeats 400000 in
theorem concat_any (B : Option Addr) (rows : List (List Int)) (m c : Nat) (w : World) (hx : GridAt w B rows) (hm : rows.length = m) (hs : rowSum rows ≤ 1048576) :
    Calls Try.prog 40 #[.slice B m c] w fun e w' => ∃ v, e = .returned v ∧ Own w' w.heap.size v rows.flatten ∧ Kp w w' := by
  have hm63 : m ≤ 9223372036854775807 := hm ▸ hx.1
  have Hm := Lib.hid hm; clear hm
  go_enter Try.func40, Try.ntmps40
  go_wp2_with fail
  go_loop [3, 11] (fun sv iv => ∃ k : Nat, k ≤ m ∧ iv = .int .i64 k ∧ sv = .int .i64 (rowSum (rows.take k) : Nat)) (fun _ iv => m - (intOf iv).toNat)
  case atStart => exact ⟨0, by omega, rfl, rfl⟩
  case round =>
    obtain ⟨k, hk, rfl, rfl⟩ := hrel
    by_cases hlt : k < m
    · have lx : k < rows.length := by rw [Hm.out]; exact hlt
      obtain ⟨bd, A, ca, rfl, hc, hr⟩ := hx.at_ lx
      have hsum := Lib.hid (rowSum_take_succ lx)
      have hsl := rowSum_take_le rows (k + 1)
      have hsl2 : rowSum (rows.take k) + rows[k].length ≤ 1048576 := by rw [← hsum.out]; omega
      clear hsl
      go_wp2_with fail
      go_round
      case rel => exact ⟨k + 1, by omega, by go_num, by rw [hsum.out]; go_num⟩
      case measure => simp [intOf]; omega
    · obtain rfl : k = m := by omega
      have htk := Lib.hid (show rows.take k = rows from List.take_of_length_le (by rw [Hm.out]; omega))
      rw [htk.out]
      go_wp2_with fail
      have CC := Lib.hid (grow0_any (rowSum rows) w hs)
      with_reducible refine Calls.mono CC.out ?_
      rintro e w1 ⟨v0, rfl, ho, hk1⟩
      clear CC
      go_wp2_with fail
      go_loopw [6, 27] (fun v iv wr => ∃ j : Nat, j ≤ k ∧ iv = .int .i64 j ∧ Own wr w.heap.size v ((rows.take j).flatten) ∧ Kp w wr) (fun _ iv _ => k - (intOf iv).toNat)
      case atStart => exact ⟨0, by omega, rfl, ho, hk1⟩
      case round =>
        clear ho hk1
        obtain ⟨j, hj, rfl, hown, hkb⟩ := hrel
        by_cases hlj : j < k
        · have lx : j < rows.length := by rw [Hm.out]; exact hlj
          obtain ⟨bd, A, ca, rfl, hc, hr⟩ := (hx.kp hkb).at_ lx
          have hfl := Lib.hid (flat_take_succ lx)
          have hlen : ((rows.take j).flatten).length + rows[j].length ≤ 4194304 := by
            rw [flat_len, ← rowSum_take_succ lx]
            have := rowSum_take_le rows (j + 1)
            omega
          go_wp2_with (at_builtin; go_loud (refine wpl_app_all rfl (.tmp 31) (.tmp 32) rfl w.heap.size _ ((rows.take j).flatten) rows[j] A rows[j].length ca rfl rfl hown hr rfl hkb.le hlen ?_); intro v' w' ho' ht' _; have hkb' := hown.kp_turn hkb (Nat.le_refl _) ht')
          go_roundw
          case rel => exact ⟨j + 1, by omega, by go_num, by rw [hfl.out]; exact ho', hkb'⟩
          case measure => simp [intOf]; omega
        · obtain rfl : j = k := by omega
          go_wp2_with fail
          go_ret
          exact ⟨_, rfl, by rw [htk.out] at hown; exact hown, hkb⟩

def roundB (n : Nat) (cs : List (List Int)) : Bool := decide (cs.length ≤ 5) && cs.all (rowB n)
/-- A valid season. -/
def goodS (S : Sea) : Bool := inB S.op.length 1 5 && rowB S.op.length S.op && rowB S.op.length S.cl && rowB S.op.length S.ke && decide (S.ro.length ≤ 5) && S.ro.all (roundB S.op.length)
theorem goodS_iff {S : Sea} : goodS S = true ↔ (1 ≤ S.op.length ∧ S.op.length ≤ 5) ∧ rowB S.op.length S.op = true ∧ rowB S.op.length S.cl = true ∧ rowB S.op.length S.ke = true ∧ S.ro.length ≤ 5 ∧ ∀ cs ∈ S.ro, cs.length ≤ 5 ∧ ∀ r ∈ cs, rowB S.op.length r = true := by
  simp only [goodS, inB, roundB, Bool.and_eq_true, decide_eq_true_eq, List.all_eq_true]
  constructor
  · rintro ⟨⟨⟨⟨⟨⟨h1, h2⟩, h3⟩, h4⟩, h5⟩, h6⟩, h7⟩
    exact ⟨⟨by omega, by omega⟩, h3, h4, h5, h6, h7⟩
  · rintro ⟨⟨h1, h2⟩, h3, h4, h5, h6, h7⟩
    exact ⟨⟨⟨⟨⟨⟨by omega, by omega⟩, h3⟩, h4⟩, h5⟩, h6⟩, h7⟩

set_option maxHeartbeats 400000 in
theorem indexFunc3_any (F : FuncId) (caps : Array Value) (p : List (List Int) → Bool) (B : Option Addr) (rows : List (List (List Int))) (n c : Nat) (w : World) (hx : GridsAt w B rows) (hnx : rows.length = n)
    (hF : ∀ (args : Array Value) (w : World), Sem.run Try.prog (callFunc F args) w = .ok (.enter F args) w)
    (hf : ∀ k (hk : k < rows.length) (A : Option Addr) (c : Nat) (w' : World), Kp w w' → GridAt w' A rows[k] → Calls Try.prog F (#[.slice A rows[k].length c] ++ caps) w' fun e w'' => e = .returned (.bool (p rows[k])) ∧ Kp w' w'') :
    Calls Try.prog 53 #[.slice B n c, .func (.func F) #[] caps] w fun e w' => ∃ r : Int, e = .returned (.int .i64 r) ∧ decide (0 ≤ r) = rows.any p ∧ Kp w w' := by
  have hn : n ≤ 9223372036854775807 := hnx ▸ hx.1
  have Hx := Lib.hid hnx; clear hnx
  have Hf := Lib.hid hf; clear hf
  go_enter Try.func53, Try.ntmps53
  go_wp2
  go_loopw [8] (fun i wr => ∃ k : Nat, k ≤ n ∧ i = .int .i64 k ∧ Hid ((rows.take k).any p = false) ∧ Kp w wr) (fun i _ => n - (intOf i).toNat)
  case atStart => exact ⟨0, by omega, rfl, rfl, Kp.refl w⟩
  case round =>
    obtain ⟨k, hk, rfl, Hp, hkp⟩ := hrel
    by_cases hlt : k < n
    · have lx : k < rows.length := by rw [Hx.out]; exact hlt
      obtain ⟨ad, A, c', rfl, hc, hr⟩ := (hx.kp hkp).at_ lx
      go_wp2_with fail
      refine (Hf.out k lx A c' wr hkp hr).mono ?_
      rintro e w1 ⟨rfl, hk1⟩
      cases hpk : p rows[k]
      · have Hpk := Lib.hid hpk; clear hpk
        go_wp2
        go_roundw
        case rel => exact ⟨k + 1, by omega, by go_num, any_take_succ Hp.out lx Hpk.out, hkp.trans hk1⟩
        case measure => simp [intOf]; omega
      · have Hpk := Lib.hid hpk; clear hpk
        go_wp2
        go_ret
        exact ⟨k, rfl, by rw [any_of lx Hpk.out]; simp, hkp.trans hk1⟩
    · go_wp2
      go_ret
      refine ⟨-1, rfl, ?_, hkp⟩
      have hp := Hp.out
      rw [List.take_of_length_le (by rw [Hx.out]; omega)] at hp
      rw [hp]; rfl
theorem containsFunc3_any (F : FuncId) (caps : Array Value) (p : List (List Int) → Bool) (B : Option Addr) (rows : List (List (List Int))) (n c : Nat) (w : World) (hx : GridsAt w B rows) (hnx : rows.length = n)
    (hF : ∀ (args : Array Value) (w : World), Sem.run Try.prog (callFunc F args) w = .ok (.enter F args) w)
    (hf : ∀ k (hk : k < rows.length) (A : Option Addr) (c : Nat) (w' : World), Kp w w' → GridAt w' A rows[k] → Calls Try.prog F (#[.slice A rows[k].length c] ++ caps) w' fun e w'' => e = .returned (.bool (p rows[k])) ∧ Kp w' w'') :
    Calls Try.prog 41 #[.slice B n c, .func (.func F) #[] caps] w fun e w' => e = .returned (.bool (rows.any p)) ∧ Kp w w' := by
  have Hx := Lib.hid hnx; clear hnx
  have Hf := Lib.hid hf; clear hf
  go_enter Try.func41, Try.ntmps41
  go_wp2_with fail
  refine (indexFunc3_any F caps p B rows n c w hx Hx.out hF Hf.out).mono ?_
  rintro e w1 ⟨r, rfl, hr, hk1⟩
  have Hr := Lib.hid hr; clear hr
  go_wp2
  go_ret
  exact ⟨ret_bool Hr.out, hk1⟩
theorem seaClo2_any (A : Option Addr) (xs : List Int) (c n : Nat) (p : Addr) (w : World) (hx : IntsAt w A xs) (hc : w.cell? p = some (.int .i64 n)) :
    Calls Try.prog 44 #[.slice A xs.length c, .pointer (some p)] w fun e w' => e = .returned (.bool (!rowB n xs)) ∧ Kp w w' := by
  have hl := hx.1
  by_cases h : xs.length = n
  · have h1 : ((xs.length : Int) != (n : Int)) = false := by simp [h]
    have H := Lib.hid h; clear h
    go_enter Try.func44, Try.ntmps44
    go_wp2_with fail
    refine (areBetween_any A xs _ c _ _ w hx rfl).mono ?_
    rintro e w1 ⟨rfl, hk⟩
    go_wp2_with fail
    go_ret
    refine ⟨ret_bool ?_, hk⟩
    have := H.out
    simp [rowB, this, Array.getD]
  · have h1 : ((xs.length : Int) != (n : Int)) = true := by simp; omega
    go_enter Try.func44, Try.ntmps44
    go_wp2_with fail
    go_ret
    refine ⟨ret_bool ?_, Kp.refl _⟩
    simp [rowB, h, Array.getD]
theorem seaClo1_any (A : Option Addr) (cs : List (List Int)) (c n : Nat) (p : Addr) (w : World) (hx : GridAt w A cs) (hc : w.cell? p = some (.int .i64 n)) :
    Calls Try.prog 42 #[.slice A cs.length c, .pointer (some p)] w fun e w' => e = .returned (.bool (!roundB n cs)) ∧ Kp w w' := by
  have hmf : ∀ (fn : Fn) (first cap : Array Value) (w : World), (Instr.makeFunc fn first cap).run Try.prog w = .ok (.func fn first cap) w := fun _ _ _ _ => rfl
  have hl := hx.1
  by_cases h : cs.length ≤ 5
  · go_enter Try.func42, Try.ntmps42
    go_wp2_with fail
    refine (containsFunc2_any _ _ (fun r => !rowB n r) A cs _ c w hx rfl (callFunc_of Try.func44 (by kernel_rfl) (by kernel_rfl)) ?_).mono ?_
    · intro k hk A' c' w' hk' hi
      exact seaClo2_any A' _ c' n p w' hi (hk'.get hc)
    rintro e w2 ⟨rfl, hk2⟩
    go_wp2_with fail
    go_ret
    refine ⟨ret_bool ?_, hk2⟩
    have h5 : decide ((5 : Int) < (cs.length : Int)) = false := by simp; omega
    have h6 : decide (cs.length ≤ 5) = true := by simpa using h
    simp [roundB, List.all_eq_not_any_not, h6, Array.getD]
    try omega
  · go_enter Try.func42, Try.ntmps42
    go_wp2_with fail
    go_ret
    exact ⟨ret_bool (by simp [roundB, h, Array.getD]), Kp.refl _⟩
end Go.Proofs.Ytjoebikljmkhfaa

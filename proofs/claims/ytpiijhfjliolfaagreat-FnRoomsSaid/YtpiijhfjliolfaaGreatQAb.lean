/- Which fields are valid: the program's answer and the reference's; Small words for the walks of laws; append of a whole list of numbers (nil or not) at a step of a region that draws; A slice of slices of the call's own that grows by append; its rows lie in other blocks, and are read, or are of the call's own too; The drawing of arguments: the cursor over the bytes; a byte, a number below a bound, one of a list. No condition. -/
import Derived.Test.YtpiijhfjliolfaaGreatQAa
import Derived.Deep.RegionWith
import Derived.Deep.DeepCutAuto
import Derived.WalkSpells
import Derived.Lib.AppendZeros
import Derived.Deep.MidRow
import Derived.Laws.BitsLemmas
import Derived.Laws.Bits64
namespace Go.Proofs.YtpiijhfjliolfaaGreat
open Go.RowKit Go.Sort

def rowB (n : Nat) (r : List Int) : Bool := allB r 0 99 && (r.length == n)
/-- A valid field. -/
def goodF (F : Fld) : Bool := inB F.op.length 1 7 && rowB F.op.length F.op && decide (F.di.length ≤ 7) && F.di.all (rowB F.op.length)
theorem rowB_iff {n : Nat} {r : List Int} : rowB n r = true ↔ (∀ x ∈ r, 0 ≤ x ∧ x ≤ 99) ∧ r.length = n := by simp [rowB, allB_iff]
theorem goodF_iff {F : Fld} : goodF F = true ↔ (1 ≤ F.op.length ∧ F.op.length ≤ 7) ∧ (∀ x ∈ F.op, 0 ≤ x ∧ x ≤ 99) ∧ F.di.length ≤ 7 ∧ ∀ r ∈ F.di, (∀ x ∈ r, 0 ≤ x ∧ x ≤ 99) ∧ r.length = F.op.length := by
  simp only [goodF, Bool.and_eq_true, inB_iff, decide_eq_true_eq, List.all_eq_true, rowB_iff]
  constructor
  · rintro ⟨⟨⟨⟨h1, h2⟩, h3, _⟩, h4⟩, h5⟩; exact ⟨⟨by omega, by omega⟩, h3, h4, h5⟩
  · rintro ⟨⟨h1, h2⟩, h3, h4, h5⟩; exact ⟨⟨⟨⟨by omega, by omega⟩, h3, trivial⟩, h4⟩, h5⟩

theorem goodRow {F : Fld} (h : goodF F = true) {k : Nat} (hk : k < F.di.length) : F.di[k].length = F.op.length := ((goodF_iff.1 h).2.2.2 _ (List.getElem_mem hk)).2
theorem l2Row_any (A : Option Addr) (xs : List Int) (m c n : Nat) (w : World) (hx : IntsAt w A xs) (hnx : xs.length = m) :
    Calls Tryz.prog 83 #[.slice A m c, .int .i64 n, .int .i64 99] w fun e w' => e = .returned (.bool (rowB n xs)) ∧ w = w' := by
  have hm : m ≤ 9223372036854775807 := hnx ▸ hx.1
  have Hx := Lib.hid hnx; clear hnx
  go_enter Tryz.func83, Tryz.ntmps83
  go_wp2_with fail
  go_loop [7] (fun i => ∃ k : Nat, k ≤ m ∧ i = .int .i64 k ∧ Hid ((xs.take k).all (fun x => inB x 0 99) = true)) (fun i => m - (intOf i).toNat)
  case atStart => exact ⟨0, by omega, rfl, rfl⟩
  case round =>
    obtain ⟨k, hk, rfl, Hp⟩ := hrel
    by_cases hlt : k < m
    · have lx : k < xs.length := by rw [Hx.out]; exact hlt
      obtain ⟨ad, rfl, hc⟩ := hx.at_ lx
      go_wp2_with fail
      refine (l1In_any _ _ _ _).mono ?_
      rintro e w' ⟨rfl, rfl⟩
      cases hpk : inB xs[k] 0 99
      · go_wp2_with fail
        go_ret
        refine ⟨ret_bool ?_, rfl⟩
        have : allB xs 0 99 = false := all_false_of (p := fun x => inB x 0 99) lx hpk
        simp [rowB, this, Array.getD]
      · go_wp2_with fail
        go_round
        case rel => exact ⟨k + 1, by omega, by go_num, all_take_succ Hp.out lx hpk⟩
        case measure => simp [intOf]; omega
    · go_wp2_with fail
      go_ret
      refine ⟨ret_bool ?_, rfl⟩
      have hp := Hp.out
      have e := Hx.out
      rw [List.take_of_length_le (by omega)] at hp
      have : allB xs 0 99 = true := hp
      rw [rowB, this, e, Bool.true_and, Bool.eq_iff_iff]
      simp [Array.getD]
      try omega

theorem goodF_no_rows {F : Fld} (h : F.di.all (rowB F.op.length) = false) : goodF F = false := by simp [goodF, h]

set_option maxHeartbeats 400000 in
theorem l2Good_any (f : Value) (F : Fld) (w : World) (hf : FldAt w f F) :
    Calls Tryz.prog 39 #[f] w fun e w' => e = .returned (.bool (goodF F)) ∧ Kp w w' := by
  obtain ⟨A, c, B, d, rfl, hA, hB⟩ := hf
  have hk0 : Kp w (w.alloc (.cells #[.slice A F.op.length c, .slice B F.di.length d] 27)) := (Kp.refl w).alloc _
  have hA0 := hA.kp hk0
  have hB0 := hB.kp hk0
  have hBl := hB.1
  have hAl := hA.1
  go_enter Tryz.func39, Tryz.ntmps39
  go_wp2_with fail
  go_loop [4] (fun i => ∃ k : Nat, k ≤ F.di.length ∧ i = .int .i64 k ∧ Hid ((F.di.take k).all (rowB F.op.length) = true)) (fun i => F.di.length - (intOf i).toNat)
  case atStart => exact ⟨0, by omega, rfl, rfl⟩
  case round =>
    obtain ⟨k, hk, rfl, Hp⟩ := hrel
    by_cases hlt : k < F.di.length
    · obtain ⟨bd, A', c', rfl, hc, hr⟩ := hB0.at_ hlt
      go_wp2_with fail
      refine (l2Row_any A' F.di[k] _ c' _ _ hr rfl).mono ?_
      rintro e w' ⟨rfl, rfl⟩
      cases hpk : rowB F.op.length F.di[k]
      · have Hpk := Lib.hid hpk; clear hpk
        go_wp2_with fail
        go_ret
        exact ⟨ret_bool (goodF_no_rows (all_false_of hlt Hpk.out)).symm, hk0⟩
      · have Hpk := Lib.hid hpk; clear hpk
        go_wp2_with fail
        go_round
        case rel => exact ⟨k + 1, by omega, by go_num, all_take_succ Hp.out hlt Hpk.out⟩
        case measure => simp [intOf]; omega
    · have hall : Hid (F.di.all (rowB F.op.length) = true) := by
        have hp := Hp.out
        rw [List.take_of_length_le (by omega)] at hp
        exact hp
      go_wp2_with fail
      refine (l1In_any _ _ _ _).mono ?_
      rintro e w' ⟨rfl, rfl⟩
      cases h1 : inB F.op.length 1 7
      · have H1 := Lib.hid h1; clear h1
        go_wp2_with fail
        go_ret
        exact ⟨ret_bool (by simp [goodF, H1.out, Array.getD]), hk0⟩
      · have H1 := Lib.hid h1; clear h1
        go_wp2_with fail
        refine (l2Row_any A F.op _ c _ _ hA0 rfl).mono ?_
        rintro e w' ⟨rfl, rfl⟩
        cases h2 : rowB F.op.length F.op
        · have H2 := Lib.hid h2; clear h2
          go_wp2_with fail
          go_ret
          exact ⟨ret_bool (by simp [goodF, H2.out, Array.getD]), hk0⟩
        · have H2 := Lib.hid h2; clear h2
          go_wp2_with fail
          go_ret
          refine ⟨ret_bool ?_, hk0⟩
          have := hall.out
          have h1 := H1.out
          have h2 := H2.out
          rw [goodF, h1, h2, this]
          simp [Array.getD]
          try omega

/- slices.ContainsFunc over lists of lists. -/
set_option maxHeartbeats 400000 in
theorem indexFunc2_any (F : FuncId) (caps : Array Value) (p : List Int → Bool) (B : Option Addr) (rows : List (List Int)) (n c : Nat) (w : World) (hx : GridAt w B rows) (hnx : rows.length = n)
    (hF : ∀ (args : Array Value) (w : World), Sem.run Tryz.prog (callFunc F args) w = .ok (.enter F args) w)
    (hf : ∀ k (hk : k < rows.length) (A : Option Addr) (c : Nat) (w' : World), Kp w w' → IntsAt w' A rows[k] → Calls Tryz.prog F (#[.slice A rows[k].length c] ++ caps) w' fun e w'' => e = .returned (.bool (p rows[k])) ∧ Kp w' w'') :
    Calls Tryz.prog 93 #[.slice B n c, .func (.func F) #[] caps] w fun e w' => ∃ r : Int, e = .returned (.int .i64 r) ∧ decide (0 ≤ r) = rows.any p ∧ Kp w w' := by
  have hn : n ≤ 9223372036854775807 := hnx ▸ hx.1
  have Hx := Lib.hid hnx; clear hnx
  have Hf := Lib.hid hf; clear hf
  go_enter Tryz.func93, Tryz.ntmps93
  go_wp2
  go_loopw [8] (fun i wr => ∃ k : Nat, k ≤ n ∧ i = .int .i64 k ∧ Hid ((rows.take k).any p = false) ∧ Kp w wr) (fun i _ => n - (intOf i).toNat)
  case atStart => exact ⟨0, by omega, rfl, rfl, Kp.refl w⟩
  case round =>
    obtain ⟨k, hk, rfl, Hp, hkp⟩ := hrel
    by_cases hlt : k < n
    · have lx : k < rows.length := by rw [Hx.out]; exact hlt
      obtain ⟨ad, A, c', rfl, hc, hr⟩ := (hx.kp hkp).at_ lx
      go_wp2_with fail
      refine (Hf.out k lx A c' wr hkp hr).mono ?_
      rintro e w1 ⟨rfl, hk1⟩
      cases hpk : p rows[k]
      · have Hpk := Lib.hid hpk; clear hpk
        go_wp2
        go_roundw
        case rel => exact ⟨k + 1, by omega, by go_num, any_take_succ Hp.out lx Hpk.out, hkp.trans hk1⟩
        case measure => simp [intOf]; omega
      · have Hpk := Lib.hid hpk; clear hpk
        go_wp2
        go_ret
        exact ⟨k, rfl, by rw [any_of lx Hpk.out]; simp, hkp.trans hk1⟩
    · go_wp2
      go_ret
      refine ⟨-1, rfl, ?_, hkp⟩
      have hp := Hp.out
      rw [List.take_of_length_le (by rw [Hx.out]; omega)] at hp
      rw [hp]; rfl
theorem containsFunc2_any (F : FuncId) (caps : Array Value) (p : List Int → Bool) (B : Option Addr) (rows : List (List Int)) (n c : Nat) (w : World) (hx : GridAt w B rows) (hnx : rows.length = n)
    (hF : ∀ (args : Array Value) (w : World), Sem.run Tryz.prog (callFunc F args) w = .ok (.enter F args) w)
    (hf : ∀ k (hk : k < rows.length) (A : Option Addr) (c : Nat) (w' : World), Kp w w' → IntsAt w' A rows[k] → Calls Tryz.prog F (#[.slice A rows[k].length c] ++ caps) w' fun e w'' => e = .returned (.bool (p rows[k])) ∧ Kp w' w'') :
    Calls Tryz.prog 49 #[.slice B n c, .func (.func F) #[] caps] w fun e w' => e = .returned (.bool (rows.any p)) ∧ Kp w w' := by
  have Hx := Lib.hid hnx; clear hnx
  have Hf := Lib.hid hf; clear hf
  go_enter Tryz.func49, Tryz.ntmps49
  go_wp2_with fail
  refine (indexFunc2_any F caps p B rows n c w hx Hx.out hF Hf.out).mono ?_
  rintro e w1 ⟨r, rfl, hr, hk1⟩
  have Hr := Lib.hid hr; clear hr
  go_wp2
  go_ret
  exact ⟨ret_bool Hr.out, hk1⟩

theorem isField_clo (A A0 B0 : Option Addr) (xs : List Int) (c n m c0 d0 b : Nat) (w : World) (hx : IntsAt w A xs) (hc : w.cell? ⟨b, 0, none⟩ = some (.slice A0 n c0)) :
    Calls Tryz.prog 82 #[.slice A xs.length c, .pointer (some ⟨b, 0, none⟩)] w fun e w' => e = .returned (.bool (!rowB n xs)) ∧ Kp w w' := by
  have hl := hx.1
  by_cases h : xs.length = n
  · have h1 : ((xs.length : Int) != (n : Int)) = false := by simp [h]
    have H := Lib.hid h; clear h
    go_enter Tryz.func82, Tryz.ntmps82
    go_wp2_with fail
    refine (areBetween_any A xs _ c _ _ w hx rfl).mono ?_
    rintro e w1 ⟨rfl, hk⟩
    go_wp2_with fail
    go_ret
    refine ⟨ret_bool ?_, hk⟩
    have := H.out
    simp [rowB, this, Array.getD]
  · have h1 : ((xs.length : Int) != (n : Int)) = true := by simp; omega
    go_enter Tryz.func82, Tryz.ntmps82
    go_wp2_with fail
    go_ret
    refine ⟨ret_bool ?_, Kp.refl _⟩
    simp [rowB, h, Array.getD]

set_option maxHeartbeats 400000 in
theorem isField_any (f : Value) (F : Fld) (w : World) (hf : FldAt w f F) :
    Calls Tryz.prog 36 #[f] w fun e w' => e = .returned (.bool (goodF F)) ∧ Kp w w' := by
  obtain ⟨A, c, B, d, rfl, hA, hB⟩ := hf
  have hmf : ∀ (fn : Fn) (first cap : Array Value) (w : World), (Instr.makeFunc fn first cap).run Tryz.prog w = .ok (.func fn first cap) w := fun _ _ _ _ => rfl
  have hk0 : Kp w (w.alloc (.cells #[.slice A F.op.length c, .slice B F.di.length d] 27)) := (Kp.refl w).alloc _
  have hA0 := hA.kp hk0
  have hB0 := hB.kp hk0
  have hBl := hB.1
  have hAl := hA.1
  have d0 : (w.alloc (.cells #[.slice A F.op.length c, .slice B F.di.length d] 27)).cell? ⟨w.heap.size, 0, none⟩ = some (.slice A F.op.length c) := by
    rw [World.cell?_alloc_at _ _ _ _ rfl]; rfl
  have d1 : (w.alloc (.cells #[.slice A F.op.length c, .slice B F.di.length d] 27)).cell? ⟨w.heap.size, 1, none⟩ = some (.slice B F.di.length d) := by
    rw [World.cell?_alloc_at _ _ _ _ rfl]; rfl
  go_enter Tryz.func36, Tryz.ntmps36
  go_wp2_with fail
  refine (between_any _ _ _ _).mono ?_
  rintro e w' ⟨rfl, rfl⟩
  cases h1 : inB F.op.length 1 7
  · have H1 := Lib.hid h1; clear h1
    go_wp2_with fail
    go_ret
    exact ⟨ret_bool (by simp [goodF, H1.out, Array.getD]), hk0⟩
  have H1 := Lib.hid h1; clear h1
  go_wp2_with fail
  refine (areBetween_any A F.op _ c _ _ _ hA0 rfl).mono ?_
  rintro e w1 ⟨rfl, hk1⟩
  have e1 := hk1.get d1
  cases h2 : allB F.op 0 99
  · have H2 := Lib.hid h2; clear h2
    go_wp2_with fail
    go_ret
    exact ⟨ret_bool (by simp [goodF, rowB, H2.out, Array.getD]), hk0.trans hk1⟩
  have H2 := Lib.hid h2; clear h2
  by_cases h3 : F.di.length ≤ 7
  · go_wp2_with fail
    refine (containsFunc2_any _ _ (fun r => !rowB F.op.length r) B F.di _ d w1 (hB0.kp hk1) rfl (callFunc_of Tryz.func82 (by kernel_rfl) (by kernel_rfl)) ?_).mono ?_
    · intro k hk A' c' w' hk' hi
      exact isField_clo A' A B _ c' _ F.di.length c d w.heap.size w' hi ((hk1.trans hk').get d0)
    rintro e w2 ⟨rfl, hk2⟩
    go_wp2_with fail
    go_ret
    refine ⟨ret_bool ?_, (hk0.trans hk1).trans hk2⟩
    have h1 := H1.out
    have h2 := H2.out
    have h4 : (!F.di.any fun r => !rowB F.op.length r) = F.di.all (rowB F.op.length) := by rw [List.all_eq_not_any_not]
    show (!F.di.any fun r => !rowB F.op.length r) = _
    rw [h4, goodF, h1, rowB, h2]
    simp [h3]
  · go_wp2_with fail
    go_ret
    exact ⟨ret_bool (by simp [goodF, h3, Array.getD]), hk0.trans hk1⟩
end Go.Proofs.YtpiijhfjliolfaaGreat

namespace Go.Proofs.YtpiijhfjliolfaaGreat
open Go.RowKit

theorem left_small {n : Nat} (h : n ≤ 1048576) : left1 n 1048576 = 1048576 - n := by unfold left1; rw [if_pos (by omega)]
theorem left_big {n : Nat} (h : ¬ n ≤ 1048576) : left1 n 1048576 = -1 := by unfold left1; rw [if_neg (by omega)]
theorem OwnFld.small {w : World} {base : Nat} {v : Value} {F : Fld} (h : OwnFld w base v F) (hb : F.bulk ≤ 1048576) : FldAt w v F :=
  h.fld (by unfold Fld.bulk at hb; omega) (by unfold Fld.bulk at hb; omega) (fun r hr => by
    obtain ⟨k, hk, rfl⟩ := List.getElem_of_mem hr
    have := rowSum_mem hk
    unfold Fld.bulk at hb; omega)
theorem OwnFld.agg {w : World} {base : Nat} {v : Value} {F : Fld} (h : OwnFld w base v F) : ∃ A c B d, v = .agg #[.slice A F.op.length c, .slice B F.di.length d] := by
  obtain ⟨a, b, _, rfl, _, ha, _, hb⟩ := h
  obtain ⟨A, c, rfl⟩ := ha.shape
  obtain ⟨B, d, rfl⟩ := hb.shape
  exact ⟨A, c, B, d, rfl⟩
theorem IntRow.ats {w w' : World} {g : Nat} {xs : List Int} {m : Nat} (h : IntRow w g xs) (hn : xs.length = m) (hb : m ≤ 1048576) (hk : Kp w w') : IntsAt w' (some ⟨g, 0, none⟩) xs := (h.kp hk).ints (by omega)
theorem Own.intsOf {w : World} {base n c : Nat} {A : Option Addr} {xs : List Int} (h : Own w base (.slice A n c) xs) (hl : xs.length ≤ 9223372036854775807) : IntsAt w A xs := by
  obtain ⟨A', c', e, hi⟩ := h.ints hl
  simp only [Value.slice.injEq] at e
  rw [e.1]; exact hi
theorem Own.ofRow {w : World} {base g m : Nat} {xs : List Int} (h : IntRow w g xs) (hn : xs.length = m) (hb : m ≤ 1048576) (hg : base ≤ g) : Own w base (.slice (some ⟨g, 0, none⟩) m m) xs := by
  have := Own.of_row h hg (by omega)
  rw [hn] at this; exact this
theorem box2 (w : World) (a b : Value) (t : TypeId) : (w.alloc (.cells #[a, b] t)).cell? ⟨w.heap.size, 0, none⟩ = some a ∧ (w.alloc (.cells #[a, b] t)).cell? ⟨w.heap.size, 1, none⟩ = some b := by
  constructor <;> (rw [World.cell?_alloc_at _ _ _ _ rfl]; rfl)
end Go.Proofs.YtpiijhfjliolfaaGreat

namespace Go.Proofs.YtpiijhfjliolfaaGreat
open Go.RowKit

theorem run_app_all {W : World} (ty : TypeId) (base : Nat) (v : Value) (xs ys : List Int) (A : Option Addr) (m c : Nat)
    (hown : Own W base v xs) (hy : IntsAt W A ys) (hym : ys.length = m) (hbase : base ≤ W.heap.size) (hlen : xs.length + ys.length ≤ 4194304) :
    ∃ v' w', (Builtin.append_ #[24, 24] ty #[v, .slice A m c]).run Tryz.prog W = .ok v' w' ∧ Own w' base v' (xs ++ ys) ∧ W.grownBy w' v.ownBlock ∧ (v'.ownBlock = v.ownBlock ∨ ∀ g, v'.ownBlock = some g → W.heap.size ≤ g) := by
  obtain ⟨i0, hi, hz0, hz1, hz2⟩ := info_parts infoInt
  rcases A with _ | ad
  · have hys : ys = [] := by
      rcases ys with _ | ⟨y, ys⟩
      · rfl
      · obtain ⟨ad, h, _⟩ := hy.at_ (k := 0) (by simp)
        cases h
    subst hys
    obtain rfl : m = 0 := by simpa using hym.symm
    refine ⟨v, W, ?_, by simpa using hown, World.grownBy.refl W _, .inl rfl⟩
    rcases hown.2 with ⟨rfl, hn0⟩ | ⟨g, cap, cur, rfl, _, _, hnc, _⟩
    · simp [Builtin.append_, run_underlying Tryz.underlying24, sizeOf, typeInfo, hi, Builtin.lenOf, Builtin.firstCells]
    · simp [Builtin.append_, run_underlying Tryz.underlying24, sizeOf, typeInfo, hi, Builtin.lenOf, Builtin.firstCells, hnc, storeCells]
  · obtain ⟨v', w', hrun, h2, h3, _, h5⟩ := run_append_own_at (P := Tryz.prog) W base 24 ty 3 i0 (.int .i64 0) 1 8 Tryz.underlying24 hi hz0 hz1 hz2 rfl (by decide) v xs.length (xs.map (Value.int .i64)) hown ad m c (ys.map (Value.int .i64)) (by simp [hym]) (by
      intro j u hj
      by_cases hlt : j < ys.length
      · rw [List.getElem?_map, List.getElem?_eq_getElem hlt] at hj
        have e : u = .int .i64 ys[j] := by simpa using hj.symm
        rw [e]; exact hy.some_ hlt
      · rw [List.getElem?_eq_none (by simpa using hlt)] at hj; cases hj) (ints_oneCell _ _) (by unfold maxLen; omega) (by omega) hbase
    refine ⟨v', w', hrun, ?_, h3, ?_⟩
    · unfold Own
      rw [List.length_append, List.map_append, hym]
      exact h2
    · rcases h5 with e | e
      · exact .inl e
      · exact .inr (fun g hg => by rw [e] at hg; simp at hg; omega)

theorem step_app_all {ops : Array Oper} {o : Oper} {a : Act} {K : Act → World → Prop} {Q : Exit → Act → World → Prop} {E : Prop} {W : World} (hgd : o.guard = none) (s x : Operand)
    (ho : o.op = .call { callee := .builtin .append, args := #[s, x], argTypes := #[24, 24] }) (base : Nat) (v : Value) (xs ys : List Int) (A : Option Addr) (m c : Nat)
    (hs : a.eval s = v) (hx : a.eval x = .slice A m c) (hown : Own W base v xs) (hy : IntsAt W A ys) (hym : ys.length = m) (hbase : base ≤ W.heap.size) (hlen : xs.length + ys.length ≤ 4194304)
    (h : ∀ v' w', Own w' base v' (xs ++ ys) → Turn (fun i => v.ownBlock = some i) W w' → (v'.ownBlock = v.ownBlock ∨ ∀ g, v'.ownBlock = some g → W.heap.size ≤ g) → K (a.put o.dst v') w') :
    if Region.wanted o (yielded ops a.tmps) = true then Oper.wp Tryz.prog o a W K Q else E := by
  have hw : Region.wanted o (yielded ops a.tmps) = true := by simp [Region.wanted, hgd]
  rw [if_pos hw]
  obtain ⟨v', w', hrun, h2, h3, h4⟩ := run_app_all (W := W) o.type base v xs ys A m c hown hy hym hbase hlen
  unfold Oper.wp execOp
  simp only [ho, resolve, invoke, builtin, Sem.run_bind, Sem.run_pure, Result.andThen_ok, List.map_toArray, List.map_cons, List.map_nil, hs, hx, hrun]
  exact h v' w' h2 (Turn.of_grown h3) h4
theorem one_new (W : World) (a : Int) : IntsAt (W.alloc (.cells #[.int .i64 a] 3)) (some ⟨W.heap.size, 0, none⟩) [a] :=
  ⟨by simp, fun k hk => by
    obtain rfl : k = 0 := by simpa using hk
    refine ⟨_, rfl, ?_⟩
    rw [add0, World.cell?_alloc_at _ _ _ _ rfl]; rfl⟩
theorem one_turn {T : Nat → Prop} {W w' : World} {g : Nat} {a : Int} (h : IntsAt W (some ⟨g, 0, none⟩) [a]) (ht : Turn T W w') (hg : ¬ T g) (hlt : g < W.heap.size) : IntsAt w' (some ⟨g, 0, none⟩) [a] :=
  ⟨by simp, fun k hk => by
    obtain rfl : k = 0 := by simpa using hk
    have h0 := h.some_ (k := 0) (by simp)
    refine ⟨_, rfl, ?_⟩
    rw [add0] at h0 ⊢
    rw [World.cell?_of_block (ht.block g hlt hg), h0]; rfl⟩
end Go.Proofs.YtpiijhfjliolfaaGreat

namespace Go.Proofs.YtpiijhfjliolfaaGreat
open Go.RowKit

theorem infoIntsG : (Tryz.prog.info? 24).map (fun i => (i.zero, i.size, i.bytes)) = some (some (.slice none 0 0), 1, 24) := by kernel_rfl
theorem IntsAt.blk {w : World} {ad : Addr} {xs : List Int} (h : IntsAt w (some ad) xs) (hne : xs ≠ []) : ad.block < w.heap.size := by
  have hp : 0 < xs.length := List.length_pos_iff.2 hne
  have := World.block_lt_of_cell? _ _ (h.some_ hp)
  rwa [blk_add] at this
theorem IntsAt.turn {S : Nat → Prop} {w w' : World} {A : Option Addr} {xs : List Int} (h : IntsAt w A xs) (ht : Turn S w w') (hn : ∀ ad, A = some ad → xs ≠ [] → ¬ S ad.block) : IntsAt w' A xs :=
  ⟨h.1, fun k hk => by
    obtain ⟨ad, e, hc⟩ := h.2 k hk
    have hne : xs ≠ [] := fun e0 => by subst e0; simp at hk
    have hb : ad.block < w.heap.size := by
      have := World.block_lt_of_cell? _ _ hc
      rwa [blk_add] at this
    refine ⟨ad, e, ?_⟩
    have hbk : w'.heap[(ad.add k).block]? = w.heap[(ad.add k).block]? := by rw [blk_add]; exact ht.block _ hb (hn ad e hne)
    rw [World.cell?_of_block hbk]; exact hc⟩
theorem Own.capL {w : World} {base n c : Nat} {v : Value} {A : Option Addr} {xs : List Int} (h : Own w base v xs) (e : v = .slice A n c) : xs.length ≤ c := by
  rcases h.2 with ⟨rfl, h0⟩ | ⟨g, cap, cur, rfl, _, _, h4, _⟩
  · omega
  · simp only [Value.slice.injEq] at e
    omega
/-- A row that is read, and, where lo says from which block on, of the call's own. -/
def RowP (w : World) (lo : Option Nat) (u : Value) (xs : List Int) : Prop :=
  (∃ A c, u = .slice A xs.length c ∧ xs.length ≤ c ∧ IntsAt w A xs) ∧ ∀ b, lo = some b → Own w b u xs
theorem RowP.kp {w w' : World} {lo : Option Nat} {u : Value} {xs : List Int} (h : RowP w lo u xs) (hk : Kp w w') : RowP w' lo u xs := by
  obtain ⟨⟨A, c, e, hl, hi⟩, h2⟩ := h
  exact ⟨⟨A, c, e, hl, hi.kp hk⟩, fun b e => (h2 b e).kp hk⟩
theorem RowP.turn {S : Nat → Prop} {w w' : World} {lo : Option Nat} {u : Value} {xs : List Int} (h : RowP w lo u xs) (ht : Turn S w w') (hn : (xs ≠ [] ∨ lo ≠ none) → ∀ g, u.ownBlock = some g → ¬ S g) : RowP w' lo u xs := by
  obtain ⟨⟨A, c, rfl, hl, hi⟩, h2⟩ := h
  exact ⟨⟨A, c, rfl, hl, hi.turn ht (fun ad e hne => hn (.inl hne) ad.block (by rw [e]; rfl))⟩, fun b e => (h2 b e).turn ht (hn (.inr (by rw [e]; simp)))⟩
theorem RowP.lt {w : World} {lo : Option Nat} {u : Value} {xs : List Int} (h : RowP w lo u xs) (hn : xs ≠ [] ∨ lo ≠ none) : ∀ g, u.ownBlock = some g → g < w.heap.size := by
  obtain ⟨⟨A, c, rfl, hl, hi⟩, h2⟩ := h
  intro g hg
  rcases hn with hne | hlo
  · cases A with
    | none => cases hg
    | some ad =>
      have e : ad.block = g := by simpa [Value.ownBlock] using hg
      exact e ▸ hi.blk hne
  · cases lo with
    | none => exact absurd rfl hlo
    | some b => exact ((h2 b rfl).lt g hg).2
theorem RowP.of_own {w : World} {b : Nat} {u : Value} {xs : List Int} (h : Own w b u xs) (hl : xs.length ≤ 9223372036854775807) : RowP w (some b) u xs := by
  obtain ⟨A, c, e, hi⟩ := h.ints hl
  refine ⟨⟨A, c, e, h.capL e, hi⟩, fun b' e' => ?_⟩
  cases e'; exact h
theorem RowP.of_ints {w : World} {A : Option Addr} {xs : List Int} {c : Nat} (h : IntsAt w A xs) (hc : xs.length ≤ c) : RowP w none (.slice A xs.length c) xs :=
  ⟨⟨A, c, rfl, hc, h⟩, fun _ e => by cases e⟩
theorem RowP.mono {w : World} {b b' : Nat} {u : Value} {xs : List Int} (h : RowP w (some b) u xs) (hb : b' ≤ b) : RowP w (some b') u xs :=
  ⟨h.1, fun c e => by cases e; exact (h.2 b rfl).mono hb⟩
theorem RowP.read {w : World} {lo : Option Nat} {u : Value} {xs : List Int} (h : RowP w lo u xs) : ∃ A c, u = .slice A xs.length c ∧ xs.length ≤ c ∧ IntsAt w A xs := h.1
theorem RowP.one {w : World} {lo : Option Nat} {u : Value} {xs : List Int} (h : RowP w lo u xs) : u.oneCell' = true := by
  obtain ⟨⟨A, c, rfl, _⟩, _⟩ := h; rfl
/-- A slice of slices of the call's own; row j reads as rows[j] and does not lie in the outer block. -/
def GOwn (w : World) (lo : Option Nat) (base : Nat) (v : Value) (rows : List (List Int)) : Prop :=
  ∃ hs : List Value, w.ownsRow base 24 1 v rows.length hs ∧
    ∀ j (hj : j < rows.length), ∃ u, hs[j]? = some u ∧ RowP w lo u rows[j] ∧ ((rows[j] ≠ [] ∨ lo ≠ none) → ∀ g, u.ownBlock = some g → v.ownBlock ≠ some g)
theorem GOwn.kp {w w' : World} {lo : Option Nat} {base : Nat} {v : Value} {rows : List (List Int)} (h : GOwn w lo base v rows) (hk : Kp w w') : GOwn w' lo base v rows := by
  obtain ⟨hs, h1, h2⟩ := h
  exact ⟨hs, hk.own h1, fun j hj => by obtain ⟨u, e1, e2, e3⟩ := h2 j hj; exact ⟨u, e1, e2.kp hk, e3⟩⟩
theorem GOwn.nil (w : World) (lo : Option Nat) (base : Nat) : GOwn w lo base (.slice none 0 0) [] := ⟨[], World.ownsRow_nil _ _ _ _, fun j hj => by simp at hj⟩
theorem gown_new (w : World) (lo : Option Nat) (base : Nat) (hb : base ≤ w.heap.size) : GOwn (w.alloc (.cells #[] 24)) lo base (.slice (some ⟨w.heap.size, 0, none⟩) 0 0) [] :=
  ⟨[], World.ownsRow_lit w #[] 0 hb (by unfold maxLen; omega) (by simp), fun j hj => by simp at hj⟩
theorem GOwn.lt {w : World} {lo : Option Nat} {base : Nat} {v : Value} {rows : List (List Int)} (h : GOwn w lo base v rows) : ∀ k, v.ownBlock = some k → base ≤ k ∧ k < w.heap.size := by
  obtain ⟨hs, h1, _⟩ := h
  exact World.ownsRow.lt h1
theorem GOwn.mono {w : World} {lo : Option Nat} {base base' : Nat} {v : Value} {rows : List (List Int)} (h : GOwn w lo base v rows) (hb : base' ≤ base) : GOwn w lo base' v rows := by
  obtain ⟨hs, h1, h2⟩ := h
  refine ⟨hs, ⟨h1.1, ?_⟩, h2⟩
  rcases h1.2 with h | ⟨g, cap, cur, e, h3, h4⟩
  · exact .inl h
  · exact .inr ⟨g, cap, cur, e, Nat.le_trans hb h3, h4⟩
theorem GOwn.kp_turn {a w w' : World} {lo : Option Nat} {base : Nat} {v : Value} {rows : List (List Int)} (h : GOwn w lo base v rows) (hk : Kp a w) (hb : a.heap.size ≤ base) (ht : Turn (fun i => v.ownBlock = some i) w w') : Kp a w' :=
  hk.turn ht (fun i hi => Nat.le_trans hb (h.lt i hi).1)
theorem GOwn.drew {w : World} {lo : Option Nat} {base : Nat} {v : Value} {rows : List (List Int)} (h : GOwn w lo base v rows) : GOwn w.drew lo base v rows := h.kp (Kp.refl w).drew
theorem GOwn.one_kp {w : World} {lo : Option Nat} {base : Nat} {v : Value} {rows : List (List Int)} {o : Obj} (h : GOwn w lo base v rows) : GOwn (w.alloc o) lo base v rows := h.kp ((Kp.refl w).alloc o)
theorem GOwn.not_nil {w : World} {lo : Option Nat} {base : Nat} {v : Value} {rows : List (List Int)} (h : GOwn w lo base v rows) (hr : rows ≠ []) : v ≠ .slice none 0 0 := by
  rintro rfl
  obtain ⟨hs, h1, _⟩ := h
  rcases h1.2 with ⟨_, e⟩ | ⟨g, cap, cur, e, _⟩
  · exact hr (List.eq_nil_of_length_eq_zero e)
  · cases e

/-- The slice of this address reads as these rows. -/
def RowsAt (w : World) (lo : Option Nat) (A : Option Addr) (rows : List (List Int)) : Prop :=
  rows.length ≤ 9223372036854775807 ∧ ∀ k (_ : k < rows.length), ∃ ad u, A = some ad ∧ w.cell? (ad.add k) = some u ∧ RowP w lo u rows[k]
theorem RowsAt.kp {w w' : World} {lo : Option Nat} {A : Option Addr} {rows : List (List Int)} (h : RowsAt w lo A rows) (hk : Kp w w') : RowsAt w' lo A rows :=
  ⟨h.1, fun k hlt => by obtain ⟨ad, u, e, hc, hi⟩ := h.2 k hlt; exact ⟨ad, u, e, hk.get hc, hi.kp hk⟩⟩
theorem RowsAt.at_ {w : World} {lo : Option Nat} {A : Option Addr} {rows : List (List Int)} (h : RowsAt w lo A rows) {k : Nat} (hk : k < rows.length) : ∃ ad A2 c, A = some ad ∧ w.cell? (ad.add k) = some (.slice A2 rows[k].length c) ∧ rows[k].length ≤ c ∧ IntsAt w A2 rows[k] ∧ RowP w lo (.slice A2 rows[k].length c) rows[k] := by
  obtain ⟨ad, u, e, hc, hp⟩ := h.2 k hk
  obtain ⟨A2, c, rfl, h2, h3⟩ := hp.read
  exact ⟨ad, A2, c, e, hc, h2, h3, hp⟩
theorem RowsAt.some_ {w : World} {lo : Option Nat} {ad : Addr} {rows : List (List Int)} (h : RowsAt w lo (some ad) rows) {k : Nat} (hk : k < rows.length) : ∃ A2 c, w.cell? (ad.add k) = some (.slice A2 rows[k].length c) ∧ rows[k].length ≤ c ∧ IntsAt w A2 rows[k] ∧ RowP w lo (.slice A2 rows[k].length c) rows[k] := by
  obtain ⟨ad', A2, c, e, h1⟩ := h.at_ hk
  cases e; exact ⟨A2, c, h1⟩
theorem RowsAt.nil (w : World) (lo : Option Nat) (A : Option Addr) : RowsAt w lo A [] := ⟨by simp, fun k hk => absurd hk (by simp)⟩
theorem RowsAt.grid {w : World} {lo : Option Nat} {A : Option Addr} {rows : List (List Int)} (h : RowsAt w lo A rows) : GridAt w A rows :=
  ⟨h.1, fun k hk => by
    obtain ⟨ad, A2, c, e, hc, _, hi, _⟩ := h.at_ hk
    have e2 : rows.getD k [] = rows[k] := by simp [List.getD, hk]
    rw [e2]
    exact ⟨ad, A2, c, e, hc, hi⟩⟩
theorem RowsAt.take {w : World} {lo : Option Nat} {ad : Addr} {rows : List (List Int)} (h : RowsAt w lo (some ad) rows) (k : Nat) : RowsAt w lo (some ad) (rows.take k) :=
  ⟨Nat.le_trans (by simp; omega) h.1, fun j hj => by
    have h1 : j < rows.length := by simp at hj; omega
    obtain ⟨A2, c, e1, _, _, e3⟩ := h.some_ h1
    have e : (rows.take k)[j] = rows[j] := List.getElem_take
    rw [e]
    exact ⟨ad, _, rfl, e1, e3⟩⟩
theorem add_add (ad : Addr) (k j : Nat) : (ad.add k).add j = ad.add (k + j) := by
  unfold Addr.add
  by_cases hk : k = 0 <;> by_cases hj0 : j = 0 <;> simp [hk, hj0, Nat.add_assoc]
theorem RowsAt.drop {w : World} {lo : Option Nat} {ad : Addr} {rows : List (List Int)} (h : RowsAt w lo (some ad) rows) (k : Nat) : RowsAt w lo (some (ad.add k)) (rows.drop k) :=
  ⟨Nat.le_trans (by simp) h.1, fun j hj => by
    have h1 : k + j < rows.length := by simp at hj; omega
    obtain ⟨A2, c, e1, _, _, e3⟩ := h.some_ h1
    have e : (rows.drop k)[j] = rows[k + j] := List.getElem_drop
    rw [e]
    exact ⟨ad.add k, _, rfl, by rw [add_add]; exact e1, e3⟩⟩
theorem RowsAt.tail {w : World} {lo : Option Nat} {ad : Addr} {rows : List (List Int)} {c : Nat} (h : RowsAt w lo (some ad) rows) (hc : rows.length ≤ c) (k : Nat) : RowsAt w lo (if c = k then some ad else some (ad.add k)) (rows.drop k) := by
  by_cases e : c = k
  · rw [if_pos e, List.drop_eq_nil_of_le (by omega)]; exact RowsAt.nil _ _ _
  · rw [if_neg e]; exact h.drop k
theorem GOwn.rows {w : World} {lo : Option Nat} {base : Nat} {v : Value} {rows : List (List Int)} (h : GOwn w lo base v rows) (hl : rows.length ≤ 9223372036854775807) : ∃ A c, v = .slice A rows.length c ∧ rows.length ≤ c ∧ RowsAt w lo A rows := by
  obtain ⟨hs, h1, h2⟩ := h
  rcases id h1.2 with ⟨rfl, h0⟩ | ⟨g, cap, cur, rfl, _, _, hn, _⟩
  · have : rows = [] := List.eq_nil_of_length_eq_zero h0
    subst this
    exact ⟨none, 0, rfl, by simp, RowsAt.nil _ _ _⟩
  · refine ⟨_, cap, rfl, hn, hl, fun k hk => ?_⟩
    obtain ⟨u, e1, e2, _⟩ := h2 k hk
    exact ⟨_, u, rfl, World.ownsRow.cells h1 (g := g) rfl k _ e1, e2⟩
theorem GOwn.rows_some {w : World} {lo : Option Nat} {base : Nat} {v : Value} {rows : List (List Int)} (h : GOwn w lo base v rows) (hl : rows.length ≤ 9223372036854775807) (hv : v ≠ .slice none 0 0) : ∃ ad c, v = .slice (some ad) rows.length c ∧ rows.length ≤ c ∧ RowsAt w lo (some ad) rows := by
  obtain ⟨A, c, rfl, h2, h3⟩ := h.rows hl
  obtain ⟨hs, h1, _⟩ := h
  rcases h1.2 with ⟨e, _⟩ | ⟨g, cap, cur, e, _⟩
  · exact absurd e hv
  · simp only [Value.slice.injEq] at e
    obtain ⟨rfl, _, _⟩ := e
    exact ⟨_, c, rfl, h2, h3⟩
theorem GOwn.shape {w : World} {lo : Option Nat} {base : Nat} {v : Value} {rows : List (List Int)} (h : GOwn w lo base v rows) : ∃ A c, v = .slice A rows.length c := by
  obtain ⟨hs, h1, _⟩ := h
  rcases h1.2 with ⟨rfl, h0⟩ | ⟨g, cap, cur, e, _⟩
  · exact ⟨none, 0, by rw [h0]⟩
  · exact ⟨_, cap, e⟩
/-- What is read in a world that the call found lies apart from what has been made since. -/
theorem apart_old {w0 w : World} {lo : Option Nat} {base : Nat} {v u : Value} {rows : List (List Int)} {xs : List Int} (h : RowP w0 lo u xs) (hv : GOwn w lo base v rows) (hb : w0.heap.size ≤ base) : (xs ≠ [] ∨ lo ≠ none) → ∀ g, u.ownBlock = some g → v.ownBlock ≠ some g := by
  intro hn g hg hv2
  have := h.lt hn g hg
  have := (hv.lt _ hv2).1
  omega
theorem run_appg_all {W0 W : World} (ty : TypeId) {lo : Option Nat} (base : Nat) (v : Value) (rows rows2 : List (List Int)) (A : Option Addr) (m c : Nat)
    (hown : GOwn W lo base v rows) (hy : RowsAt W0 lo A rows2) (hk : Kp W0 W) (hap0 : ∀ k (hk : k < rows2.length) (ad : Addr) (u : Value), A = some ad → W0.cell? (ad.add k) = some u → RowP W0 lo u rows2[k] → (rows2[k] ≠ [] ∨ lo ≠ none) → ∀ g, u.ownBlock = some g → v.ownBlock ≠ some g) (hym : rows2.length = m) (hbase : base ≤ W.heap.size) (hlen : rows.length + rows2.length ≤ 4194304) :
    ∃ v' w', (Builtin.append_ #[25, 25] ty #[v, .slice A m c]).run Tryz.prog W = .ok v' w' ∧ GOwn w' lo base v' (rows ++ rows2) ∧ W.grownBy w' v.ownBlock ∧ (v'.ownBlock = v.ownBlock ∨ ∀ g, v'.ownBlock = some g → W.heap.size ≤ g) := by
  obtain ⟨i0, hi, hz0, hz1, hz2⟩ := info_parts infoIntsG
  rcases A with _ | ad
  · have hys : rows2 = [] := by
      rcases rows2 with _ | ⟨y, ys⟩
      · rfl
      · obtain ⟨ad, _, h, _⟩ := hy.2 0 (by simp)
        cases h
    subst hys
    obtain rfl : m = 0 := by simpa using hym.symm
    refine ⟨v, W, ?_, by simpa using hown, World.grownBy.refl W _, .inl rfl⟩
    obtain ⟨hs, h1, _⟩ := hown
    rcases h1.2 with ⟨rfl, hn0⟩ | ⟨g, cap, cur, rfl, _, _, hnc, _⟩
    · simp [Builtin.append_, run_underlying Tryz.underlying25, sizeOf, typeInfo, hi, Builtin.lenOf, Builtin.firstCells]
    · simp [Builtin.append_, run_underlying Tryz.underlying25, sizeOf, typeInfo, hi, Builtin.lenOf, Builtin.firstCells, hnc, storeCells]
  · have hown0 := hown
    obtain ⟨hs, h1, h2⟩ := hown
    have hlt : hs.length = rows.length := by rw [h1.1]; omega
    obtain ⟨hs2, hs2d⟩ : ∃ hs2 : List Value, hs2 = (List.range m).map (fun j => (W.cell? (ad.add j)).getD (.slice none 0 0)) := ⟨_, rfl⟩
    have hs2l : hs2.length = m := by simp [hs2d]
    have hs2a : ∀ j (hj : j < rows2.length), ∃ u, hs2[j]? = some u ∧ W0.cell? (ad.add j) = some u ∧ RowP W0 lo u rows2[j] := fun j hj => by
      obtain ⟨ad', u, e0, e1, e2⟩ := hy.2 j hj
      cases e0
      refine ⟨u, ?_, e1, e2⟩
      rw [hs2d]
      simp [show j < m by omega, hk.get e1]
    obtain ⟨v', w', hrun, g2, g3, _, g5⟩ := run_append_own_at (P := Tryz.prog) W base 25 ty 24 i0 (.slice none 0 0) 1 24 Tryz.underlying25 hi hz0 hz1 hz2 rfl (by decide) v rows.length hs h1 ad m c hs2 (by rw [hs2l]; omega) (by
        intro j u hj
        by_cases hlt : j < rows2.length
        · obtain ⟨u2, e1, e2, _⟩ := hs2a j hlt
          rw [e1] at hj
          have e : u2 = u := by simpa using hj
          rw [← e]; exact hk.get e2
        · rw [List.getElem?_eq_none (by omega)] at hj; cases hj) (by
        intro u hu
        obtain ⟨j, hj, rfl⟩ := List.getElem_of_mem hu
        obtain ⟨u2, e1, _, e3⟩ := hs2a j (by omega)
        rw [List.getElem?_eq_getElem hj] at e1
        have e : hs2[j] = u2 := by simpa using e1
        rw [e]; exact e3.one) (by unfold maxLen; omega) (by omega) hbase
    have ht := Turn.of_grown g3
    have h5 : v'.ownBlock = v.ownBlock ∨ ∀ g, v'.ownBlock = some g → W.heap.size ≤ g := by
      rcases g5 with e | e
      · exact .inl e
      · exact .inr (fun g hg => by rw [e] at hg; simp at hg; omega)
    have hnew : ∀ (u : Value) (xs : List Int), RowP W lo u xs → (xs ≠ [] ∨ lo ≠ none) → (∀ g, u.ownBlock = some g → v.ownBlock ≠ some g) → ∀ g, u.ownBlock = some g → v'.ownBlock ≠ some g := by
      intro u xs hx hn hv g hg e
      rcases h5 with h | h
      · rw [h] at e; exact hv g hg e
      · have := h _ e
        have := hx.lt hn g hg
        omega
    refine ⟨v', w', hrun, ⟨hs ++ hs2, ?_, fun j hj => ?_⟩, g3, h5⟩
    · rw [List.length_append, hym]; exact g2
    · rw [List.length_append] at hj
      by_cases hjl : j < rows.length
      · obtain ⟨u, e1, e2, e3⟩ := h2 j hjl
        have e : (rows ++ rows2)[j] = rows[j] := List.getElem_append_left hjl
        rw [e]
        exact ⟨u, by rw [List.getElem?_append_left (by omega)]; exact e1, e2.turn ht (fun hn g hg hh => e3 hn g hg hh), fun hn => hnew u _ e2 hn (e3 hn)⟩
      · have hj2 : j - rows.length < rows2.length := by omega
        obtain ⟨u, e1, e0, e3⟩ := hs2a _ hj2
        have e : (rows ++ rows2)[j] = rows2[j - rows.length] := List.getElem_append_right (by omega)
        rw [e]
        have hap := hap0 _ hj2 ad u rfl e0 e3
        exact ⟨u, by rw [List.getElem?_append_right (by omega), hlt]; exact e1, (e3.kp hk).turn ht (fun hn g hg hh => hap hn g hg hh), fun hn => hnew u _ (e3.kp hk) hn (hap hn)⟩
/-- The header of a slice stands in a block of one cell. -/
theorem RowsAt.one {W : World} {lo : Option Nat} {ad : Addr} {u : Value} {xs : List Int} (h : RowP W lo u xs) (hc : W.cell? ad = some u) : RowsAt W lo (some ad) [xs] :=
  ⟨by simp, fun k hk => by
    obtain rfl : k = 0 := by simpa using hk
    have e : ad.add 0 = ad := by unfold Addr.add; simp
    exact ⟨ad, u, rfl, by rw [e]; exact hc, h⟩⟩
theorem run_appg {W : World} (ty : TypeId) {lo : Option Nat} (base : Nat) (v : Value) (rows : List (List Int)) (r : List Int) (u : Value) (ad : Addr) (m' c' : Nat)
    (hown : GOwn W lo base v rows) (hr : RowP W lo u r) (hcell : W.cell? ad = some u) (hm : m' = 1) (hap : (r ≠ [] ∨ lo ≠ none) → ∀ g, u.ownBlock = some g → v.ownBlock ≠ some g) (hbase : base ≤ W.heap.size) (hlen : rows.length < 1048576) :
    ∃ v' w', (Builtin.append_ #[25, 25] ty #[v, .slice (some ad) m' c']).run Tryz.prog W = .ok v' w' ∧ GOwn w' lo base v' (rows ++ [r]) ∧ W.grownBy w' v.ownBlock ∧ (v'.ownBlock = v.ownBlock ∨ ∀ g, v'.ownBlock = some g → W.heap.size ≤ g) := by
  subst hm
  refine run_appg_all ty base v rows [r] (some ad) 1 c' hown (RowsAt.one hr hcell) (Kp.refl W) (fun k hk ad2 u2 e1 e2 hu2 hn g hg => ?_) rfl hbase (by simp; omega)
  obtain rfl : k = 0 := by simpa using hk
  cases e1
  have e : ad.add 0 = ad := by unfold Addr.add; simp
  rw [e, hcell] at e2
  cases e2
  exact hap hn g hg
/-- append of one row, in a plain region: the row's header stands in a new block of one cell. -/
theorem wpl_appg {ops : Array Oper} {rest : List Oper} {o : Oper} {a : Act} {Q : Exit → Act → World → Prop} {W : World} (hgd : o.guard = none) (s x : Operand)
    (ho : o.op = .call { callee := .builtin .append, args := #[s, x], argTypes := #[25, 25] }) {lo : Option Nat} (base : Nat) (v : Value) (rows : List (List Int)) (r : List Int) (u : Value)
    (hs : a.eval s = v) (hx : a.eval x = .slice (some ⟨W.heap.size, 0, none⟩) 1 1) (hown : GOwn W lo base v rows) (hr : RowP W lo u r) (hap : (r ≠ [] ∨ lo ≠ none) → ∀ g, u.ownBlock = some g → v.ownBlock ≠ some g) (hbase : base ≤ W.heap.size) (hlen : rows.length < 1048576)
    (h : ∀ v' w', GOwn w' lo base v' (rows ++ [r]) → Turn (fun i => v.ownBlock = some i) W w' → (v'.ownBlock = v.ownBlock ∨ ∀ g, v'.ownBlock = some g → W.heap.size ≤ g) → wpList Tryz.prog ops Q rest (a.put o.dst v') w') :
    wpList Tryz.prog ops Q (o :: rest) a (W.alloc (.cells #[u] 24)) := by
  have hk : Kp W (W.alloc (.cells #[u] 24)) := (Kp.refl W).alloc _
  obtain ⟨v', w', hrun, h2, h3, h4⟩ := run_appg (W := W.alloc (.cells #[u] 24)) o.type base v rows r u ⟨W.heap.size, 0, none⟩ 1 1 (hown.kp hk) (hr.kp hk) (by rw [World.cell?_alloc_at _ _ _ _ rfl]; rfl) rfl hap (by simp; omega) hlen
  refine Lib.wpList_append_run _ hgd s x _ _ ho _ _ hs hx v' w' hrun (h v' w' h2 ((Turn.of_kp hk).trans (Turn.of_grown h3)) ?_)
  rcases h4 with e | e
  · exact .inl e
  · exact .inr (fun g hg => by have := e g hg; simp at this; omega)
theorem step_appg {ops : Array Oper} {o : Oper} {a : Act} {K : Act → World → Prop} {Q : Exit → Act → World → Prop} {E : Prop} {W : World} (hgd : o.guard = none) (s x : Operand)
    (ho : o.op = .call { callee := .builtin .append, args := #[s, x], argTypes := #[25, 25] }) {lo : Option Nat} (base : Nat) (v : Value) (rows : List (List Int)) (r : List Int) (u : Value) (ad : Addr)
    (hs : a.eval s = v) (hx : a.eval x = .slice (some ad) 1 1) (hown : GOwn W lo base v rows) (hr : RowP W lo u r) (hcell : W.cell? ad = some u) (hap : (r ≠ [] ∨ lo ≠ none) → ∀ g, u.ownBlock = some g → v.ownBlock ≠ some g) (hbase : base ≤ W.heap.size) (hlen : rows.length < 1048576)
    (h : ∀ v' w', GOwn w' lo base v' (rows ++ [r]) → Turn (fun i => v.ownBlock = some i) W w' → (v'.ownBlock = v.ownBlock ∨ ∀ g, v'.ownBlock = some g → W.heap.size ≤ g) → K (a.put o.dst v') w') :
    if Region.wanted o (yielded ops a.tmps) = true then Oper.wp Tryz.prog o a W K Q else E := by
  have hw : Region.wanted o (yielded ops a.tmps) = true := by simp [Region.wanted, hgd]
  rw [if_pos hw]
  obtain ⟨v', w', hrun, h2, h3, h4⟩ := run_appg (W := W) o.type base v rows r u ad 1 1 hown hr hcell rfl hap hbase hlen
  unfold Oper.wp execOp
  simp only [ho, resolve, invoke, builtin, Sem.run_bind, Sem.run_pure, Result.andThen_ok, List.map_toArray, List.map_cons, List.map_nil, hs, hx, hrun]
  exact h v' w' h2 (Turn.of_grown h3) h4
theorem step_appg_all {ops : Array Oper} {o : Oper} {a : Act} {K : Act → World → Prop} {Q : Exit → Act → World → Prop} {E : Prop} {W0 W : World} (hgd : o.guard = none) (s x : Operand)
    (ho : o.op = .call { callee := .builtin .append, args := #[s, x], argTypes := #[25, 25] }) {lo : Option Nat} (base : Nat) (v : Value) (rows rows2 : List (List Int)) (A : Option Addr) (m c : Nat)
    (hs : a.eval s = v) (hx : a.eval x = .slice A m c) (hown : GOwn W lo base v rows) (hy : RowsAt W0 lo A rows2) (hk : Kp W0 W) (hb0 : W0.heap.size ≤ base) (hym : rows2.length = m) (hbase : base ≤ W.heap.size) (hlen : rows.length + rows2.length ≤ 4194304)
    (h : ∀ v' w', GOwn w' lo base v' (rows ++ rows2) → Turn (fun i => v.ownBlock = some i) W w' → (v'.ownBlock = v.ownBlock ∨ ∀ g, v'.ownBlock = some g → W.heap.size ≤ g) → K (a.put o.dst v') w') :
    if Region.wanted o (yielded ops a.tmps) = true then Oper.wp Tryz.prog o a W K Q else E := by
  have hw : Region.wanted o (yielded ops a.tmps) = true := by simp [Region.wanted, hgd]
  rw [if_pos hw]
  obtain ⟨v', w', hrun, h2, h3, h4⟩ := run_appg_all (W := W) o.type base v rows rows2 A m c hown hy hk (fun k _ _ _ _ _ hu => apart_old hu hown hb0) hym hbase hlen
  unfold Oper.wp execOp
  simp only [ho, resolve, invoke, builtin, Sem.run_bind, Sem.run_pure, Result.andThen_ok, List.map_toArray, List.map_cons, List.map_nil, hs, hx, hrun]
  exact h v' w' h2 (Turn.of_grown h3) h4
/-- append of all rows in a plain region; the rows lie apart. -/
theorem wpl_appg_all {ops : Array Oper} {rest : List Oper} {o : Oper} {a : Act} {Q : Exit → Act → World → Prop} {W : World} (hgd : o.guard = none) (s x : Operand)
    (ho : o.op = .call { callee := .builtin .append, args := #[s, x], argTypes := #[25, 25] }) {lo : Option Nat} (base : Nat) (v : Value) (rows rows2 : List (List Int)) (A : Option Addr) (m c : Nat)
    (hs : a.eval s = v) (hx : a.eval x = .slice A m c) (hown : GOwn W lo base v rows) (hy : RowsAt W lo A rows2) (hap0 : ∀ k (hk : k < rows2.length) (ad : Addr) (u : Value), A = some ad → W.cell? (ad.add k) = some u → RowP W lo u rows2[k] → (rows2[k] ≠ [] ∨ lo ≠ none) → ∀ g, u.ownBlock = some g → v.ownBlock ≠ some g) (hym : rows2.length = m) (hbase : base ≤ W.heap.size) (hlen : rows.length + rows2.length ≤ 4194304)
    (h : ∀ v' w', GOwn w' lo base v' (rows ++ rows2) → Turn (fun i => v.ownBlock = some i) W w' → (v'.ownBlock = v.ownBlock ∨ ∀ g, v'.ownBlock = some g → W.heap.size ≤ g) → wpList Tryz.prog ops Q rest (a.put o.dst v') w') :
    wpList Tryz.prog ops Q (o :: rest) a W := by
  obtain ⟨v', w', hrun, h2, h3, h4⟩ := run_appg_all (W := W) o.type base v rows rows2 A m c hown hy (Kp.refl W) hap0 hym hbase hlen
  exact Lib.wpList_append_run _ hgd s x _ _ ho _ _ hs hx v' w' hrun (h v' w' h2 (Turn.of_grown h3) h4)
end Go.Proofs.YtpiijhfjliolfaaGreat

namespace Go.Proofs.YtpiijhfjliolfaaGreat
open Go.RowKit Go.Sort

/-- The slice of this address reads as n bytes. -/
def BytesAt (w : World) (A : Option Addr) (n : Nat) : Prop :=
  n ≤ 9223372036854775807 ∧ ∀ k, k < n → ∃ ad b, A = some ad ∧ w.cell? (ad.add k) = some (.int .u8 b) ∧ 0 ≤ b ∧ b < 256
theorem BytesAt.turn {S : Nat → Prop} {w w' : World} {A : Option Addr} {n : Nat} (h : BytesAt w A n) (ht : Turn S w w') (hn : ∀ ad, A = some ad → 0 < n → ¬ S ad.block) : BytesAt w' A n :=
  ⟨h.1, fun k hk => by
    obtain ⟨ad, b, e, hc, hb⟩ := h.2 k hk
    have hbk : ad.block < w.heap.size := by
      have := World.block_lt_of_cell? _ _ hc
      rwa [blk_add] at this
    refine ⟨ad, b, e, ?_, hb⟩
    have hk2 : w'.heap[(ad.add k).block]? = w.heap[(ad.add k).block]? := by rw [blk_add]; exact ht.block _ hbk (hn ad e (by omega))
    rw [World.cell?_of_block hk2]; exact hc⟩
theorem BytesAt.kp {w w' : World} {A : Option Addr} {n : Nat} (h : BytesAt w A n) (hk : Kp w w') : BytesAt w' A n :=
  h.turn (S := fun _ => False) (Turn.of_kp hk) (fun _ _ _ h => h)
/-- The cursor stands in block p; at most m bytes have been drawn. -/
structure Cur (w : World) (p m : Nat) : Prop where
  out : ∃ (A : Option Addr) (n c k : Nat) (s : Int), w.cell? ⟨p, 0, none⟩ = some (.slice A n c) ∧ w.cell? ⟨p, 1, none⟩ = some (.int .i64 (k : Int)) ∧ w.cell? ⟨p, 2, none⟩ = some (.int .u64 s) ∧ k ≤ m ∧ BytesAt w A n ∧ (∀ ad, A = some ad → 0 < n → ad.block < p)
  th : w.there p 0 3
theorem Cur.mono {w : World} {p m m' : Nat} (h : Cur w p m) (hm : m ≤ m') : Cur w p m' := by
  obtain ⟨A, n, c, k, s, h1, h2, h3, h4, h5, h6⟩ := h.out
  exact ⟨⟨A, n, c, k, s, h1, h2, h3, by omega, h5, h6⟩, h.th⟩
theorem turn_cellD {S : Nat → Prop} {w w' : World} {p : Addr} {v : Value} (ht : Turn S w w') (h : w.cell? p = some v) (hn : ¬ S p.block) : w'.cell? p = some v := by
  have hb := World.block_lt_of_cell? _ _ h
  rw [World.cell?_of_block (ht.block _ hb hn)]; exact h
theorem turn_frozD {S : Nat → Prop} {w w' : World} {p : Addr} (ht : Turn S w w') (hb : p.block < w.heap.size) (hn : ¬ S p.block) : w'.frozen? p = w.frozen? p := World.frozen?_of_block (w := w) (ht.block _ hb hn)
theorem turn_thereD {S : Nat → Prop} {w w' : World} {b o n : Nat} (ht : Turn S w w') (h : w.there b o n) (hn : ¬ S b) : w'.there b o n := fun j hj => by
  obtain ⟨h1, h2⟩ := h j hj
  obtain ⟨v, hv⟩ := Option.isSome_iff_exists.1 h1
  have hb := World.block_lt_of_cell? _ _ hv
  exact ⟨by rw [turn_cellD ht hv hn]; rfl, by rw [turn_frozD ht hb hn]; exact h2⟩
theorem Cur.turn {S : Nat → Prop} {w w' : World} {p m : Nat} (h : Cur w p m) (ht : Turn S w w') (hn : ∀ i, i ≤ p → ¬ S i) : Cur w' p m := by
  obtain ⟨A, n, c, k, s, h1, h2, h3, h4, h5, h6⟩ := h.out
  have hp : ¬ S p := hn p (Nat.le_refl _)
  exact ⟨⟨A, n, c, k, s, turn_cellD ht h1 hp, turn_cellD ht h2 hp, turn_cellD ht h3 hp, h4, h5.turn ht (fun ad e h0 => hn _ (Nat.le_of_lt (h6 ad e h0))), h6⟩, turn_thereD ht h.th hp⟩
theorem Cur.kp {w w' : World} {p m : Nat} (h : Cur w p m) (hk : Kp w w') : Cur w' p m := h.turn (S := fun _ => False) (Turn.of_kp hk) (fun _ _ h => h)
theorem Cur.lt {w : World} {p m : Nat} (h : Cur w p m) : p < w.heap.size := by
  obtain ⟨A, n, c, k, s, h1, _⟩ := h.out
  exact World.block_lt_of_cell? _ _ h1
/-- Nothing but the cursor has turned. -/
abbrev Tp (p : Nat) (w w' : World) : Prop := Turn (fun i => i = p) w w'
theorem cur_set {w : World} {p m k' : Nat} {s' z : Int} (hz : z = (k' : Int)) {A : Option Addr} {n c : Nat} (th : w.there p 0 3) (h0 : w.cell? ⟨p, 0, none⟩ = some (.slice A n c)) (hb : BytesAt w A n) (hp : ∀ ad, A = some ad → 0 < n → ad.block < p) (hk : k' ≤ m) :
    ((w.setCell ⟨p, 1, none⟩ (.int .i64 z)).setCell ⟨p, 2, none⟩ (.int .u64 s')).cell? ⟨p, 0, none⟩ = some (.slice A n c) ∧ ((w.setCell ⟨p, 1, none⟩ (.int .i64 z)).setCell ⟨p, 2, none⟩ (.int .u64 s')).cell? ⟨p, 1, none⟩ = some (.int .i64 z) ∧ ((w.setCell ⟨p, 1, none⟩ (.int .i64 z)).setCell ⟨p, 2, none⟩ (.int .u64 s')).cell? ⟨p, 2, none⟩ = some (.int .u64 s') ∧ Cur ((w.setCell ⟨p, 1, none⟩ (.int .i64 z)).setCell ⟨p, 2, none⟩ (.int .u64 s')) p m ∧ Tp p w ((w.setCell ⟨p, 1, none⟩ (.int .i64 z)).setCell ⟨p, 2, none⟩ (.int .u64 s')) := by
  have t1 : Tp p w (w.setCell ⟨p, 1, none⟩ (.int .i64 z)) := ⟨rfl, rfl, rfl, by simp [World.setCell], fun i _ hn => Below.heap_setCell _ _ _ _ hn⟩
  have t2 : Tp p (w.setCell ⟨p, 1, none⟩ (.int .i64 z)) ((w.setCell ⟨p, 1, none⟩ (.int .i64 z)).setCell ⟨p, 2, none⟩ (.int .u64 s')) := ⟨rfl, rfl, rfl, by simp [World.setCell], fun i _ hn => Below.heap_setCell _ _ _ _ hn⟩
  have c1 := (th 1 (by omega)).1
  have c2 := (th 2 (by omega)).1
  simp only [Nat.zero_add] at c1 c2
  have x0 : ((w.setCell ⟨p, 1, none⟩ (.int .i64 z)).setCell ⟨p, 2, none⟩ (.int .u64 s')).cell? ⟨p, 0, none⟩ = some (.slice A n c) := by
    rw [World.cell?_setCell_other _ _ _ _ (by intro h; cases h), World.cell?_setCell_other _ _ _ _ (by intro h; cases h)]; exact h0
  have x1 : ((w.setCell ⟨p, 1, none⟩ (.int .i64 z)).setCell ⟨p, 2, none⟩ (.int .u64 s')).cell? ⟨p, 1, none⟩ = some (.int .i64 z) := by
    rw [World.cell?_setCell_other _ _ _ _ (by intro h; cases h), World.cell?_setCell_same' _ _ _ c1]
  have x2 : ((w.setCell ⟨p, 1, none⟩ (.int .i64 z)).setCell ⟨p, 2, none⟩ (.int .u64 s')).cell? ⟨p, 2, none⟩ = some (.int .u64 s') := by
    rw [World.cell?_setCell_same' _ _ _ (by rw [World.cell?_setCell_other _ _ _ _ (by intro h; cases h)]; exact c2)]
  exact ⟨x0, x1, x2, ⟨⟨A, n, c, k', s', x0, by rw [← hz]; exact x1, x2, hk, hb.turn (t1.trans t2) (fun ad e h => by have := hp ad e h; omega), hp⟩, World.there_setCells (World.there_setCells th p 1 [_]) p 2 [_]⟩, t1.trans t2⟩
theorem wrap_u64_bd (x : Int) : 0 ≤ IntKind.u64.wrap x ∧ IntKind.u64.wrap x < 18446744073709551616 := by rw [IntKind.wrap_u64]; omega
theorem byte_bd {x : Int} (h : 0 ≤ x ∧ x < 18446744073709551616) : 0 ≤ wrap64 (bits BinOp.and IntKind.u64 (x / 1099511627776) 255) ∧ wrap64 (bits BinOp.and IntKind.u64 (x / 1099511627776) 255) < 256 := by
  have h1 := bits_mask .u64 63 (by decide) (fun n h0 h1 => by rw [IntKind.wrap_u64]; omega) 8 (by decide) (x / 1099511627776) (by omega) (by omega)
  have e : ((2 : Int) ^ 8 - 1) = 255 := by decide
  rw [e] at h1
  rw [h1, IntWalk.wrap64_in _ (by omega)]
  omega
set_option maxRecDepth 100000 in
set_option maxHeartbeats 1000000 in
theorem next_any (p m : Nat) (w : World) (hc : Cur w p m) (hm : m < 1099511627776) :
    Calls Tryz.prog 106 #[.pointer (some ⟨p, 0, none⟩)] w fun e w' => ∃ b : Int, e = .returned (.int .i64 b) ∧ (0 ≤ b ∧ b < 256) ∧ Cur w' p (m + 1) ∧ Tp p w w' := by
  obtain ⟨A, n, c, k, s, h0, h1, h2, hk, hb, hp⟩ := hc.out
  have th := hc.th
  have f1 := (th 1 (by omega)).2
  have f2 := (th 2 (by omega)).2
  simp only [Nat.zero_add] at f1 f2
  have hn := hb.1
  have kd : Kp w w.drew := (Kp.refl w).drew
  have q0 := kd.get h0
  have q1 := kd.get h1
  have q2 := kd.get h2
  have e1 : w.drew.frozen? ⟨p, 1, none⟩ = false := f1
  have e2 : w.drew.frozen? ⟨p, 2, none⟩ = false := f2
  have tq := turn_thereD (S := fun _ => False) (Turn.of_kp kd) th (fun h => h)
  have hbq := hb.kp kd
  have hk1 : IntKind.i64.wrap ((k : Int) + 1) = ((k + 1 : Nat) : Int) := by rw [IntWalk.i64_in _ (by omega)]; omega
  by_cases hlt : k < n
  · obtain ⟨ad, b, rfl, hcell, hb0⟩ := hb.2 k hlt
    have qc := kd.get hcell
    go_enter Tryz.func106, Tryz.ntmps106
    go_wp2_with fail
    go_still (by kernel_rfl)
    change Exit.then _ _ _ _ w.drew
    generalize w.drew = wa at *
    go_wp2_with fail
    go_still (by kernel_rfl)
    have kd2 : Kp wa wa.drew := (Kp.refl wa).drew
    have r0 := kd2.get q0
    have r1 := kd2.get q1
    have r2 := kd2.get q2
    have g1 : wa.drew.frozen? ⟨p, 1, none⟩ = false := e1
    have g2 : wa.drew.frozen? ⟨p, 2, none⟩ = false := e2
    have tr := turn_thereD (S := fun _ => False) (Turn.of_kp kd2) tq (fun h => h)
    have hbr := hbq.kp kd2
    change Exit.then _ _ _ _ wa.drew
    generalize wa.drew = wc at *
    go_wp2_with fail
    have hkt : Kp w wc := kd.trans kd2
    have hle : (k : Int) + 1 ≤ (n : Int) := by omega
    have hwb : IntKind.i64.wrap b = b := IntWalk.i64_in _ (by omega)
    obtain ⟨x0, x1, x2, x3, x4⟩ := cur_set (m := m + 1) (k' := k + 1) (z := (k : Int) + 1) (s' := IntKind.u64.wrap (IntKind.u64.wrap (IntKind.u64.wrap (s * 6364136223846793005) + b) + 462197)) (by push_cast; rfl) tr r0 hbr hp (by omega)
    clear q0 q1 q2 qc e1 e2 tq hbq r0 r1 r2 g1 g2 tr hbr kd kd2 h0 h1 h2 hc th hb hcell
    generalize (wc.setCell ⟨p, 1, none⟩ (.int .i64 ((k : Int) + 1))).setCell ⟨p, 2, none⟩ (.int .u64 (IntKind.u64.wrap (IntKind.u64.wrap (IntKind.u64.wrap (s * 6364136223846793005) + b) + 462197))) = wx at *
    go_still (by kernel_rfl)
    change Exit.then _ _ _ _ wx.drew
    go_wp2_with fail
    go_ret
    exact ⟨b, rfl, hb0, x3.kp (Kp.refl _).drew, ((Turn.of_kp hkt).trans x4).trans (Turn.of_kp (Kp.refl _).drew)⟩
  · go_enter Tryz.func106, Tryz.ntmps106
    go_wp2_with fail
    go_still (by kernel_rfl)
    change Exit.then _ _ _ _ w.drew
    generalize w.drew = wa at *
    go_wp2_with fail
    have hle : ¬ (k : Int) + 1 ≤ (n : Int) := by omega
    obtain ⟨x0, x1, x2, x3, x4⟩ := cur_set (m := m + 1) (k' := k + 1) (z := (k : Int) + 1) (s' := IntKind.u64.wrap (IntKind.u64.wrap (IntKind.u64.wrap (s * 6364136223846793005)) + 462197)) (by push_cast; rfl) tq q0 hbq hp (by omega)
    clear q0 q1 q2 e1 e2 tq hbq h0 h1 h2 hc th hb
    have hsv := wrap_u64_bd (IntKind.u64.wrap (IntKind.u64.wrap (s * 6364136223846793005)) + 462197)
    generalize IntKind.u64.wrap (IntKind.u64.wrap (IntKind.u64.wrap (s * 6364136223846793005)) + 462197) = sv at *
    generalize (wa.setCell ⟨p, 1, none⟩ (.int .i64 ((k : Int) + 1))).setCell ⟨p, 2, none⟩ (.int .u64 sv) = wx at *
    go_still (by kernel_rfl)
    have y2 := (Kp.refl wx).drew.get x2
    have x5 := x3.kp (Kp.refl wx).drew
    have x6 : Tp p w wx.drew := ((Turn.of_kp kd).trans x4).trans (Turn.of_kp (Kp.refl _).drew)
    change Exit.then _ _ _ _ wx.drew
    generalize wx.drew = wz at *
    go_wp2_with fail
    go_ret
    exact ⟨_, rfl, byte_bd hsv, x5, x6⟩
set_option maxRecDepth 100000 in
set_option maxHeartbeats 1000000 in
/-- A number below n (0 where n is at most 1). -/
theorem pick_any (p m : Nat) (n : Int) (w : World) (hc : Cur w p m) (hm : m < 1099511627774) (hn : n ≤ 4611686018427387904) :
    Calls Tryz.prog 64 #[.pointer (some ⟨p, 0, none⟩), .int .i64 n] w fun e w' => ∃ r : Int, e = .returned (.int .i64 r) ∧ (0 ≤ r ∧ (n ≤ 1 → r = 0) ∧ (1 ≤ n → r < n)) ∧ Cur w' p (m + 2) ∧ Tp p w w' := by
  by_cases h1 : n ≤ 1
  · go_enter Tryz.func64, Tryz.ntmps64
    go_wp2_with fail
    go_ret
    exact ⟨0, rfl, ⟨by omega, fun _ => rfl, fun _ => by omega⟩, hc.mono (by omega), Turn.refl _ _⟩
  · have CC := Lib.hid (next_any p m w hc (by omega))
    have hn0 : (n == 0) = false := by simp; omega
    go_enter Tryz.func64, Tryz.ntmps64
    go_wp2_with fail
    with_reducible refine Calls.mono CC.out ?_
    rintro e w1 ⟨b, rfl, hb, hc1, ht1⟩
    clear CC
    by_cases h2 : 200 < n
    · have CC := Lib.hid (next_any p (m + 1) w1 hc1 (by omega))
      have hwb : IntKind.i64.wrap (b * 256) = b * 256 := IntWalk.i64_in _ (by omega)
      go_wp2_with fail
      with_reducible refine Calls.mono CC.out ?_
      rintro e w2 ⟨b2, rfl, hb2, hc2, ht2⟩
      clear CC
      have hx : 0 ≤ b * 256 + b2 := by omega
      have hmod := Int.emod_nonneg (b * 256 + b2) (b := n) (by omega)
      have hlt := Int.emod_lt_of_pos (b * 256 + b2) (b := n) (by omega)
      have htm : (b * 256 + b2).tmod n = (b * 256 + b2) % n := Int.tmod_eq_emod_of_nonneg hx
      go_wp2_with fail
      go_ret
      exact ⟨_, rfl, ⟨hmod, fun h => absurd h (by omega), fun _ => hlt⟩, hc2, ht1.trans ht2⟩
    · have hmod := Int.emod_nonneg b (b := n) (by omega)
      have hlt := Int.emod_lt_of_pos b (b := n) (by omega)
      have htm : b.tmod n = b % n := Int.tmod_eq_emod_of_nonneg hb.1
      go_wp2_with fail
      go_ret
      exact ⟨_, rfl, ⟨hmod, fun h => absurd h (by omega), fun _ => hlt⟩, hc1.mono (by omega), ht1⟩
set_option maxRecDepth 100000 in
theorem one_any (p m : Nat) (n : Int) (w : World) (hc : Cur w p m) (hm : m < 1099511627774) (hn : n ≤ 4611686018427387904) :
    Calls Tryz.prog 66 #[.pointer (some ⟨p, 0, none⟩), .int .i64 n] w fun e w' => ∃ b : Bool, e = .returned (.bool b) ∧ Cur w' p (m + 2) ∧ Tp p w w' := by
  have CC := Lib.hid (pick_any p m n w hc hm hn)
  go_enter Tryz.func66, Tryz.ntmps66
  go_wp2_with fail
  with_reducible refine Calls.mono CC.out ?_
  rintro e w1 ⟨r, rfl, hr, hc1, ht1⟩
  clear CC
  go_wp2_with fail
  go_ret
  exact ⟨_, rfl, hc1, ht1⟩
set_option maxRecDepth 100000 in
set_option maxHeartbeats 1000000 in
theorem among_any (p m : Nat) (A : Option Addr) (xs : List Int) (L c : Nat) (w : World) (hc : Cur w p m) (hm : m < 1099511627774) (hx : IntsAt w A xs) (hl : xs.length = L) (h0 : 0 < L) (hL : L ≤ 1000) (hp : ∀ ad, A = some ad → ad.block ≠ p) :
    Calls Tryz.prog 63 #[.pointer (some ⟨p, 0, none⟩), .slice A L c] w fun e w' => ∃ r : Int, e = .returned (.int .i64 r) ∧ r ∈ xs ∧ Cur w' p (m + 2) ∧ Tp p w w' := by
  have Hl := Lib.hid hl
  clear hl
  have CC := Lib.hid (pick_any p m L w hc hm (by omega))
  go_enter Tryz.func63, Tryz.ntmps63
  go_wp2_with fail
  with_reducible refine Calls.mono CC.out ?_
  rintro e w1 ⟨r, rfl, ⟨hr0, hr1, hr2⟩, hc1, ht1⟩
  clear CC
  obtain ⟨q, rfl⟩ := Int.eq_ofNat_of_zero_le hr0
  have hq : q < L := by have := hr2 (by omega); omega
  have lq : q < xs.length := by rw [Hl.out]; exact hq
  obtain ⟨ad, rfl, hcell⟩ := hx.at_ lq
  have h2 := turn_cellD ht1 hcell (by rw [blk_add]; exact hp ad rfl)
  have hqI : (q : Int) < (L : Int) := by omega
  clear hr0 hr1 hr2
  go_wp2_with fail
  go_ret
  exact ⟨_, rfl, List.getElem_mem lq, hc1, ht1⟩
end Go.Proofs.YtpiijhfjliolfaaGreat

/- The set with the greatest gain of some sets: the program's closures, and the reference's loop. No condition. -/
import Derived.Test.YtbefnhagmejpcaaLists
import Derived.Test.YtbefnhagmejpcaaPay
import Derived.Test.YtbefnhagmejpcaaGain
import Derived.Test.YtbefnhagmejpcaaGrd
namespace Go.Proofs.Ytbefnhagmejpcaa
open Go.RowKit Go.Sort

def negG (F : Fld) (worth : Int) (S : List Int) : Int := -gainF F worth S
set_option maxHeartbeats 400000 in
theorem mostClo_any (F : Fld) (worth : Int) (A : Option Addr) (c : Nat) (B : Option Addr) (d : Nat) (p q : Nat) (w : World) (hf : FldAt w (.agg #[.slice A F.op.length c, .slice B F.di.length d]) F) (x0 : w.cell? ⟨p, 0, none⟩ = some (.slice A F.op.length c)) (x1 : w.cell? ⟨p, 1, none⟩ = some (.slice B F.di.length d)) (y0 : w.cell? ⟨q, 0, none⟩ = some (.int .i64 worth))
    (Av : Option Addr) (S : List Int) (n cv : Nat) (hS : IntsAt w Av S) (hn : S.length = n) (hg : goodF F = true) (hs : setB F S = true) (hw0 : 0 ≤ worth) (hw1 : worth ≤ 999) :
    Calls Try.prog 72 #[.slice Av n cv, .pointer (some ⟨p, 0, none⟩), .pointer (some ⟨q, 0, none⟩)] w fun e w' => e = .returned (.int .i64 (negG F worth S)) ∧ Kp w w' := by
  have CC := Lib.hid (gain_any _ F worth Av S n cv w hf hS hn hg hs hw0 hw1)
  obtain ⟨b1, b2⟩ := gainF_bd hg hw0 hw1 S
  have hd : Hid (negG F worth S = -gainF F worth S) := rfl
  generalize gainF F worth S = g at *
  clear hf hS hn hg hs
  go_enter Try.func72, Try.ntmps72
  go_wp2_with fail
  with_reducible refine Calls.mono CC.out ?_
  rintro e w1 ⟨rfl, hk1⟩
  clear CC
  go_wp2_with fail
  go_ret
  exact ⟨ret_int (by rw [hd.out] <;> first | omega | (rw [IntWalk.i64_in _ (by omega)] <;> omega)), hk1⟩
set_option maxHeartbeats 400000 in
theorem most_any (f : Value) (F : Fld) (worth : Int) (lo : Option Nat) (A0 : Option Addr) (rows : List (List Int)) (n c0 : Nat) (w : World) (hf : FldAt w f F) (h : RowsAt w lo A0 rows) (hn : rows.length = n) (h0 : 0 < n) (hg : goodF F = true) (hw0 : 0 ≤ worth) (hw1 : worth ≤ 999) (hq : ∀ S ∈ rows, setB F S = true) :
    Calls Try.prog 38 #[f, .int .i64 worth, .slice A0 n c0] w fun e w' => ∃ u, e = .returned u ∧ RowP w' lo u (bestL (negG F worth) rows) ∧ Kp w w' := by
  obtain ⟨A, c, B, d, rfl, hA, hB⟩ := hf
  have hk0 : Kp w ((w.alloc (.cells #[.slice A F.op.length c, .slice B F.di.length d] 29)).alloc (.cells #[.int .i64 worth] 3)) := ((Kp.refl w).alloc _).alloc _
  obtain ⟨d0, d1⟩ := box2 w (.slice A F.op.length c) (.slice B F.di.length d) 29
  have hFA := FldAt.kp (show FldAt w (.agg #[.slice A F.op.length c, .slice B F.di.length d]) F from ⟨A, c, B, d, rfl, hA, hB⟩) hk0
  have g0 := ((Kp.refl _).alloc (.cells #[.int .i64 worth] 3)).get d0
  have g1 := ((Kp.refl _).alloc (.cells #[.int .i64 worth] 3)).get d1
  have g2 : ((w.alloc (.cells #[.slice A F.op.length c, .slice B F.di.length d] 29)).alloc (.cells #[.int .i64 worth] 3)).cell? ⟨w.heap.size + 1, 0, none⟩ = some (.int .i64 worth) := by
    rw [World.cell?_alloc_at _ _ _ _ (by simp)]; rfl
  have hv : Val 72 #[] #[.pointer (some ⟨w.heap.size, 0, none⟩), .pointer (some ⟨w.heap.size + 1, 0, none⟩)] (negG F worth) (fun S => setB F S = true) ((w.alloc (.cells #[.slice A F.op.length c, .slice B F.di.length d] 29)).alloc (.cells #[.int .i64 worth] 3)) :=
    ⟨callFunc_of Try.func72 (by kernel_rfl) (by kernel_rfl), fun S Av cv w' hk hq hi _ => mostClo_any F worth A c B d w.heap.size (w.heap.size + 1) w' (hFA.kp hk) (hk.get g0) (hk.get g1) (hk.get g2) Av S S.length cv hi rfl hg hq hw0 hw1⟩
  have CC := Lib.hid (least_any 72 #[] #[.pointer (some ⟨w.heap.size, 0, none⟩), .pointer (some ⟨w.heap.size + 1, 0, none⟩)] (negG F worth) (fun S => setB F S = true) lo A0 rows n c0 _ (h.kp hk0) hn h0 hv hq)
  clear hA hB hv h hn hg hq hFA d0 d1 g0 g1 g2
  go_enter Try.func38, Try.ntmps38
  go_wp2_with fail
  with_reducible refine Calls.mono CC.out ?_
  rintro e w1 ⟨u, rfl, hu, hk1⟩
  clear CC
  go_wp2_with fail
  go_ret
  exact ⟨u, rfl, hu, hk0.trans hk1⟩
/-- At most so many. -/
theorem lenClo_any (k : Int) (q : Nat) (w : World) (y0 : w.cell? ⟨q, 0, none⟩ = some (.int .i64 k)) (Av : Option Addr) (S : List Int) (n cv : Nat) (hn : S.length = n) :
    Calls Try.prog 40 #[.slice Av n cv, .pointer (some ⟨q, 0, none⟩)] w fun e w' => e = .returned (.bool (decide ((S.length : Int) ≤ k))) ∧ Kp w w' := by
  subst hn
  go_enter Try.func40, Try.ntmps40
  go_wp2_with fail
  go_ret
  exact ⟨rfl, Kp.refl _⟩
set_option maxHeartbeats 400000 in
/-- At most so dear. -/
theorem affClo_any (F : Fld) (bud : Int) (A : Option Addr) (c : Nat) (B : Option Addr) (d : Nat) (p q : Nat) (w : World) (hf : FldAt w (.agg #[.slice A F.op.length c, .slice B F.di.length d]) F) (x0 : w.cell? ⟨p, 0, none⟩ = some (.slice A F.op.length c)) (x1 : w.cell? ⟨p, 1, none⟩ = some (.slice B F.di.length d)) (y0 : w.cell? ⟨q, 0, none⟩ = some (.int .i64 bud))
    (Av : Option Addr) (S : List Int) (n cv : Nat) (hS : IntsAt w Av S) (hn : S.length = n) (hg : goodF F = true) (hs : setB F S = true) :
    Calls Try.prog 74 #[.slice Av n cv, .pointer (some ⟨p, 0, none⟩), .pointer (some ⟨q, 0, none⟩)] w fun e w' => e = .returned (.bool (decide (payF F S ≤ bud))) ∧ Kp w w' := by
  have C1 := Lib.hid (fun (wx : World) (hx : Kp w wx) => payment_any _ F Av S n cv wx (hf.kp hx) (hS.kp hx) hn hg hs)
  clear hf hS hn hg hs
  have hkz : Kp w w := Kp.refl _
  go_enter Try.func74, Try.ntmps74
  go_wp2_with fail
  have q_x0 := hkz.get x0
  have q_x1 := hkz.get x1
  have q_y0 := hkz.get y0
  have tok1 : True := trivial
  go_wp2_with fail
  go_region_held3 (fun w' => w'.cell? ⟨p, 0, none⟩ = some (.slice A F.op.length c) ∧ w'.cell? ⟨p, 1, none⟩ = some (.slice B F.di.length d) ∧ w'.cell? ⟨q, 0, none⟩ = some (.int .i64 bud) ∧ Kp w w')
    (first | (refine keepc3 x0 x1 y0 ?_; exact (by repeat (first | with_reducible assumption | with_reducible exact Kp.refl _ | with_reducible refine Kp.drew ?_ | with_reducible refine Kp.alloc ?_ _ | with_reducible refine Kp.drewN ?_ _))) | fail)
    (first
      | (have _t := tok1; go_at_call 75; with_reducible refine Calls.mono (C1.out _ (by repeat (first | with_reducible assumption | with_reducible exact Kp.refl _ | with_reducible refine Kp.drew ?_ | with_reducible refine Kp.alloc ?_ _ | with_reducible refine Kp.drewN ?_ _))) ?_; rintro e wr1 ⟨rfl, hka⟩; have hr1 : Kp w wr1 := Kp.trans (by repeat (first | with_reducible assumption | with_reducible exact Kp.refl _ | with_reducible refine Kp.drew ?_ | with_reducible refine Kp.alloc ?_ _ | with_reducible refine Kp.drewN ?_ _)) hka; have tok2 : True := trivial; clear tok1 _t)
      | fail)
  all_goals
    go_wp2_with fail
    go_ret
    exact ⟨rfl, hr1⟩
set_option maxHeartbeats 400000 in
theorem affords_any (f : Value) (F : Fld) (bud : Int) (w : World) (hf : FldAt w f F) (hg : goodF F = true) :
    Calls Try.prog 45 #[f, .int .i64 bud] w fun e w' => ∃ caps, e = .returned (.func (.func 74) #[] caps) ∧ Tells 74 #[] caps (fun S => decide (payF F S ≤ bud)) (fun S => setB F S = true) w' ∧ Kp w w' := by
  obtain ⟨A, c, B, d, rfl, hA, hB⟩ := hf
  have hk0 : Kp w ((w.alloc (.cells #[.slice A F.op.length c, .slice B F.di.length d] 29)).alloc (.cells #[.int .i64 bud] 3)) := ((Kp.refl w).alloc _).alloc _
  obtain ⟨d0, d1⟩ := box2 w (.slice A F.op.length c) (.slice B F.di.length d) 29
  have hFA := FldAt.kp (show FldAt w (.agg #[.slice A F.op.length c, .slice B F.di.length d]) F from ⟨A, c, B, d, rfl, hA, hB⟩) hk0
  have g0 := ((Kp.refl _).alloc (.cells #[.int .i64 bud] 3)).get d0
  have g1 := ((Kp.refl _).alloc (.cells #[.int .i64 bud] 3)).get d1
  have g2 : ((w.alloc (.cells #[.slice A F.op.length c, .slice B F.di.length d] 29)).alloc (.cells #[.int .i64 bud] 3)).cell? ⟨w.heap.size + 1, 0, none⟩ = some (.int .i64 bud) := by
    rw [World.cell?_alloc_at _ _ _ _ (by simp)]; rfl
  have hv := Lib.hid (show Tells 74 #[] #[.pointer (some ⟨w.heap.size, 0, none⟩), .pointer (some ⟨w.heap.size + 1, 0, none⟩)] (fun S => decide (payF F S ≤ bud)) (fun S => setB F S = true) ((w.alloc (.cells #[.slice A F.op.length c, .slice B F.di.length d] 29)).alloc (.cells #[.int .i64 bud] 3)) from
    ⟨callFunc_of Try.func74 (by kernel_rfl) (by kernel_rfl), fun S Av cv w' hk hq hi _ => affClo_any F bud A c B d w.heap.size (w.heap.size + 1) w' (hFA.kp hk) (hk.get g0) (hk.get g1) (hk.get g2) Av S S.length cv hi rfl hg hq⟩)
  clear hA hB hg hFA d0 d1 g0 g1 g2
  go_enter Try.func45, Try.ntmps45
  go_wp2_with fail
  go_ret
  exact ⟨_, rfl, hv.out, hk0⟩
/-- What the reference picks: the first one with the greatest gain of those that pass, the set without sites if none has more. -/
def pkTo (p : List Int → Bool) (v : List Int → Int) (rows : List (List Int)) (k : Nat) : List Int := (rows.take k).foldl (fun b s => if p s = true then bestStep v b s else b) []
theorem pk_yes {p : List Int → Bool} {v : List Int → Int} {rows : List (List Int)} {k : Nat} (hk : k < rows.length) (h : p rows[k] = true) (h2 : v rows[k] < v (pkTo p v rows k)) : pkTo p v rows (k + 1) = rows[k] := by
  unfold pkTo at *
  rw [List.take_succ_eq_append_getElem hk, List.foldl_append, List.foldl_cons, List.foldl_nil, if_pos h]
  exact if_pos h2
theorem pk_no {p : List Int → Bool} {v : List Int → Int} {rows : List (List Int)} {k : Nat} (hk : k < rows.length) (h : ¬ (p rows[k] = true ∧ v rows[k] < v (pkTo p v rows k))) : pkTo p v rows (k + 1) = pkTo p v rows k := by
  unfold pkTo at *
  rw [List.take_succ_eq_append_getElem hk, List.foldl_append, List.foldl_cons, List.foldl_nil]
  by_cases h1 : p rows[k] = true
  · rw [if_pos h1]
    exact if_neg (fun h2 => h ⟨h1, h2⟩)
  · rw [if_neg h1]
theorem pk_all {p : List Int → Bool} {v : List Int → Int} {n : Nat} (h : p [] = true) : pkTo p v (allS n) (allS n).length = bestL v ((allS n).filter p) := by
  unfold pkTo bestL
  rw [List.take_length, List.foldl_filter]
  have e : ((allS n).filter p).getD 0 [] = [] := by simp [allS, h]
  rw [e]
theorem pk_mem {p : List Int → Bool} {v : List Int → Int} {n : Nat} : ∀ k, k ≤ (allS n).length → pkTo p v (allS n) k ∈ allS n
  | 0, _ => by simp [pkTo, allS]
  | k + 1, hk => by
    have hk' : k < (allS n).length := by omega
    by_cases h : p (allS n)[k] = true ∧ v (allS n)[k] < v (pkTo p v (allS n) k)
    · rw [pk_yes hk' h.1 h.2]; exact List.getElem_mem _
    · rw [pk_no hk' h]; exact pk_mem k (by omega)
end Go.Proofs.Ytbefnhagmejpcaa

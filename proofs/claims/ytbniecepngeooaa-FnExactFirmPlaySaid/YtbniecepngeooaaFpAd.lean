/- Gains of sets: the program's answer and the reference's; Marginal gains and greedy choices: plain words; l1Put of a nil list, and of any list; what a site adds, as the reference tells it; The play of two firms, in plain Lean; slices.Sort and slices.Reverse of a slice of numbers of the call's own: laid (by layp.py), and what they leave. No condition. -/
import Derived.Test.YtbniecepngeooaaFpAc
import Derived.WalkLawsBesides
import Derived.Test.YtbniecepngeooaaFpAa
import Derived.Shelf.Sort.Plain
import Derived.Shelf.Slices.Reverse
import Derived.Lib.OwnBridge
import Derived.Lib.AppendIntMem
namespace Go.Proofs.Ytbniecepngeooaa
open Go.RowKit Go.Sort

def mapTo (g : Nat → Int) (k : Nat) : List Int := (List.range k).map g
theorem mapTo_len (g : Nat → Int) (k : Nat) : (mapTo g k).length = k := by simp [mapTo]
theorem mapTo_succ (g : Nat → Int) (k : Nat) : mapTo g (k + 1) = mapTo g k ++ [g k] := by simp [mapTo, List.range_succ]
theorem mapTo_get {g : Nat → Int} {k i : Nat} (h : i < k) (h' : i < (mapTo g k).length) : (mapTo g k)[i] = g i := by simp [mapTo]
def sumTo (g : Nat → Int) (k : Nat) : Int := (mapTo g k).sum
theorem sumTo_zero (g : Nat → Int) : sumTo g 0 = 0 := rfl
theorem sumTo_succ (g : Nat → Int) (k : Nat) : sumTo g (k + 1) = sumTo g k + g k := by simp [sumTo, mapTo_succ]
theorem sumTo_bd {g : Nat → Int} {b : Int} (h : ∀ i, 0 ≤ g i ∧ g i ≤ b) : ∀ k : Nat, 0 ≤ sumTo g k ∧ sumTo g k ≤ k * b
  | 0 => by simp [sumTo_zero]
  | k + 1 => by
    have h1 := sumTo_bd h k
    have h2 := h k
    rw [sumTo_succ]
    have h3 : ((k + 1 : Nat) : Int) * b = k * b + b := by
      rw [Int.natCast_add, Int.add_mul]; simp
    omega

theorem dAt_bd {F : Fld} (h : goodF F = true) {i : Nat} (hi : i < F.di.length) (a : Int) : 0 ≤ dAt F i a ∧ dAt F i a ≤ 99 := by
  have e : F.di.getD i [] = F.di[i] := by simp [List.getD, hi]
  rw [dAt, e]
  by_cases ha : a.toNat < F.di[i].length
  · have := ((goodF_iff.1 h).2.2.2 _ (List.getElem_mem hi)).1 _ (List.getElem_mem ha)
    simpa [List.getD, ha] using this
  · simp [List.getD, ha]

/-- What client i brings. -/
def gainAt (F : Fld) (worth : Int) (S : List Int) (i : Nat) : Int := max 0 (worth - nearF F i S)
def gainF (F : Fld) (worth : Int) (S : List Int) : Int := if S = [] then 0 else sumTo (gainAt F worth S) F.di.length
theorem gainF_nil {F : Fld} {worth : Int} : gainF F worth [] = 0 := if_pos rfl
theorem gainF_cons {F : Fld} {worth : Int} {S : List Int} (h : S ≠ []) : gainF F worth S = sumTo (gainAt F worth S) F.di.length := if_neg h
theorem siteF_bd {F : Fld} {S : List Int} (hs : setB F S = true) (hne : S ≠ []) (i : Nat) : 0 ≤ siteF F i S ∧ siteF F i S < F.op.length := set_mem hs _ (siteF_mem hne)

set_option maxRecDepth 100000 in
set_option maxHeartbeats 1000000 in
theorem l2Nearest_any (f : Value) (F : Fld) (i : Nat) (A0 : Option Addr) (S : List Int) (n c0 : Nat) (w : World) (hf : FldAt w f F) (hS : IntsAt w A0 S) (hn : S.length = n) (hg : goodF F = true) (hs : setB F S = true) (hne : S ≠ []) (hi : i < F.di.length) :
    Calls Try.prog 81 #[f, .int .i64 i, .slice A0 n c0] w fun e w' => e = .returned (.int .i64 (nearF F i S)) ∧ Kp w w' := by
  obtain ⟨A, c, B, d, rfl, hA, hB⟩ := hf
  have hk0 : Kp w (w.alloc (.cells #[.slice A F.op.length c, .slice B F.di.length d] 29)) := (Kp.refl w).alloc _
  obtain ⟨d0, d1⟩ := box2 w (.slice A F.op.length c) (.slice B F.di.length d) 29
  have hFA := FldAt.kp (show FldAt w (.agg #[.slice A F.op.length c, .slice B F.di.length d]) F from ⟨A, c, B, d, rfl, hA, hB⟩) hk0
  have hS0 := hS.kp hk0
  have Hn := Lib.hid hn; clear hn
  obtain ⟨bd, A', c', hBe, hcr, hr⟩ := (hB.kp hk0).at_ hi
  subst hBe
  obtain ⟨s0, s1⟩ := siteF_bd hs hne i
  have hrl := goodRow hg hi
  rw [← hrl] at s1
  have hpl : 0 < F.di[i].length := by omega
  obtain ⟨rd, hAe, _⟩ := hr.at_ hpl
  subst hAe
  have hdc := dCell hi hr s0 s1
  clear hrl
  go_enter Try.func81, Try.ntmps81
  go_wp2_with fail
  generalize w.alloc (.cells #[.slice A F.op.length c, .slice (some bd) F.di.length d] 29) = wb at *
  have Cv := Lib.hid (fun (dd : Nat) (os : Array Obj) => Calls.regrown_of (l2Site_any _ F i A0 S n c0 _ (hFA.kp (kp_rg wb dd os)) (hS0.kp (kp_rg wb dd os)) Hn.out hg hs hne hi))
  have q0 := cell_regrown d0; have q1 := cell_regrown d1; have q2 := cell_regrown hcr; have q3 := cell_regrown hdc
  have hil : i < F.di.length := hi
  clear hS hS0 hFA hB hA
  refine wp_region_quiet_below (by kernel_rfl) (by kernel_rfl) ?_
  repeat (quiet_step (with_reducible exact Cv.out _ _))
  refine wpQuiet_nil ?_
  intro wq hw'
  have hkq := kp_of_rg hw'
  clear hw'
  go_wp2_with fail
  go_ret
  exact ⟨rfl, hk0.trans hkq⟩

set_option maxHeartbeats 1000000 in
theorem served_any (f : Value) (F : Fld) (A0 : Option Addr) (S : List Int) (n c0 : Nat) (w : World) (hf : FldAt w f F) (hS : IntsAt w A0 S) (hn : S.length = n) (hg : goodF F = true) (hs : setB F S = true) (hne : S ≠ []) :
    Calls Try.prog 58 #[f, .slice A0 n c0] w fun e w' => ∃ v, e = .returned v ∧ Own w' w.heap.size v (mapTo (fun i => siteF F i S) F.di.length) ∧ Kp w w' := by
  obtain ⟨A, c, B, d, rfl, hA, hB⟩ := hf
  have hk0 : Kp w (w.alloc (.cells #[.slice A F.op.length c, .slice B F.di.length d] 29)) := (Kp.refl w).alloc _
  obtain ⟨d0, d1⟩ := box2 w (.slice A F.op.length c) (.slice B F.di.length d) 29
  have hFA := FldAt.kp (show FldAt w (.agg #[.slice A F.op.length c, .slice B F.di.length d]) F from ⟨A, c, B, d, rfl, hA, hB⟩) hk0
  have hS0 := hS.kp hk0
  have Hn := Lib.hid hn; clear hn
  have hd7 := (goodF_iff.1 hg).2.2.1
  have Hg := Lib.hid hg; have Hs := Lib.hid hs; have Hne := Lib.hid hne
  clear hg hs hne hA hB hS
  have hs1 : w.heap.size + 1 ≤ (w.alloc (.cells #[.slice A F.op.length c, .slice B F.di.length d] 29)).heap.size := by simp
  have hs2 : (w.alloc (.cells #[.slice A F.op.length c, .slice B F.di.length d] 29)).heap.size ≤ w.heap.size + 1 := by simp
  go_enter Try.func58, Try.ntmps58
  go_wp2_with fail
  generalize w.alloc (.cells #[.slice A F.op.length c, .slice B F.di.length d] 29) = wb at *
  have ho0 := own_new0 wb (w.heap.size + 1) hs1
  rw [Nat.le_antisymm hs2 hs1] at ho0
  go_loopw [5, 11] (fun ov ix wr => ∃ k : Nat, k ≤ F.di.length ∧ ix = .int .i64 k ∧ Own wr (w.heap.size + 1) ov (mapTo (fun i => siteF F i S) k) ∧ Kp wb wr) (fun _ ix _ => F.di.length - (intOf ix).toNat)
  case atStart => exact ⟨0, by omega, rfl, ho0, (Kp.refl wb).alloc _⟩
  case round =>
    obtain ⟨k, hk, rfl, hown, hkp⟩ := hrel
    have e0 := hkp.get d0; have e1 := hkp.get d1
    by_cases hlt : k < F.di.length
    · go_wp2_with fail
      have CC := Lib.hid (server_any _ F k A0 S n c0 wr (hFA.kp hkp) (hS0.kp hkp) Hn.out Hg.out Hs.out Hne.out hlt)
      with_reducible refine Calls.mono CC.out ?_
      rintro e w1 ⟨rfl, hk1⟩
      clear CC
      have ho2 := hown.kp hk1
      have hk3 := hkp.trans hk1
      have hbl : w.heap.size + 1 ≤ w1.heap.size := Nat.le_trans hs1 hk3.le
      have hlen := Lib.hid (mapTo_len (fun i => siteF F i S) k)
      have hlen2 : (mapTo (fun i => siteF F i S) k).length < 1048576 := by rw [hlen.out]; omega
      go_wp2_with (at_builtin; refine wpl_app rfl (.tmp 14) (.tmp 19) rfl (w.heap.size + 1) _ (mapTo (fun i => siteF F i S) k) (siteF F k S) rfl rfl ho2 hbl hlen2 ?_; intro v' w' ho' ht' _; have hk4 := ho2.kp_turn hk3 hs2 ht')
      go_roundw
      case rel => exact ⟨k + 1, by omega, by go_num, by rw [mapTo_succ]; exact ho', hk4⟩
      case measure => simp [intOf]; omega
    · obtain rfl : k = F.di.length := by omega
      go_wp2_with fail
      go_ret
      exact ⟨_, rfl, hown.mono (Nat.le_succ _), hk0.trans hkp⟩

set_option maxHeartbeats 1000000 in
theorem lengths_any (f : Value) (F : Fld) (A0 : Option Addr) (S : List Int) (n c0 : Nat) (w : World) (hf : FldAt w f F) (hS : IntsAt w A0 S) (hn : S.length = n) (hg : goodF F = true) (hs : setB F S = true) (hne : S ≠ []) :
    Calls Try.prog 101 #[f, .slice A0 n c0] w fun e w' => ∃ v, e = .returned v ∧ Own w' w.heap.size v (mapTo (fun i => nearF F i S) F.di.length) ∧ Kp w w' := by
  obtain ⟨A, c, B, d, rfl, hA, hB⟩ := hf
  have hk0 : Kp w (w.alloc (.cells #[.slice A F.op.length c, .slice B F.di.length d] 29)) := (Kp.refl w).alloc _
  obtain ⟨d0, d1⟩ := box2 w (.slice A F.op.length c) (.slice B F.di.length d) 29
  have hFA := FldAt.kp (show FldAt w (.agg #[.slice A F.op.length c, .slice B F.di.length d]) F from ⟨A, c, B, d, rfl, hA, hB⟩) hk0
  have hS0 := hS.kp hk0
  have hB0 := hB.kp hk0
  have Hn := Lib.hid hn; clear hn
  have hd7 := (goodF_iff.1 hg).2.2.1
  have Hg := Lib.hid hg; have Hs := Lib.hid hs; have Hne := Lib.hid hne
  clear hg hs hne hA hB hS
  have hs1 : w.heap.size + 1 ≤ (w.alloc (.cells #[.slice A F.op.length c, .slice B F.di.length d] 29)).heap.size := by simp
  have hs2 : (w.alloc (.cells #[.slice A F.op.length c, .slice B F.di.length d] 29)).heap.size ≤ w.heap.size + 1 := by simp
  go_enter Try.func101, Try.ntmps101
  go_wp2_with fail
  generalize w.alloc (.cells #[.slice A F.op.length c, .slice B F.di.length d] 29) = wb at *
  have ho0 := own_new0 wb (w.heap.size + 1) hs1
  rw [Nat.le_antisymm hs2 hs1] at ho0
  have hkn := (Kp.refl wb).alloc (.cells #[] 3)
  have CC := Lib.hid (served_any _ F A0 S n c0 _ (hFA.kp hkn) (hS0.kp hkn) Hn.out Hg.out Hs.out Hne.out)
  with_reducible refine Calls.mono CC.out ?_
  rintro e w1 ⟨v, rfl, hov, hk1⟩
  clear CC
  obtain ⟨Av, cv, rfl, hiv⟩ := hov.ints (by rw [mapTo_len]; omega)
  have hk2 := hkn.trans hk1
  have ho1 := ho0.kp hk1
  have hap : Apart (.slice (some ⟨w.heap.size + 1, 0, none⟩) 0 0) (.slice Av (mapTo (fun i => siteF F i S) F.di.length).length cv) := by
    intro g hg e
    have := (hov.lt g e).1
    simp [Value.ownBlock] at hg this
    omega
  have Hl := Lib.hid (mapTo_len (fun i => siteF F i S) F.di.length)
  obtain ⟨N, hN⟩ : ∃ N, N = (mapTo (fun i => siteF F i S) F.di.length).length := ⟨_, rfl⟩
  have HN : Hid (N = F.di.length) := by show N = _; rw [hN]; exact Hl.out
  rw [← hN] at hov hap ⊢
  have hNl : N ≤ F.di.length := by rw [HN.out]; exact Nat.le_refl _
  have hNg : F.di.length ≤ N := by rw [HN.out]; exact Nat.le_refl _
  clear hN hiv
  go_wp2_with fail
  go_loopw [5, 13] (fun ov ix wr => ∃ k : Nat, k ≤ N ∧ ix = .int .i64 k ∧ Own wr (w.heap.size + 1) ov (mapTo (fun i => nearF F i S) k) ∧ Kp wb wr ∧ Own wr (wb.alloc (.cells #[] 3)).heap.size (.slice Av N cv) (mapTo (fun i => siteF F i S) F.di.length) ∧ Apart ov (.slice Av N cv)) (fun _ ix _ => N - (intOf ix).toNat)
  case atStart => exact ⟨0, by omega, rfl, ho1, hk2, hov, hap⟩
  case round =>
    obtain ⟨k, hk, rfl, hown, hkp, hiw, hap⟩ := hrel
    have e0 := hkp.get d0; have e1 := hkp.get d1
    by_cases hlt : k < N
    · have hltd : k < F.di.length := by omega
      have lx : k < (mapTo (fun i => siteF F i S) F.di.length).length := by rw [mapTo_len]; exact hltd
      obtain ⟨ad, rfl, hc⟩ := (hiw.intsOf (by rw [mapTo_len]; omega)).at_ lx
      rw [mapTo_get hltd] at hc
      obtain ⟨bd, A2, c2, rfl, hcr, hr⟩ := (hB0.kp hkp).at_ hltd
      obtain ⟨s0, s1⟩ := siteF_bd Hs.out Hne.out k
      have hrl := goodRow Hg.out hltd
      rw [← hrl] at s1
      clear hrl
      have hpl : 0 < F.di[k].length := by omega
      obtain ⟨rd, rfl, _⟩ := hr.at_ hpl
      have hdc := dCell hltd hr s0 s1
      have hbl : w.heap.size + 1 ≤ wr.heap.size := Nat.le_trans hs1 hkp.le
      have hlen := Lib.hid (mapTo_len (fun i => nearF F i S) k)
      have hlen2 : (mapTo (fun i => nearF F i S) k).length < 1048576 := by rw [hlen.out]; omega
      go_wp2_with (at_builtin; refine wpl_app rfl (.tmp 18) (.tmp 27) rfl (w.heap.size + 1) _ (mapTo (fun i => nearF F i S) k) (dAt F k (siteF F k S)) rfl rfl hown hbl hlen2 ?_; intro v' w' ho' ht' h4'; have hk4 := hown.kp_turn hkp hs2 ht'; have hi4 := hiw.apart_turn hap ht'; have ha4 := hap.grow hiw h4')
      go_roundw
      case rel => exact ⟨k + 1, by omega, by go_num, by rw [mapTo_succ]; exact ho', hk4, hi4, ha4⟩
      case measure => simp [intOf]; omega
    · obtain rfl : k = N := by omega
      go_wp2_with fail
      go_ret
      exact ⟨_, rfl, by rw [← HN.out]; exact hown.mono (Nat.le_succ _), hk0.trans hkp⟩

theorem l1Most_any (a b : Int) (w : World) :
    Calls Try.prog 42 #[.int .i64 a, .int .i64 b] w fun e w' => e = .returned (.int .i64 (max a b)) ∧ w = w' := by
  go_enter Try.func42, Try.ntmps42
  go_wp2
  all_goals go_ret
  all_goals exact ⟨ret_int (by omega), rfl⟩
theorem gainAt_if {F : Fld} {worth : Int} {S : List Int} {i : Nat} : (if nearF F i S < worth then worth - nearF F i S else 0) = gainAt F worth S i := by
  unfold gainAt; split <;> omega
theorem gainAt_bd {F : Fld} {worth : Int} {S : List Int} (hw0 : 0 ≤ worth) (hw : worth ≤ 999) (hn : ∀ i, 0 ≤ nearF F i S) (i : Nat) : 0 ≤ gainAt F worth S i ∧ gainAt F worth S i ≤ 999 := by
  have := hn i
  unfold gainAt; omega
theorem nearF_bd {F : Fld} (hg : goodF F = true) (S : List Int) (i : Nat) : 0 ≤ nearF F i S ∧ nearF F i S ≤ 99 := by
  by_cases hi : i < F.di.length
  · exact dAt_bd hg hi _
  · have e : F.di.getD i [] = [] := by simp [List.getD, List.getElem?_eq_none (by omega : F.di.length ≤ i)]
    rw [nearF, dAt, e]; simp

def worthB (worth : Int) : Bool := inB worth 0 999
def gainOk (F : Fld) (worth : Int) (S : List Int) : Bool := goodF F && worthB worth && setB F S
def gainR (F : Fld) (worth : Int) (S : List Int) : Int := if gainOk F worth S = true then gainF F worth S else 0
theorem gainR_no {F : Fld} {worth : Int} {S : List Int} (h : gainOk F worth S = false) : Ending.returned (.tuple #[.int .i64 (gainR F worth S), .bool (gainOk F worth S)]) = .returned (.tuple #[.int .i64 0, .bool false]) := by
  simp [gainR, h]
theorem gainR_yes {F : Fld} {worth : Int} {S : List Int} (h : gainOk F worth S = true) : Ending.returned (.tuple #[.int .i64 (gainR F worth S), .bool (gainOk F worth S)]) = .returned (.tuple #[.int .i64 (gainF F worth S), .bool true]) := by
  simp [gainR, h]
theorem gainOk_parts {F : Fld} {worth : Int} {S : List Int} (h : gainOk F worth S = true) : goodF F = true ∧ setB F S = true ∧ 0 ≤ worth ∧ worth ≤ 999 := by
  simp only [gainOk, Bool.and_eq_true, worthB, inB_iff] at h
  exact ⟨h.1.1, h.2, h.1.2.1, h.1.2.2⟩

end Go.Proofs.Ytbniecepngeooaa

namespace Go.Proofs.Ytbniecepngeooaa
open Go.RowKit Go.Sort

theorem mem_putL {S : List Int} {a x : Int} : x ∈ putL S a ↔ x ∈ S ∨ x = a := by
  unfold putL
  by_cases h : a ∈ S
  · rw [if_pos h]
    constructor
    · exact .inl
    · rintro (h' | rfl)
      · exact h'
      · exact h
  · rw [if_neg h]
    have e : x ∈ S ↔ x ∈ S.takeWhile (· < a) ∨ x ∈ S.dropWhile (· < a) := by
      conv => lhs; rw [← List.takeWhile_append_dropWhile (p := fun y => decide (y < a)) (l := S)]
      rw [List.mem_append]
    rw [List.mem_append, List.mem_cons, e]
    constructor
    · rintro (h | h | h)
      · exact .inl (.inl h)
      · exact .inr h
      · exact .inl (.inr h)
    · rintro ((h | h) | h)
      · exact .inl h
      · exact .inr (.inr h)
      · exact .inr (.inl h)
theorem drop_gt : ∀ {S : List Int} {a : Int}, S.Pairwise (· < ·) → a ∉ S → ∀ x ∈ S.dropWhile (· < a), a < x
  | [], _, _, _, x, hx => by simp at hx
  | y :: t, a, hs, hn, x, hx => by
    rw [List.pairwise_cons] at hs
    simp only [List.mem_cons, not_or] at hn
    rw [List.dropWhile_cons] at hx
    by_cases h : y < a
    · rw [if_pos (by simpa using h)] at hx
      exact drop_gt hs.2 hn.2 x hx
    · rw [if_neg (by simpa using h)] at hx
      rcases List.mem_cons.1 hx with rfl | hx
      · omega
      · have := hs.1 x hx; omega
theorem take_lt {S : List Int} {a : Int} : ∀ x ∈ S.takeWhile (· < a), x < a := by
  induction S with
  | nil => intro x hx; simp at hx
  | cons y t ih =>
    intro x hx
    rw [List.takeWhile_cons] at hx
    by_cases h : y < a
    · rw [if_pos (by simpa using h)] at hx
      rcases List.mem_cons.1 hx with rfl | hx
      · exact h
      · exact ih x hx
    · rw [if_neg (by simpa using h)] at hx
      simp at hx
theorem putL_sorted {S : List Int} (hs : S.Pairwise (· < ·)) (a : Int) : (putL S a).Pairwise (· < ·) := by
  unfold putL
  by_cases h : a ∈ S
  · rw [if_pos h]; exact hs
  · rw [if_neg h, List.pairwise_append, List.pairwise_cons]
    have hd := drop_gt hs h
    refine ⟨hs.sublist (List.takeWhile_sublist _), ⟨hd, hs.sublist (List.dropWhile_sublist _)⟩, fun x hx y hy => ?_⟩
    have h1 := take_lt x hx
    rcases List.mem_cons.1 hy with rfl | hy
    · exact h1
    · have := hd y hy; omega
theorem putL_len (S : List Int) (a : Int) : (putL S a).length ≤ S.length + 1 := by
  unfold putL
  by_cases h : a ∈ S
  · rw [if_pos h]; omega
  · rw [if_neg h, List.length_append, List.length_cons]
    have : S.length = (S.takeWhile (· < a)).length + (S.dropWhile (· < a)).length := by
      conv => lhs; rw [← List.takeWhile_append_dropWhile (p := fun y => decide (y < a)) (l := S), List.length_append]
    omega
theorem putL_new {S : List Int} {a : Int} (h : a ∉ S) : (putL S a).length = S.length + 1 := by
  unfold putL
  rw [if_neg h, List.length_append, List.length_cons]
  have : S.length = (S.takeWhile (· < a)).length + (S.dropWhile (· < a)).length := by
    conv => lhs; rw [← List.takeWhile_append_dropWhile (p := fun y => decide (y < a)) (l := S), List.length_append]
  omega
theorem setB_nil (F : Fld) : setB F [] = true := rfl
theorem setB_put {F : Fld} {S : List Int} {a : Int} (h : setB F S = true) (h0 : 0 ≤ a) (h1 : a < F.op.length) : setB F (putL S a) = true := by
  have hr := ris_iff.1 h
  refine ris_iff.2 ⟨putL_sorted hr.1 a, fun x hx => ?_⟩
  rcases mem_putL.1 hx with hx | rfl
  · exact hr.2 x hx
  · omega
theorem setB_len {F : Fld} {S : List Int} (h : setB F S = true) : S.length ≤ F.op.length := by
  rw [← set_bits h]; exact bitsL_len _ _
theorem bits_any {n b a : Nat} (ha : a < n) : (bitsL n b).any (fun x => x == (a : Int)) = b.testBit a := by
  rw [Bool.eq_iff_iff, List.any_eq_true]
  constructor
  · rintro ⟨x, hx, e⟩
    obtain ⟨h0, h1, h2⟩ := mem_bitsL.1 hx
    have e' : x = a := by simpa using e
    subst e'
    simpa using h2
  · intro h
    exact ⟨a, mem_bitsL.2 ⟨by omega, by omega, by simpa using h⟩, by simp⟩
theorem bits_put {n b a : Nat} (ha : a < n) : bitsL n (b ||| 2 ^ a) = putL (bitsL n b) a := by
  refine rising_ext (bitsL_sorted _ _) (putL_sorted (bitsL_sorted _ _) _) (fun x => ?_)
  rw [mem_putL, mem_bitsL, mem_bitsL, Nat.testBit_or, Nat.testBit_two_pow, Bool.or_eq_true, decide_eq_true_eq]
  constructor
  · rintro ⟨h0, h1, h2 | h2⟩
    · exact .inl ⟨h0, h1, h2⟩
    · exact .inr (by omega)
  · rintro (⟨h0, h1, h2⟩ | rfl)
    · exact ⟨h0, h1, .inl h2⟩
    · exact ⟨by omega, by omega, .inr (by omega)⟩
theorem bits_zero (n : Nat) : bitsL n 0 = [] := by
  have : ∀ x, x ∉ bitsL n 0 := fun x hx => by have := (mem_bitsL.1 hx).2.2; simp at this
  exact List.eq_nil_iff_forall_not_mem.2 this

/-- What a site adds to the gain of a set. -/
def moreF (F : Fld) (worth : Int) (S : List Int) (a : Int) : Int := gainF F worth (putL S a) - gainF F worth S
theorem gainF_bd {F : Fld} (hg : goodF F = true) {worth : Int} (h0 : 0 ≤ worth) (h1 : worth ≤ 999) (S : List Int) : 0 ≤ gainF F worth S ∧ gainF F worth S ≤ 6993 := by
  by_cases h : S = []
  · subst h; rw [gainF_nil]; omega
  · rw [gainF_cons h]
    have := sumTo_bd (gainAt_bd (F := F) (S := S) h0 h1 (fun i => (nearF_bd hg S i).1)) F.di.length
    have h7 := (goodF_iff.1 hg).2.2.1
    omega
theorem moreF_bd {F : Fld} (hg : goodF F = true) {worth : Int} (h0 : 0 ≤ worth) (h1 : worth ≤ 999) (S : List Int) (a : Int) : -6993 ≤ moreF F worth S a ∧ moreF F worth S a ≤ 6993 := by
  have := gainF_bd hg h0 h1 S
  have := gainF_bd hg h0 h1 (putL S a)
  unfold moreF; omega

/-- The first one of the numbers below k that may be taken with the greatest value of more than 0, and this value. -/
def pickTo (ok : Nat → Bool) (val : Nat → Int) : Nat → Int × Int
  | 0 => (-1, 0)
  | k + 1 => if ok k && decide ((pickTo ok val k).2 < val k) then ((k : Int), val k) else pickTo ok val k
theorem pick_yes {ok : Nat → Bool} {val : Nat → Int} {k : Nat} (h1 : ok k = true) (h2 : (pickTo ok val k).2 < val k) : pickTo ok val (k + 1) = ((k : Int), val k) := by
  show (if _ then _ else _) = _
  rw [if_pos (by simp [h1, h2])]
theorem pick_no {ok : Nat → Bool} {val : Nat → Int} {k : Nat} (h : ok k = false) : pickTo ok val (k + 1) = pickTo ok val k := by
  show (if _ then _ else _) = _
  rw [if_neg (by simp [h])]
theorem pick_less {ok : Nat → Bool} {val : Nat → Int} {k : Nat} (h2 : ¬ (pickTo ok val k).2 < val k) : pickTo ok val (k + 1) = pickTo ok val k := by
  show (if _ then _ else _) = _
  rw [if_neg (by simp [h2])]
theorem pick_inv (ok : Nat → Bool) (val : Nat → Int) : ∀ k, pickTo ok val k = (-1, 0) ∨ ∃ a, a < k ∧ ok a = true ∧ 0 < val a ∧ pickTo ok val k = ((a : Int), val a)
  | 0 => .inl rfl
  | k + 1 => by
    have ih := pick_inv ok val k
    by_cases h : ok k = true
    · by_cases h2 : (pickTo ok val k).2 < val k
      · refine .inr ⟨k, by omega, h, ?_, pick_yes h h2⟩
        rcases ih with e | ⟨a, _, _, h3, e⟩ <;> rw [e] at h2 <;> simp at h2 <;> omega
      · rw [pick_less h2]
        rcases ih with e | ⟨a, h1, h3⟩
        · exact .inl e
        · exact .inr ⟨a, by omega, h3⟩
    · rw [pick_no (by simpa using h)]
      rcases ih with e | ⟨a, h1, h3⟩
      · exact .inl e
      · exact .inr ⟨a, by omega, h3⟩
theorem pick_bd (ok : Nat → Bool) (val : Nat → Int) (k : Nat) : -1 ≤ (pickTo ok val k).1 ∧ (pickTo ok val k).1 < k ∧ 0 ≤ (pickTo ok val k).2 := by
  rcases pick_inv ok val k with e | ⟨a, h1, _, h3, e⟩ <;> rw [e] <;> simp <;> omega
theorem pick_neg (ok : Nat → Bool) (val : Nat → Int) (k : Nat) : (pickTo ok val k).1 < 0 ↔ (pickTo ok val k).2 = 0 := by
  rcases pick_inv ok val k with e | ⟨a, h1, _, h3, e⟩ <;> rw [e] <;> simp <;> omega
theorem pick_congr {ok ok' : Nat → Bool} {val val' : Nat → Int} : ∀ k, (∀ a, a < k → ok a = ok' a) → (∀ a, a < k → ok a = true → val a = val' a) → pickTo ok val k = pickTo ok' val' k
  | 0, _, _ => rfl
  | k + 1, h1, h2 => by
    have ih := pick_congr k (fun a ha => h1 a (by omega)) (fun a ha => h2 a (by omega))
    show (if _ then _ else _) = (if _ then _ else _)
    rw [ih, ← h1 k (by omega)]
    by_cases h : ok k = true
    · rw [h2 k (by omega) h]
    · have : ok k = false := by simpa using h
      simp [this]

/-- Which sites may be put into a set. -/
def okF (may : List Int → Bool) (S : List Int) (a : Nat) : Bool := !(S.any fun x => x == (a : Int)) && may (putL S a)
/-- The site that is taken next, and what it adds. -/
def nextTo (F : Fld) (worth : Int) (may : List Int → Bool) (S : List Int) (k : Nat) : Int × Int := pickTo (okF may S) (fun a => moreF F worth S a) k
def nextF (F : Fld) (worth : Int) (may : List Int → Bool) (S : List Int) : Int × Int := nextTo F worth may S F.op.length
/-- At most j more sites, each one with the greatest marginal gain. -/
def grd (F : Fld) (worth : Int) (may : List Int → Bool) : Nat → List Int → List Int → List Int
  | 0, out, _ => out
  | j + 1, out, S => if (nextF F worth may S).1 < 0 then out else grd F worth may j (out ++ [(nextF F worth may S).1]) (putL S (nextF F worth may S).1)
theorem grd_zero {F : Fld} {worth : Int} {may : List Int → Bool} {out S : List Int} : grd F worth may 0 out S = out := rfl
theorem grd_stop {F : Fld} {worth : Int} {may : List Int → Bool} {j : Nat} {out S : List Int} (h : (nextF F worth may S).1 < 0) : grd F worth may j out S = out := by
  cases j with
  | zero => rfl
  | succ j => exact if_pos h
theorem grd_go {F : Fld} {worth : Int} {may : List Int → Bool} {j : Nat} {out S : List Int} (h : ¬ (nextF F worth may S).1 < 0) : grd F worth may (j + 1) out S = grd F worth may j (out ++ [(nextF F worth may S).1]) (putL S (nextF F worth may S).1) := if_neg h
theorem okF_out {may : List Int → Bool} {S : List Int} {a : Nat} (h : okF may S a = true) : (a : Int) ∉ S := by
  simp only [okF, Bool.and_eq_true] at h
  intro hm
  have h1 := h.1
  rw [List.any_eq_true.2 ⟨_, hm, by simp⟩] at h1
  simp at h1
theorem next_new {F : Fld} {worth : Int} {may : List Int → Bool} {S : List Int} (h : ¬ (nextF F worth may S).1 < 0) : (nextF F worth may S).1 ∉ S ∧ (nextF F worth may S).1 < F.op.length := by
  rcases pick_inv (okF may S) (fun a => moreF F worth S a) F.op.length with e | ⟨a, h1, h2, _, e⟩
  · refine absurd ?_ h
    show (pickTo _ _ _).1 < 0
    rw [e]; simp
  · show (pickTo _ _ _).1 ∉ S ∧ (pickTo _ _ _).1 < _
    rw [e]
    exact ⟨okF_out h2, by simpa using h1⟩
theorem grd_len {F : Fld} {worth : Int} {may : List Int → Bool} : ∀ (j : Nat) (out S : List Int), (grd F worth may j out S).length ≤ out.length + j
  | 0, out, S => Nat.le_refl _
  | j + 1, out, S => by
    by_cases h : (nextF F worth may S).1 < 0
    · rw [grd_stop h]; omega
    · rw [grd_go h]
      have := grd_len (F := F) (worth := worth) (may := may) j (out ++ [(nextF F worth may S).1]) (putL S (nextF F worth may S).1)
      simp at this; omega
/-- A set of all sites has no next one. -/
theorem next_full {F : Fld} {worth : Int} {may : List Int → Bool} {S : List Int} (hs : setB F S = true) (hl : S.length = F.op.length) : (nextF F worth may S).1 < 0 := by
  by_cases h : (nextF F worth may S).1 < 0
  · exact h
  · obtain ⟨h1, h2⟩ := next_new h
    have h3 := setB_len (setB_put hs (by omega) h2)
    rw [putL_new h1] at h3
    omega
end Go.Proofs.Ytbniecepngeooaa

namespace Go.Proofs.Ytbniecepngeooaa
open Go.RowKit Go.Sort

theorem putL_nil (a : Int) : putL [] a = [a] := by simp [putL]
theorem putL_len' (S : List Int) (a : Int) : (putL S a).length ≤ S.length + 1 := by
  unfold putL
  by_cases h : a ∈ S
  · rw [if_pos h]; omega
  · rw [if_neg h, List.length_append, List.length_cons]
    have : S.length = (S.takeWhile (· < a)).length + (S.dropWhile (· < a)).length := by
      conv => lhs; rw [← List.takeWhile_append_dropWhile (p := fun y => decide (y < a)) (l := S), List.length_append]
    omega
set_option maxRecDepth 100000 in
set_option maxHeartbeats 2000000 in
theorem l1Put_none (c0 : Nat) (a : Int) (w : World) :
    Calls Try.prog 29 #[.slice none 0 c0, .int .i64 a] w fun e w' => ∃ v, e = .returned v ∧ Own w' w.heap.size v (putL [] a) ∧ Kp w w' := by
  have hA := Lib.hid ((own_new0 w _ (Nat.le_refl _)).drew)
  have hAB := Lib.hid ((own_ab w a).drew)
  have hBA := Lib.hid ((own_ba w a).drew)
  go_enter Try.func29, Try.ntmps29
  go_wp2_with fail
  go_loop [5] (fun iv => iv = .int .i64 0) (fun iv => 0)
  case atStart => rfl
  case round =>
    obtain rfl := hrel
    go_wp2_with fail
    go_region_held3 (fun w' => Kp w w')
      (first | exact (by repeat (first | with_reducible assumption | with_reducible exact Kp.refl _ | with_reducible refine Kp.drew ?_ | with_reducible refine Kp.alloc ?_ _ | with_reducible refine Kp.drewN ?_ _ | refine Kp.setCell ?_ (by dsimp only; omega) _)) | exact hkA | exact hkA.alloc _ | exact hkB | exact hkC)
      (first
        | (refine step_app_all (by rfl) (.tmp 33) (.tmp 36) (by rfl) w.heap.size _ [] [] none 0 c0 (by rfl) (by rfl) hA.out (IntsAt.nil _ _) rfl (by simp) (by simp) ?_; intro v1 w1 ho1 ht1 h41; have hkA : Kp w w1 := hA.out.kp_turn (by repeat (first | with_reducible assumption | with_reducible exact Kp.refl _ | with_reducible refine Kp.drew ?_ | with_reducible refine Kp.alloc ?_ _ | with_reducible refine Kp.drewN ?_ _ | refine Kp.setCell ?_ (by dsimp only; omega) _)) (Nat.le_refl _) ht1)
        | (refine step_app_all (by rfl) (.tmp 33) (.tmp 36) (by rfl) w.heap.size _ [] [] none 0 c0 (by rfl) (by rfl) hAB.out (IntsAt.nil _ _) rfl (by simp; try omega) (by simp) ?_; intro v1 w1 ho1 ht1 h41; have hkA : Kp w w1 := hAB.out.kp_turn (by repeat (first | with_reducible assumption | with_reducible exact Kp.refl _ | with_reducible refine Kp.drew ?_ | with_reducible refine Kp.alloc ?_ _ | with_reducible refine Kp.drewN ?_ _ | refine Kp.setCell ?_ (by dsimp only; omega) _)) (Nat.le_refl _) ht1; have h1n := one_turn (g := w.heap.size + 1) ((one_ab w a).kp (Kp.refl _).drew) ht1 (by simp [Value.ownBlock]) (by simp))
        | (refine step_app_all (by rfl) (.tmp 33) (.tmp 36) (by rfl) w.heap.size _ [] [] none 0 c0 (by rfl) (by rfl) hBA.out (IntsAt.nil _ _) rfl (by simp; try omega) (by simp) ?_; intro v1 w1 ho1 ht1 h41; have hkA : Kp w w1 := hBA.out.kp_turn (by repeat (first | with_reducible assumption | with_reducible exact Kp.refl _ | with_reducible refine Kp.drew ?_ | with_reducible refine Kp.alloc ?_ _ | with_reducible refine Kp.drewN ?_ _ | refine Kp.setCell ?_ (by dsimp only; omega) _)) (Nat.le_refl _) ht1; have h1n := one_turn (g := w.heap.size) ((one_ba w a).kp (Kp.refl _).drew) ht1 (by simp [Value.ownBlock]) (by simp; try omega))
        | (refine step_app_all (by rfl) (.tmp 37) (.tmp 39) (by rfl) w.heap.size v1 ([] ++ []) [a] (some ⟨w.heap.size + 1, 0, none⟩) 1 1 (by rfl) (by rfl) ho1 h1n rfl hkA.le (by simp) ?_; intro v2 w2 ho2 ht2 h42; have hkB : Kp w w2 := ho1.kp_turn hkA (Nat.le_refl _) ht2)
        | (refine step_app_all (by rfl) (.tmp 37) (.tmp 39) (by rfl) w.heap.size v1 ([] ++ []) [a] (some ⟨w.heap.size, 0, none⟩) 1 1 (by rfl) (by rfl) ho1 h1n rfl hkA.le (by simp) ?_; intro v2 w2 ho2 ht2 h42; have hkB : Kp w w2 := ho1.kp_turn hkA (Nat.le_refl _) ht2)
        | (refine step_app (by rfl) (.tmp 37) (.tmp 39) (by rfl) w.heap.size v1 ([] ++ []) a _ (by rfl) (by rfl) (by rfl) ho1 hkA.le (by simp) ?_; intro v2 w2 ho2 ht2 h42; have hkB : Kp w w2 := ho1.kp_turn hkA (Nat.le_refl _) ht2)
        | (refine step_app_all (by rfl) (.tmp 40) (.tmp 43) (by rfl) w.heap.size v2 ([] ++ [] ++ [a]) [] none 0 c0 (by rfl) (by rfl) ho2 (IntsAt.nil _ _) rfl hkB.le (by simp) ?_; intro v3 w3 ho3 ht3 h43; have hkC : Kp w w3 := ho2.kp_turn hkB (Nat.le_refl _) ht3)
        | fail)
    all_goals
      go_wp2_with fail
      go_ret
      rw [putL_nil]
      exact ⟨_, rfl, ho3, hkC⟩
theorem l1Put_new (A0 : Option Addr) (S : List Int) (n c0 : Nat) (a : Int) (w : World) (hS : IntsAt w A0 S) (hn : S.length = n) (hs : S.Pairwise (· < ·)) (hc : n ≤ c0) (hb : n < 1048576) (ha : a ∉ S) :
    Calls Try.prog 29 #[.slice A0 n c0, .int .i64 a] w fun e w' => ∃ v, e = .returned v ∧ Own w' w.heap.size v (putL S a) ∧ Kp w w' := by
  cases A0 with
  | some ad =>
    refine (l1Put_some ad S n c0 a w hS hn hs hc hb).mono ?_
    rintro e w' ⟨v, h1, h2 | h2, h3⟩
    · exact absurd h2.1 ha
    · exact ⟨v, h1, h2, h3⟩
  | none =>
    have e : S = [] := by
      cases S with
      | nil => rfl
      | cons y t => obtain ⟨ad, h, _⟩ := hS.at_ (k := 0) (by simp); cases h
    subst e
    obtain rfl : n = 0 := by simpa using hn.symm
    exact l1Put_none c0 a w
theorem l1Put_any (A0 : Option Addr) (S : List Int) (n c0 : Nat) (a : Int) (w : World) (hS : IntsAt w A0 S) (hn : S.length = n) (hs : S.Pairwise (· < ·)) (hc : n ≤ c0) (hb : n < 1048576) :
    Calls Try.prog 29 #[.slice A0 n c0, .int .i64 a] w fun e w' => ∃ A' c', e = .returned (.slice A' (putL S a).length c') ∧ (putL S a).length ≤ c' ∧ IntsAt w' A' (putL S a) ∧ Kp w w' := by
  by_cases ha : a ∈ S
  · cases A0 with
    | some ad =>
      refine (l1Put_some ad S n c0 a w hS hn hs hc hb).mono ?_
      rintro e w' ⟨v, rfl, h2 | h2, h3⟩
      · obtain ⟨_, rfl⟩ := h2
        rw [show putL S a = S from if_pos ha, hn]
        exact ⟨some ad, c0, rfl, hc, hS.kp h3, h3⟩
      · obtain ⟨A', c', e, hi⟩ := h2.ints (by have := putL_len' S a; omega)
        exact ⟨A', c', by rw [e], h2.cap e, hi, h3⟩
    | none =>
      obtain ⟨k, hk, _⟩ := List.getElem_of_mem ha
      obtain ⟨ad, h, _⟩ := hS.at_ (k := 0) (by omega); cases h
  · refine (l1Put_new A0 S n c0 a w hS hn hs hc hb ha).mono ?_
    rintro e w' ⟨v, rfl, h2, h3⟩
    obtain ⟨A', c', e, hi⟩ := h2.ints (by have := putL_len' S a; omega)
    exact ⟨A', c', by rw [e], h2.cap e, hi, h3⟩
end Go.Proofs.Ytbniecepngeooaa

namespace Go.Proofs.Ytbniecepngeooaa
open Go.RowKit Go.Sort

theorem putL_mem {S : List Int} {a x : Int} : x ∈ putL S a ↔ x ∈ S ∨ x = a := by
  unfold putL
  by_cases h : a ∈ S
  · rw [if_pos h]
    exact ⟨.inl, fun h2 => h2.elim id (fun e => e ▸ h)⟩
  · rw [if_neg h, List.mem_append, List.mem_cons]
    have e : x ∈ S ↔ x ∈ S.takeWhile (· < a) ∨ x ∈ S.dropWhile (· < a) := by
      conv => lhs; rw [← List.takeWhile_append_dropWhile (p := fun y => decide (y < a)) (l := S), List.mem_append]
    rw [e]
    constructor
    · rintro (h | h | h)
      · exact .inl (.inl h)
      · exact .inr h
      · exact .inl (.inr h)
    · rintro ((h | h) | h)
      · exact .inl h
      · exact .inr (.inr h)
      · exact .inr (.inl h)
/-- It stands at an even place. -/
def evB (O : List Int) (x : Int) : Bool := (List.range O.length).any fun i => decide (i % 2 = 0) && decide (O.getD i 0 = x)
theorem evB_iff {O : List Int} {x : Int} : evB O x = true ↔ ∃ i, i < O.length ∧ i % 2 = 0 ∧ O.getD i 0 = x := by
  unfold evB
  rw [List.any_eq_true]
  constructor
  · rintro ⟨i, hi, h⟩
    rw [Bool.and_eq_true, decide_eq_true_eq, decide_eq_true_eq] at h
    exact ⟨i, List.mem_range.1 hi, h.1, h.2⟩
  · rintro ⟨i, hi, h1, h2⟩
    exact ⟨i, List.mem_range.2 hi, by rw [Bool.and_eq_true, decide_eq_true_eq, decide_eq_true_eq]; exact ⟨h1, h2⟩⟩
theorem getD_inj {O : List Int} (h : O.Nodup) {i j : Nat} (hi : i < O.length) (hj : j < O.length) (e : O.getD i 0 = O.getD j 0) : i = j := by
  have e1 : O.getD i 0 = O[i] := by simp [List.getD, hi]
  have e2 : O.getD j 0 = O[j] := by simp [List.getD, hj]
  rw [e1, e2] at e
  exact (List.getElem_inj h).1 e
theorem evB_at {O : List Int} (h : O.Nodup) {i : Nat} (hi : i < O.length) : evB O (O.getD i 0) = decide (i % 2 = 0) := by
  by_cases he : i % 2 = 0
  · rw [decide_eq_true he]; exact evB_iff.2 ⟨i, hi, he, rfl⟩
  · rw [decide_eq_false he]
    cases hb : evB O (O.getD i 0) with
    | false => rfl
    | true =>
      obtain ⟨j, hj, h1, h2⟩ := evB_iff.1 hb
      have := getD_inj h hj hi h2
      subst this
      exact absurd h1 he
theorem getD_snoc_lt {O : List Int} {a : Int} {i : Nat} (h : i < O.length) : (O ++ [a]).getD i 0 = O.getD i 0 := by
  simp [List.getD, List.getElem?_append_left h]
theorem getD_snoc_eq {O : List Int} {a : Int} : (O ++ [a]).getD O.length 0 = a := by simp [List.getD]
/-- Two firms have opened sites in turn: the first firm's sites and the second firm's. -/
structure Duel (M : Nat) (O X Y : List Int) : Prop where
  nd : O.Nodup
  rg : ∀ x ∈ O, 0 ≤ x ∧ x < (M : Int)
  sx : X.Pairwise (· < ·)
  sy : Y.Pairwise (· < ·)
  mx : ∀ x, x ∈ X ↔ ∃ i, i < O.length ∧ i % 2 = 0 ∧ O.getD i 0 = x
  my : ∀ x, x ∈ Y ↔ ∃ i, i < O.length ∧ i % 2 = 1 ∧ O.getD i 0 = x
  lx : X.length = (O.length + 1) / 2
  ly : Y.length = O.length / 2
theorem Duel.nil (M : Nat) : Duel M [] [] [] := ⟨List.nodup_nil, by simp, .nil, .nil, by simp, by simp, rfl, rfl⟩
theorem Duel.mem {M : Nat} {O X Y : List Int} (h : Duel M O X Y) {x : Int} : x ∈ O ↔ x ∈ X ∨ x ∈ Y := by
  rw [h.mx, h.my]
  constructor
  · intro hx
    obtain ⟨i, hi, rfl⟩ := List.getElem_of_mem hx
    have e : O.getD i 0 = O[i] := by simp [List.getD, hi]
    rcases Nat.mod_two_eq_zero_or_one i with h0 | h0
    · exact .inl ⟨i, hi, h0, e⟩
    · exact .inr ⟨i, hi, h0, e⟩
  · rintro (⟨i, hi, _, rfl⟩ | ⟨i, hi, _, rfl⟩)
    all_goals
      have e : O.getD i 0 = O[i] := by simp [List.getD, hi]
      rw [e]; exact List.getElem_mem hi
theorem Duel.nds {M : Nat} {O X Y : List Int} (h : Duel M O X Y) {a : Int} (ha : a ∉ O) : (O ++ [a]).Nodup := by
  rw [List.nodup_append]
  refine ⟨h.nd, by simp, fun x hx y hy => ?_⟩
  rw [List.mem_singleton] at hy
  subst hy
  intro e; subst e; exact ha hx
theorem snoc_ex {O : List Int} {a x : Int} {r : Nat} (he : O.length % 2 = r) : (∃ i, i < (O ++ [a]).length ∧ i % 2 = r ∧ (O ++ [a]).getD i 0 = x) ↔ (∃ i, i < O.length ∧ i % 2 = r ∧ O.getD i 0 = x) ∨ x = a := by
  constructor
  · rintro ⟨i, hi, h1, h2⟩
    rw [List.length_append, List.length_singleton] at hi
    by_cases hl : i < O.length
    · exact .inl ⟨i, hl, h1, by rw [← getD_snoc_lt hl]; exact h2⟩
    · obtain rfl : i = O.length := by omega
      rw [getD_snoc_eq] at h2
      exact .inr h2.symm
  · rintro (⟨i, hi, h1, h2⟩ | rfl)
    · exact ⟨i, by rw [List.length_append]; omega, h1, by rw [getD_snoc_lt hi]; exact h2⟩
    · exact ⟨O.length, by simp, he, getD_snoc_eq⟩
theorem snoc_no {O : List Int} {a x : Int} {r : Nat} (he : O.length % 2 ≠ r) : (∃ i, i < (O ++ [a]).length ∧ i % 2 = r ∧ (O ++ [a]).getD i 0 = x) ↔ (∃ i, i < O.length ∧ i % 2 = r ∧ O.getD i 0 = x) := by
  constructor
  · rintro ⟨i, hi, h1, h2⟩
    rw [List.length_append, List.length_singleton] at hi
    by_cases hl : i < O.length
    · exact ⟨i, hl, h1, by rw [← getD_snoc_lt hl]; exact h2⟩
    · obtain rfl : i = O.length := by omega
      exact absurd h1 he
  · rintro ⟨i, hi, h1, h2⟩
    exact ⟨i, by rw [List.length_append]; omega, h1, by rw [getD_snoc_lt hi]; exact h2⟩
theorem Duel.rgs {M : Nat} {O X Y : List Int} (h : Duel M O X Y) {a : Nat} (ha : a < M) : ∀ x ∈ O ++ [(a : Int)], 0 ≤ x ∧ x < (M : Int) := fun x hx => by
  rw [List.mem_append, List.mem_singleton] at hx
  rcases hx with h1 | rfl
  · exact h.rg x h1
  · omega
theorem Duel.one {M : Nat} {O X Y : List Int} (h : Duel M O X Y) {a : Nat} (ha : a < M) (hn : (a : Int) ∉ O) (he : O.length % 2 = 0) : Duel M (O ++ [(a : Int)]) (putL X a) Y := by
  have hnx : (a : Int) ∉ X := fun hx => hn (h.mem.2 (.inl hx))
  refine ⟨h.nds hn, h.rgs ha, putL_sorted h.sx _, h.sy, fun x => ?_, fun x => ?_, ?_, ?_⟩
  · rw [putL_mem, h.mx, snoc_ex he]
  · rw [h.my, snoc_no (by omega)]
  · rw [putL_new hnx, h.lx, List.length_append, List.length_singleton]; omega
  · rw [h.ly, List.length_append, List.length_singleton]; omega
theorem Duel.two {M : Nat} {O X Y : List Int} (h : Duel M O X Y) {a : Nat} (ha : a < M) (hn : (a : Int) ∉ O) (he : O.length % 2 = 1) : Duel M (O ++ [(a : Int)]) X (putL Y a) := by
  have hny : (a : Int) ∉ Y := fun hy => hn (h.mem.2 (.inr hy))
  refine ⟨h.nds hn, h.rgs ha, h.sx, putL_sorted h.sy _, fun x => ?_, fun x => ?_, ?_, ?_⟩
  · rw [h.mx, snoc_no (by omega)]
  · rw [putL_mem, h.my, snoc_ex he]
  · rw [h.lx, List.length_append, List.length_singleton]; omega
  · rw [putL_new hny, h.ly, List.length_append, List.length_singleton]; omega
theorem Duel.same {M : Nat} {O X Y : List Int} (h : Duel M O X Y) : (X.length = Y.length ↔ O.length % 2 = 0) := by
  rw [h.lx, h.ly]; omega
theorem Duel.first {M : Nat} {O X Y : List Int} (h : Duel M O X Y) (x : Int) : (X.any fun y => y == x) = evB O x := by
  rw [Bool.eq_iff_iff, evB_iff, ← h.mx, List.any_eq_true]
  constructor
  · rintro ⟨y, hy, e⟩
    rw [← eq_of_beq e]; exact hy
  · intro hx; exact ⟨x, hx, by simp⟩
theorem nd_len : ∀ (xs ys : List Int), xs.Nodup → (∀ x ∈ xs, x ∈ ys) → xs.length ≤ ys.length
  | [], _, _, _ => Nat.zero_le _
  | x :: t, ys, hn, hs => by
    rw [List.nodup_cons] at hn
    have hx : x ∈ ys := hs x List.mem_cons_self
    have h1 := nd_len t (ys.erase x) hn.2 (fun y hy => (List.mem_erase_of_ne (show y ≠ x from fun e => hn.1 (by rw [← e]; exact hy))).2 (hs y (List.mem_cons_of_mem _ hy)))
    rw [List.length_erase_of_mem hx] at h1
    have := List.length_pos_of_mem hx
    rw [List.length_cons]; omega
theorem Duel.len {M : Nat} {O X Y : List Int} (h : Duel M O X Y) : O.length ≤ M := by
  have hp := nd_len O ((List.range M).map (fun (i : Nat) => (i : Int))) h.nd (fun x hx => by
    have := h.rg x hx
    exact List.mem_map.2 ⟨x.toNat, List.mem_range.2 (by omega), by omega⟩)
  simpa using hp
/-- What stays to be put in: the reference's list of all open sites. -/
theorem putAll_ext {O X Y Z : List Int} {M : Nat} (h : Duel M O X Y) (hz : Z.Pairwise (· < ·)) (hm : ∀ x, x ∈ Z ↔ x ∈ X ∨ x ∈ Y) {W : List Int} (hw : W.Pairwise (· < ·)) (hw2 : ∀ x, x ∈ W ↔ x ∈ O) : Z = W :=
  rising_ext hz hw (fun x => by rw [hm, hw2, h.mem])
def wonTo (F : Fld) (O S : List Int) : Nat → Nat
  | 0 => 0
  | j + 1 => wonTo F O S j + (if evB O (siteF F j S) = true then 1 else 0)
theorem wonTo_le (F : Fld) (O S : List Int) : ∀ j, wonTo F O S j ≤ j
  | 0 => Nat.le_refl _
  | j + 1 => by have := wonTo_le F O S j; unfold wonTo; split <;> omega
/-- All sites that are open, in order. -/
def allO (F : Fld) (O : List Int) : List Int := bitsL F.op.length (bagN O)
def wonV (F : Fld) (O : List Int) : Int := (wonTo F O (allO F O) F.di.length : Int)
def pstep (first : Bool) (st : Int × Int) (a v : Int) : Int × Int := if st.2 < 0 ∨ (first = true ∧ st.1 < v) ∨ (first = false ∧ v < st.1) then (v, a) else st
def evL (O : List Int) : Bool := decide (O.length % 2 = 0)
def playN (F : Fld) : Nat → List Int → Int × Int
  | 0, O => (wonV F O, -1)
  | n + 1, O => (List.range F.op.length).foldl (fun st (a : Nat) => if (a : Int) ∈ O then st else pstep (evL O) st a (playN F n (O ++ [(a : Int)])).1) (0, -1)
def playTo (F : Fld) (n : Nat) (O : List Int) (j : Nat) : Int × Int := (List.range j).foldl (fun st (a : Nat) => if (a : Int) ∈ O then st else pstep (evL O) st a (playN F n (O ++ [(a : Int)])).1) (0, -1)
def pval (F : Fld) (n : Nat) (O : List Int) (a : Nat) : Int := (playN F n (O ++ [(a : Int)])).1
theorem playN_succ (F : Fld) (n : Nat) (O : List Int) : playN F (n + 1) O = playTo F n O F.op.length := rfl
theorem playTo_zero (F : Fld) (n : Nat) (O : List Int) : playTo F n O 0 = (0, -1) := rfl
theorem playTo_succ (F : Fld) (n : Nat) (O : List Int) (j : Nat) : playTo F n O (j + 1) = if (j : Int) ∈ O then playTo F n O j else pstep (evL O) (playTo F n O j) j (pval F n O j) := by
  unfold playTo
  rw [List.range_succ, List.foldl_append]
  rfl
structure PlayI (F : Fld) (n : Nat) (O : List Int) (j : Nat) (st : Int × Int) : Prop where
  none_ : st.2 < 0 → st = (0, -1) ∧ ∀ a, a < j → (a : Int) ∈ O
  some_ : 0 ≤ st.2 → ∃ s : Nat, st.2 = (s : Int) ∧ s < j ∧ (s : Int) ∉ O ∧ st.1 = pval F n O s ∧ (∀ a, a < s → (a : Int) ∉ O → pval F n O a ≠ st.1)
  ext : 0 ≤ st.2 → ∀ a, a < j → (a : Int) ∉ O → (evL O = true → pval F n O a ≤ st.1) ∧ (evL O = false → st.1 ≤ pval F n O a)
theorem play_inv (F : Fld) (n : Nat) (O : List Int) : ∀ j, PlayI F n O j (playTo F n O j)
  | 0 => ⟨fun _ => ⟨rfl, fun a ha => by omega⟩, fun h => absurd h (by rw [playTo_zero]; decide), fun h => absurd h (by rw [playTo_zero]; decide)⟩
  | j + 1 => by
    have ih := play_inv F n O j
    rw [playTo_succ]
    by_cases hO : (j : Int) ∈ O
    · rw [if_pos hO]
      refine ⟨fun h => ⟨(ih.none_ h).1, fun a ha => ?_⟩, fun h => ?_, fun h a ha hn => ?_⟩
      · by_cases e : a = j
        · subst e; exact hO
        · exact (ih.none_ h).2 a (by omega)
      · obtain ⟨s, h1, h2, h3, h4, h5⟩ := ih.some_ h
        exact ⟨s, h1, by omega, h3, h4, h5⟩
      · by_cases e : a = j
        · subst e; exact absurd hO hn
        · exact ih.ext h a (by omega) hn
    · rw [if_neg hO]
      unfold pstep
      by_cases hc : (playTo F n O j).2 < 0 ∨ (evL O = true ∧ (playTo F n O j).1 < pval F n O j) ∨ (evL O = false ∧ pval F n O j < (playTo F n O j).1)
      · rw [if_pos hc]
        have hbefore : ∀ a, a < j → (a : Int) ∉ O → (evL O = true → pval F n O a < pval F n O j) ∧ (evL O = false → pval F n O j < pval F n O a) := fun a ha hn => by
          by_cases h0 : (playTo F n O j).2 < 0
          · exact absurd ((ih.none_ h0).2 a ha) hn
          · have hx := ih.ext (by omega) a ha hn
            rcases hc with h | h | h
            · exact absurd h h0
            · exact ⟨fun e => by have := hx.1 e; omega, fun e => by rw [h.1] at e; cases e⟩
            · exact ⟨fun e => (by rw [h.1] at e; cases e), fun e => by have := hx.2 e; omega⟩
        refine ⟨fun h => absurd h (by show ¬ (j : Int) < 0; omega), fun _ => ⟨j, rfl, by omega, hO, rfl, fun a ha hn => ?_⟩, fun _ a ha hn => ?_⟩
        · have := hbefore a ha hn
          show pval F n O a ≠ pval F n O j
          cases he : evL O
          · have := this.2 he; omega
          · have := this.1 he; omega
        · show (evL O = true → pval F n O a ≤ pval F n O j) ∧ (evL O = false → pval F n O j ≤ pval F n O a)
          by_cases e : a = j
          · subst e; exact ⟨fun _ => Int.le_refl _, fun _ => Int.le_refl _⟩
          · have := hbefore a (by omega) hn
            exact ⟨fun h => by have := this.1 h; omega, fun h => by have := this.2 h; omega⟩
      · rw [if_neg hc]
        have h0 : ¬ (playTo F n O j).2 < 0 := fun h => hc (.inl h)
        refine ⟨fun h => absurd h h0, fun h => ?_, fun h a ha hn => ?_⟩
        · obtain ⟨s, h1, h2, h3, h4, h5⟩ := ih.some_ h
          exact ⟨s, h1, by omega, h3, h4, h5⟩
        · by_cases e : a = j
          · subst e
            exact ⟨fun he => Int.not_lt.1 (fun hlt => hc (.inr (.inl ⟨he, hlt⟩))), fun he => Int.not_lt.1 (fun hlt => hc (.inr (.inr ⟨he, hlt⟩)))⟩
          · exact ih.ext h a (by omega) hn
theorem play_bd (F : Fld) : ∀ (n : Nat) (O : List Int), 0 ≤ (playN F n O).1 ∧ (playN F n O).1 ≤ (F.di.length : Int)
  | 0, O => by have := wonTo_le F O (allO F O) F.di.length; show 0 ≤ wonV F O ∧ wonV F O ≤ _; unfold wonV; omega
  | n + 1, O => by
    rw [playN_succ]
    have h := play_inv F n O F.op.length
    by_cases h0 : (playTo F n O F.op.length).2 < 0
    · rw [(h.none_ h0).1]; show (0 : Int) ≤ 0 ∧ (0 : Int) ≤ _; omega
    · obtain ⟨s, _, _, _, h4, _⟩ := h.some_ (by omega)
      rw [h4]
      exact play_bd F n _
theorem playTo_bd (F : Fld) (n : Nat) (O : List Int) (j : Nat) : 0 ≤ (playTo F n O j).1 ∧ (playTo F n O j).1 ≤ (F.di.length : Int) := by
  have h := play_inv F n O j
  by_cases h0 : (playTo F n O j).2 < 0
  · rw [(h.none_ h0).1]; show (0 : Int) ≤ 0 ∧ (0 : Int) ≤ _; omega
  · obtain ⟨s, _, _, _, h4, _⟩ := h.some_ (by omega)
    rw [h4]
    exact play_bd F n _
/-- Where sites are left, one is opened. -/
theorem free_ex {M : Nat} {O : List Int} (hl : O.length < M) : ∃ a, a < M ∧ (a : Int) ∉ O := Classical.byContradiction (fun hno => by
  have hsub := nd_len ((List.range M).map (fun (i : Nat) => (i : Int))) O (by
    show List.Pairwise (· ≠ ·) _
    rw [List.pairwise_map]
    exact List.pairwise_lt_range.imp (fun h => by omega)) (fun x hx => by
      obtain ⟨a, ha, rfl⟩ := List.mem_map.1 hx
      exact Classical.byContradiction (fun h => hno ⟨a, List.mem_range.1 ha, h⟩))
  simp at hsub
  omega)
theorem play_site (F : Fld) (n : Nat) {O : List Int} (hl : O.length < F.op.length) : ∃ s : Nat, (playN F (n + 1) O).2 = (s : Int) ∧ s < F.op.length ∧ (s : Int) ∉ O ∧ (playN F (n + 1) O).1 = pval F n O s ∧ ∀ a, a < s → (a : Int) ∉ O → pval F n O a ≠ (playN F (n + 1) O).1 := by
  rw [playN_succ]
  have h := play_inv F n O F.op.length
  by_cases h0 : (playTo F n O F.op.length).2 < 0
  · obtain ⟨a, ha, hn⟩ := free_ex hl
    exact absurd ((h.none_ h0).2 a ha) hn
  · exact h.some_ (by omega)
/-- The reference's best so far. -/
def sbest (st : Int × Int) : Int := if st.2 < 0 then -1 else st.1
theorem pstep_yes {first : Bool} {st : Int × Int} {a v : Int} (h : st.2 < 0 ∨ (first = true ∧ st.1 < v) ∨ (first = false ∧ v < st.1)) : pstep first st a v = (v, a) := if_pos h
theorem pstep_no {first : Bool} {st : Int × Int} {a v : Int} (h : ¬ (st.2 < 0 ∨ (first = true ∧ st.1 < v) ∨ (first = false ∧ v < st.1))) : pstep first st a v = st := if_neg h
theorem sbest_new (v : Int) (a : Nat) : sbest (v, (a : Int)) = v := if_neg (by show ¬ (a : Int) < 0; omega)
theorem sbest_neg {st : Int × Int} (h : st.2 < 0) : sbest st = -1 := if_pos h
theorem sbest_pos {st : Int × Int} (h : ¬ st.2 < 0) : sbest st = st.1 := if_neg h
theorem sbest_one {F : Fld} {n : Nat} {O : List Int} {j : Nat} (hj : (j : Int) ∉ O) (he : evL O = true) : sbest (playTo F n O (j + 1)) = max (sbest (playTo F n O j)) (pval F n O j) := by
  rw [playTo_succ, if_neg hj]
  have hv' : 0 ≤ pval F n O j := (play_bd F n (O ++ [(j : Int)])).1
  by_cases h0 : (playTo F n O j).2 < 0
  · rw [pstep_yes (.inl h0), sbest_new, sbest_neg h0]; omega
  · by_cases h1 : (playTo F n O j).1 < pval F n O j
    · rw [pstep_yes (.inr (.inl ⟨he, h1⟩)), sbest_new, sbest_pos h0]; omega
    · rw [pstep_no (fun h => by
        rcases h with h | h | h
        · exact h0 h
        · exact h1 h.2
        · rw [he] at h; cases h.1), sbest_pos h0]; omega
theorem sbest_two {F : Fld} {n : Nat} {O : List Int} {j : Nat} (hj : (j : Int) ∉ O) (he : evL O = false) : sbest (playTo F n O (j + 1)) = if sbest (playTo F n O j) < 0 ∨ pval F n O j < sbest (playTo F n O j) then pval F n O j else sbest (playTo F n O j) := by
  rw [playTo_succ, if_neg hj]
  have hb := (playTo_bd F n O j).1
  by_cases h0 : (playTo F n O j).2 < 0
  · rw [pstep_yes (.inl h0), sbest_new, sbest_neg h0, if_pos (.inl (by omega))]
  · by_cases h1 : pval F n O j < (playTo F n O j).1
    · rw [pstep_yes (.inr (.inr ⟨he, h1⟩)), sbest_new, sbest_pos h0, if_pos (.inr h1)]
    · rw [pstep_no (fun h => by
        rcases h with h | h | h
        · exact h0 h
        · rw [he] at h; cases h.1
        · exact h1 h.2), sbest_pos h0, if_neg (by omega)]
theorem sbest_no {F : Fld} {n : Nat} {O : List Int} {j : Nat} (hj : (j : Int) ∈ O) : sbest (playTo F n O (j + 1)) = sbest (playTo F n O j) := by rw [playTo_succ, if_pos hj]
theorem sbest_end {F : Fld} {n : Nat} {O : List Int} (hl : O.length < F.op.length) : sbest (playTo F n O F.op.length) = (playN F (n + 1) O).1 := by
  obtain ⟨s, h1, _⟩ := play_site F n hl
  rw [← playN_succ]
  unfold sbest
  rw [if_neg (by omega)]
theorem sbest_bd (F : Fld) (n : Nat) (O : List Int) (j : Nat) : -1 ≤ sbest (playTo F n O j) ∧ sbest (playTo F n O j) ≤ (F.di.length : Int) := by
  have := playTo_bd F n O j
  unfold sbest
  split <;> omega
/-- The play: the sites that are opened. -/
def outL (F : Fld) (K : Nat) : Nat → List Int
  | 0 => []
  | i + 1 => outL F K i ++ [(playN F (K - i) (outL F K i)).2]
theorem outL_len (F : Fld) (K : Nat) : ∀ i, (outL F K i).length = i
  | 0 => rfl
  | i + 1 => by unfold outL; rw [List.length_append, outL_len F K i]; rfl
theorem allO_sorted (F : Fld) (O : List Int) : (allO F O).Pairwise (· < ·) := bitsL_sorted _ _
end Go.Proofs.Ytbniecepngeooaa

namespace Go.Proofs.Ytbniecepngeooaa
open Go.RowKit Go.Sort Go.Shelf

def sortI_ren : Go.Shelf.Ren := ⟨fun | 189 => 69 | 125 => 80 | 257 => 79 | 128 => 96 | 129 => 97 | 294 => 87 | 295 => 88 | 296 => 89 | 297 => 90 | 298 => 91 | 299 => 92 | 216 => 93 | 300 => 94 | 301 => 95 | 328 => 102 | 329 => 103 | 330 => 104 | 331 => 105 | 332 => 106 | 215 => 107 | 343 => 112 | n => n, fun | 28 => 22 | 3 => 3 | 46 => 65 | 0 => 0 | 51 => 95 | 53 => 97 | 4 => 4 | 183 => 89 | 182 => 88 | 131 => 27 | 5 => 5 | 9 => 9 | 218 => 100 | 222 => 104 | 228 => 108 | 229 => 46 | n => n, fun | n => n⟩
theorem sortI : Go.Proofs.Lays.n189 Try.prog sortI_ren := {
  mixed := by kernel_rfl
  f125 := Try.func80.trans (congrArg some (by kernel_rfl))
  f128 := Try.func96.trans (congrArg some (by kernel_rfl))
  f129 := Try.func97.trans (congrArg some (by kernel_rfl))
  f189 := Try.func69.trans (congrArg some (by kernel_rfl))
  f215 := Try.func107.trans (congrArg some (by kernel_rfl))
  f216 := Try.func93.trans (congrArg some (by kernel_rfl))
  f257 := Try.func79.trans (congrArg some (by kernel_rfl))
  f294 := Try.func87.trans (congrArg some (by kernel_rfl))
  f295 := Try.func88.trans (congrArg some (by kernel_rfl))
  f296 := Try.func89.trans (congrArg some (by kernel_rfl))
  f297 := Try.func90.trans (congrArg some (by kernel_rfl))
  f298 := Try.func91.trans (congrArg some (by kernel_rfl))
  f299 := Try.func92.trans (congrArg some (by kernel_rfl))
  f300 := Try.func94.trans (congrArg some (by kernel_rfl))
  f301 := Try.func95.trans (congrArg some (by kernel_rfl))
  f328 := Try.func102.trans (congrArg some (by kernel_rfl))
  f329 := Try.func103.trans (congrArg some (by kernel_rfl))
  f330 := Try.func104.trans (congrArg some (by kernel_rfl))
  f331 := Try.func105.trans (congrArg some (by kernel_rfl))
  f332 := Try.func106.trans (congrArg some (by kernel_rfl))
  f343 := Try.func112.trans (congrArg some (by kernel_rfl))
  t0 := Try.underlying0
  a0 := Try.isAgg0
  z0 := Try.sizeOf0
  v0 := Try.zeroValue0
  t3 := Try.underlying3
  a3 := Try.isAgg3
  z3 := Try.sizeOf3
  v3 := Try.zeroValue3
  t4 := Try.underlying4
  a4 := Try.isAgg4
  z4 := Try.sizeOf4
  v4 := Try.zeroValue4
  t5 := Try.underlying5
  a5 := Try.isAgg5
  z5 := Try.sizeOf5
  v5 := Try.zeroValue5
  t9 := Try.underlying9
  a9 := Try.isAgg9
  z9 := Try.sizeOf9
  v9 := Try.zeroValue9
  t28 := Try.underlying22
  a28 := Try.isAgg22
  z28 := Try.sizeOf22
  v28 := Try.zeroValue22
  t46 := Try.underlying65
  a46 := Try.isAgg65
  z46 := Try.sizeOf65
  v46 := Try.zeroValue65
  t51 := Try.underlying95
  a51 := Try.isAgg95
  z51 := Try.sizeOf95
  v51 := Try.zeroValue95
  t53 := Try.underlying97
  a53 := Try.isAgg97
  z53 := Try.sizeOf97
  v53 := Try.zeroValue97
  t131 := Try.underlying27
  a131 := Try.isAgg27
  z131 := Try.sizeOf27
  v131 := Try.zeroValue27
  t182 := Try.underlying88
  a182 := Try.isAgg88
  z182 := Try.sizeOf88
  v182 := Try.zeroValue88
  t183 := Try.underlying89
  a183 := Try.isAgg89
  z183 := Try.sizeOf89
  v183 := Try.zeroValue89
  t218 := Try.underlying100
  a218 := Try.isAgg100
  z218 := Try.sizeOf100
  v218 := Try.zeroValue100
  t222 := Try.underlying104
  a222 := Try.isAgg104
  z222 := Try.sizeOf104
  v222 := Try.zeroValue104
  t228 := Try.underlying108
  a228 := Try.isAgg108
  z228 := Try.sizeOf108
  v228 := Try.zeroValue108
  t229 := Try.underlying46
  a229 := Try.isAgg46
  z229 := Try.sizeOf46
  v229 := Try.zeroValue46 }
theorem turn_put {w : World} {g q : Nat} (d : Array Int) (os : Array Obj) : Turn (fun i => i = g) w (grow (putRow (Value.int .i64) (Sort.ahead w q) g 0 d) os) :=
  ⟨rfl, rfl, rfl, by simp, fun i hi hn => by
    rw [heap_grow_old _ _ (by simpa using hi)]
    simp [putRow, mapBlock, Sort.ahead, Array.getElem?_modify, Ne.symm hn]⟩
theorem own_put {w : World} {base g cap q : Nat} {xs ys : List Int} (h : Own w base (.slice (some ⟨g, 0, none⟩) xs.length cap) xs) (hy : ys.length = xs.length) (os : Array Obj) :
    Own (grow (putRow (Value.int .i64) (Sort.ahead w q) g 0 ys.toArray) os) base (.slice (some ⟨g, 0, none⟩) xs.length cap) ys := by
  have h3 := Lib.ownsRow_putRow (q := q) (k := xs.length) (ys := ys) h hy (Nat.le_refl _)
  rw [List.take_of_length_le (by omega)] at h3
  have h4 := Lib.ownsRow_grow h3 0 os
  unfold Own
  rw [hy]
  exact h4
theorem own_holds {w : World} {base g cap : Nat} {xs : List Int} (h : Own w base (.slice (some ⟨g, 0, none⟩) xs.length cap) xs) : Holds (Value.int .i64) w g 0 xs.toArray ∧ g < w.heap.size := by
  obtain ⟨g2, cap2, e2, _, hlt, _, _, _, hH⟩ := Lib.holds_of_ownsRow h (by simp)
  simp only [Value.slice.injEq, Option.some.injEq, Addr.mk.injEq] at e2
  obtain ⟨⟨rfl, _, _⟩, _, rfl⟩ := e2
  exact ⟨hH, hlt⟩
theorem sortInts_any (base g cap n : Nat) (xs : List Int) (w : World) (h : Own w base (.slice (some ⟨g, 0, none⟩) n cap) xs) (hn : xs.length = n) (hl : n ≤ 1000000) :
    Calls Try.prog 69 #[.slice (some ⟨g, 0, none⟩) n cap] w fun e w' => e = .returned (.tuple #[]) ∧ Own w' base (.slice (some ⟨g, 0, none⟩) n cap) (xs.mergeSort fun x y => decide (x ≤ y)) ∧ Turn (fun i => i = g) w w' := by
  subst hn
  obtain ⟨hH, hlt⟩ := own_holds h
  refine Calls.mono (Any.slices_Sort_int sortI g 0 cap xs w hH hlt (by omega)) ?_
  rintro e w' ⟨rfl, q, os, rfl⟩
  exact ⟨rfl, own_put h (by simp) os, turn_put _ os⟩
end Go.Proofs.Ytbniecepngeooaa

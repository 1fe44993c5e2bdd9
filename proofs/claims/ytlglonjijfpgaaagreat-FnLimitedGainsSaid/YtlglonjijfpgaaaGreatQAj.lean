/- Merged: A set without a site; RatioGain: plain words; RatioGain: the reference's choice of the richer site; RatioGain: the reference's rounds; RatioGain: the reference; RatioGain: the program. No condition. -/
import Derived.Test.YtlglonjijfpgaaaGreatQAf
import Derived.Test.YtlglonjijfpgaaaGreatQAd
import Derived.Test.YtlglonjijfpgaaaGreatQAi
import Derived.Deep.RegionWith
namespace Go.Proofs.YtlglonjijfpgaaaGreat
open Go.RowKit Go.Sort

/-- A set without a site. -/
def woL (S : List Int) (a : Int) : List Int := S.filter fun x => x != a
def woTo (S : List Int) (a : Int) (k : Nat) : List Int := (S.take k).filter fun x => x != a
theorem woTo_yes {S : List Int} {a : Int} {k : Nat} (hk : k < S.length) (h : (S[k] != a) = true) : woTo S a (k + 1) = woTo S a k ++ [S[k]] := by
  unfold woTo
  rw [List.take_succ_eq_append_getElem hk, List.filter_append]; simp [h]
theorem woTo_no {S : List Int} {a : Int} {k : Nat} (hk : k < S.length) (h : (S[k] != a) = false) : woTo S a (k + 1) = woTo S a k := by
  unfold woTo
  rw [List.take_succ_eq_append_getElem hk, List.filter_append]; simp [h]
theorem woTo_all {S : List Int} {a : Int} {k : Nat} (hk : S.length ≤ k) : woTo S a k = woL S a := by unfold woTo woL; rw [List.take_of_length_le hk]
theorem woTo_len (S : List Int) (a : Int) (k : Nat) : (woTo S a k).length ≤ S.length := by
  unfold woTo
  exact Nat.le_trans (List.length_filter_le _ _) (by simp; omega)
theorem woL_len (S : List Int) (a : Int) : (woL S a).length ≤ S.length := List.length_filter_le _ _
theorem mem_woL {S : List Int} {a x : Int} : x ∈ woL S a ↔ x ∈ S ∧ x ≠ a := by simp [woL]
theorem woL_set {F : Fld} {S : List Int} (h : setB F S = true) (a : Int) : setB F (woL S a) = true := by
  have hr := ris_iff.1 h
  exact ris_iff.2 ⟨hr.1.filter _, fun x hx => hr.2 x (mem_woL.1 hx).1⟩
set_option maxRecDepth 100000 in
set_option maxHeartbeats 400000 in
theorem l2Without_any (A0 : Option Addr) (S : List Int) (n c0 : Nat) (a : Int) (w : World) (hS : IntsAt w A0 S) (hn : S.length = n) (hl : n ≤ 100000) :
    Calls Tryz.prog 81 #[.slice A0 n c0, .int .i64 a] w fun e w' => ∃ v, e = .returned v ∧ Own w' w.heap.size v (woL S a) ∧ Kp w w' := by
  have Hn := Lib.hid hn
  clear hn
  go_enter Tryz.func81, Tryz.ntmps81
  go_wp2_with fail
  have o1 := own_new0 w w.heap.size (Nat.le_refl _)
  have hkn := (Kp.refl w).alloc (.cells #[] 3)
  go_loopw [5, 6] (fun ov iv wr => ∃ k : Nat, k ≤ n ∧ iv = .int .i64 k ∧ Own wr w.heap.size ov (woTo S a k) ∧ Kp w wr) (fun _ iv _ => n - (intOf iv).toNat)
  case atStart => exact ⟨0, by omega, rfl, o1, hkn⟩
  case round =>
    clear o1 hkn
    obtain ⟨k, hk, rfl, hown, hkb⟩ := hrel
    by_cases hlt : k < n
    · have lx : k < S.length := by rw [Hn.out]; exact hlt
      obtain ⟨sd, rfl, hc⟩ := hS.at_ lx
      have hlw := woTo_len S a k
      rw [Hn.out] at hlw
      have hl2 : (woTo S a k).length < 1048576 := by omega
      cases hne : (S[k] != a)
      · have Hy := Lib.hid (woTo_no lx hne)
        have q0 := hkb.get hc
        go_wp2_with fail
        go_roundw
        case rel => exact ⟨k + 1, by omega, by go_num, by rw [Hy.out]; exact hown, hkb⟩
        case measure => simp [intOf]; omega
      · have Hy := Lib.hid (woTo_yes lx hne)
        have q_hc := hkb.get hc
        go_wp2_with (at_builtin; go_loud (refine wpl_app rfl (.tmp 20) (.tmp 25) rfl (w.heap.size) _ (woTo S a k) (S[k]) rfl rfl hown hkb.le (by omega) ?_; intro v' w' ho' ht' h4'; have hkb' := hown.kp_turn hkb (Nat.le_refl _) ht'; have r_hc := hkb'.get hc))
        go_roundw
        case rel => exact ⟨k + 1, by omega, by go_num, by rw [Hy.out]; exact ho', hkb'⟩
        case measure => simp [intOf]; omega
    · have Hy := Lib.hid (woTo_all (S := S) (a := a) (k := k) (by rw [Hn.out]; omega))
      go_wp2_with fail
      go_ret
      exact ⟨_, rfl, by rw [← Hy.out]; exact hown, hkb⟩
end Go.Proofs.YtlglonjijfpgaaaGreat

namespace Go.Proofs.YtlglonjijfpgaaaGreat
open Go.RowKit Go.Sort

theorem more_nn0 {F : Fld} {worth : Int} {S : List Int} (a : Int) : 0 ≤ moreF F worth S a := by
  have := gain_mono (F := F) (worth := worth) (S := S) (T := putL S a) fun x hx => mem_putL.2 (.inl hx)
  unfold moreF; omega
/-- Is the gain x at the cost p a greater quotient than y at q: as the reference tells it, and as the program does. -/
def richB (x y p q : Int) : Bool := if x = 0 ∨ y = 0 then decide (0 < x) else decide (y * p < x * q)
def betB (x p y q : Int) : Bool := if x = 0 ∨ y = 0 then decide (y < x) else if p = 0 ∨ q = 0 then decide (0 < q) else decide (y * p < x * q)
theorem bet_rich {x y p q : Int} (hx : 0 ≤ x) (hy : 0 ≤ y) (hp : 0 ≤ p) (hq : 0 ≤ q) : betB x p y q = richB x y p q := by
  unfold betB richB
  by_cases h : x = 0 ∨ y = 0
  · rw [if_pos h, if_pos h, decide_eq_decide]
    rcases h with h | h
    · subst h; omega
    · subst h; omega
  · rw [if_neg h, if_neg h]
    have hx1 : 0 < x := by omega
    have hy1 : 0 < y := by omega
    by_cases h2 : p = 0 ∨ q = 0
    · rw [if_pos h2, decide_eq_decide]
      rcases h2 with h2 | h2
      · subst h2
        rw [Int.mul_zero]
        constructor
        · intro h3; exact Int.mul_pos hx1 h3
        · intro h3
          rcases Int.lt_or_le 0 q with h4 | h4
          · exact h4
          · obtain rfl : q = 0 := by omega
            rw [Int.mul_zero] at h3; omega
      · subst h2
        rw [Int.mul_zero]
        constructor
        · intro h3; omega
        · intro h3
          have := Int.mul_nonneg hy hp
          omega
    · rw [if_neg h2]
def richF (F : Fld) (worth : Int) (S : List Int) (a b : Int) : Bool := richB (moreF F worth S a) (moreF F worth S b) (opAt F a) (opAt F b)
def rStep (F : Fld) (worth : Int) (S : List Int) (b a : Int) : Int := if b < 0 ∨ richF F worth S a b = true then a else b
def rBest (F : Fld) (worth : Int) (S : List Int) (L : List Int) : Int := L.foldl (rStep F worth S) (-1)
theorem rBest_snoc (F : Fld) (worth : Int) (S L : List Int) (a : Int) : rBest F worth S (L ++ [a]) = rStep F worth S (rBest F worth S L) a := by
  rw [rBest, List.foldl_append]; rfl
theorem rBest_mem {F : Fld} {worth : Int} {S : List Int} : ∀ (L : List Int) (b : Int), L.foldl (rStep F worth S) b = b ∨ L.foldl (rStep F worth S) b ∈ L
  | [], b => .inl rfl
  | a :: t, b => by
    rw [List.foldl_cons]
    rcases rBest_mem t (rStep F worth S b a) with h | h
    · rw [h]
      unfold rStep
      split
      · exact .inr (by simp)
      · exact .inl rfl
    · exact .inr (List.mem_cons_of_mem _ h)
theorem rBest_cons {F : Fld} {worth : Int} {S : List Int} (a : Int) (t : List Int) : rBest F worth S (a :: t) = t.foldl (rStep F worth S) a := by
  rw [rBest, List.foldl_cons, rStep, if_pos (.inl (by omega))]
theorem rBest_in {F : Fld} {worth : Int} {S L : List Int} (h : L ≠ []) : rBest F worth S L ∈ L := by
  cases L with
  | nil => exact absurd rfl h
  | cons a t =>
    rw [rBest_cons]
    rcases rBest_mem (F := F) (worth := worth) (S := S) t a with h | h
    · rw [h]; simp
    · exact List.mem_cons_of_mem _ h
/-- The sites below k that a bag does not hold. -/
def leftS (s k : Nat) : List Int := ((List.range k).filter fun (a : Nat) => !s.testBit a).map fun (a : Nat) => (a : Int)
theorem left_no {s k : Nat} (h : s.testBit k = true) : leftS s (k + 1) = leftS s k := by
  simp only [leftS, List.range_succ, List.filter_append, List.map_append]
  rw [show [k].filter (fun (a : Nat) => !s.testBit a) = [] from by simp [List.filter, h]]
  simp
theorem left_yes {s k : Nat} (h : s.testBit k = false) : leftS s (k + 1) = leftS s k ++ [(k : Int)] := by
  simp only [leftS, List.range_succ, List.filter_append, List.map_append]
  rw [show [k].filter (fun (a : Nat) => !s.testBit a) = [k] from by simp [List.filter, h]]
  simp
theorem left_zero (s : Nat) : leftS s 0 = [] := rfl
theorem left_all (n : Nat) : leftS 0 n = (List.range n).map fun (a : Nat) => (a : Int) := by
  unfold leftS
  rw [List.filter_eq_self.2 (by simp)]
theorem left_bits (n : Nat) : bitsL n (2 ^ n - 1) = leftS 0 n := by
  rw [left_all]
  unfold bitsL bitsN
  rw [List.filter_eq_self.2 (fun x hx => by rw [Nat.testBit_two_pow_sub_one]; simpa using hx)]
theorem mem_left {s k : Nat} {x : Int} : x ∈ leftS s k ↔ ∃ a : Nat, a < k ∧ s.testBit a = false ∧ x = (a : Int) := by
  simp only [leftS, List.mem_map, List.mem_filter, List.mem_range]
  constructor
  · rintro ⟨a, ⟨h1, h2⟩, rfl⟩; exact ⟨a, h1, by simpa using h2, rfl⟩
  · rintro ⟨a, h1, h2, rfl⟩; exact ⟨a, ⟨h1, by simpa using h2⟩, rfl⟩
theorem left_nodup (s k : Nat) : (leftS s k).Nodup := by
  have h : ((List.range k).filter fun (a : Nat) => !s.testBit a).Nodup := List.Pairwise.filter (R := (· ≠ ·)) _ List.nodup_range
  unfold leftS List.Nodup
  rw [List.pairwise_map]
  exact h.imp (by intro a b hab e; exact hab (by omega))
theorem left_len (s k : Nat) : (leftS s k).length ≤ k := by
  rw [leftS, List.length_map]
  exact Nat.le_trans (List.length_filter_le _ _) (by simp)
theorem left_wo (s k a : Nat) : woL (leftS s k) (a : Int) = leftS (s ||| 2 ^ a) k := by
  unfold woL leftS
  rw [List.filter_map, List.filter_filter]
  congr 1
  apply List.filter_congr
  intro x _
  simp only [Function.comp, Nat.testBit_or, Nat.testBit_two_pow]
  by_cases h : x = a
  · subst h; simp
  · have h1 : ¬ a = x := fun e => h e.symm
    have h2 : ((x : Int) != (a : Int)) = true := by rw [bne_iff_ne]; omega
    simp [h1, h2]
theorem wo_len {L : List Int} {a : Int} (hn : L.Nodup) (ha : a ∈ L) : (woL L a).length + 1 = L.length := by
  have h1 : woL L a = L.erase a := by rw [List.Nodup.erase_eq_filter hn]; rfl
  have h2 := List.length_erase_of_mem ha
  have h3 : 0 < L.length := List.length_pos_of_mem ha
  rw [h1]; omega
def rPut (F : Fld) (worth budget : Int) (S : List Int) (a : Int) : Bool := decide (0 < moreF F worth S a) && decide (payF F (putL S a) ≤ budget)
/-- The rounds: s has been looked at, S is taken. -/
def rGo (F : Fld) (worth budget : Int) : Nat → Nat → List Int → List Int
  | 0, _, S => S
  | j + 1, s, S => rGo F worth budget j (s ||| 2 ^ (rBest F worth S (leftS s F.op.length)).toNat) (if rPut F worth budget S (rBest F worth S (leftS s F.op.length)) = true then putL S (rBest F worth S (leftS s F.op.length)) else S)
def rTake (F : Fld) (worth budget : Int) (S : List Int) (a : Int) : List Int := if rPut F worth budget S a = true then putL S a else S
theorem rGo_succ (F : Fld) (worth budget : Int) (j s : Nat) (S : List Int) : rGo F worth budget (j + 1) s S = rGo F worth budget j (s ||| 2 ^ (rBest F worth S (leftS s F.op.length)).toNat) (rTake F worth budget S (rBest F worth S (leftS s F.op.length))) := rfl
theorem rTake_set {F : Fld} {worth budget : Int} {S : List Int} {a : Int} (h : setB F S = true) (h0 : 0 ≤ a) (h1 : a < F.op.length) : setB F (rTake F worth budget S a) = true := by
  unfold rTake
  split
  · exact setB_put h h0 h1
  · exact h
theorem left_site {F : Fld} {worth : Int} {S : List Int} {s : Nat} (h : leftS s F.op.length ≠ []) : ∃ a : Nat, rBest F worth S (leftS s F.op.length) = a ∧ a < F.op.length ∧ s.testBit a = false := by
  obtain ⟨a, h1, h2, h3⟩ := mem_left.1 (rBest_in (F := F) (worth := worth) (S := S) h)
  exact ⟨a, h3, h1, h2⟩
theorem rGo_set {F : Fld} {worth budget : Int} : ∀ (j s : Nat) (S : List Int), setB F S = true → (leftS s F.op.length).length = j → setB F (rGo F worth budget j s S) = true
  | 0, s, S, h, _ => h
  | j + 1, s, S, h, hl => by
    rw [rGo_succ]
    have hne : leftS s F.op.length ≠ [] := fun e => by rw [e] at hl; simp at hl
    obtain ⟨a, e, ha, hb⟩ := left_site (F := F) (worth := worth) (S := S) hne
    rw [e]
    refine rGo_set j _ _ (rTake_set h (by omega) (by omega)) ?_
    rw [show ((a : Int)).toNat = a from by omega, ← left_wo]
    have := wo_len (left_nodup s F.op.length) (mem_left.2 ⟨a, ha, hb, rfl⟩)
    omega
def oneR (F : Fld) (worth budget : Int) : List Int := rGo F worth budget F.op.length 0 []
theorem left_full (n : Nat) : (leftS 0 n).length = n := by rw [left_all]; simp
theorem oneR_set {F : Fld} {worth budget : Int} : setB F (oneR F worth budget) = true := rGo_set _ _ _ (by have := bitsL_set (F := F) 0; rwa [bits_zero] at this) (left_full _)
/-- The single sites, as the reference goes through them. -/
def sgTo (F : Fld) (worth budget : Int) : Nat → List Int
  | 0 => []
  | a + 1 => if opAt F a ≤ budget ∧ gainF F worth (sgTo F worth budget a) < gainF F worth [(a : Int)] then [(a : Int)] else sgTo F worth budget a
theorem sg_set {F : Fld} {worth budget : Int} : ∀ k, k ≤ F.op.length → setB F (sgTo F worth budget k) = true ∧ (sgTo F worth budget k).length ≤ 1
  | 0, _ => ⟨by have := bitsL_set (F := F) 0; rwa [bits_zero] at this, by simp [sgTo]⟩
  | k + 1, h => by
    rw [sgTo]
    split
    · exact ⟨ris_iff.2 ⟨List.pairwise_singleton _ _, fun x hx => by have : x = (k : Int) := (by simpa using hx); omega⟩, by simp⟩
    · exact sg_set k (by omega)
def sP (F : Fld) (k : Int) (S : List Int) : Bool := decide ((S.length : Int) < 2) && aP F k S
theorem pay_one {F : Fld} {a : Nat} (ha : a < F.op.length) : payF F [(a : Int)] = opAt F a := by
  simp [payF]
theorem sing_bef {a b : Nat} (h : a < b) : befB [(a : Int)] [(b : Int)] = true := by
  simp [befB, cmpS, lexC, h]
/-- The affordable sets of at most one site, in their order. -/
theorem sing_list (F : Fld) (k : Int) (hk : 0 ≤ k) : (allS F.op.length).filter (sP F k) = [] :: (((List.range F.op.length).filter fun (a : Nat) => decide (opAt F a ≤ k)).map fun (a : Nat) => [(a : Int)]) := by
  have h0 : sP F k [] = true := by simp [sP, aP_nil hk]
  rw [allS, List.filter_cons, if_pos h0]
  congr 1
  refine List.Perm.eq_of_pairwise (le := fun a b => befB a b = true) (fun a b _ _ h h' => by have := befB_asymm h; rw [h'] at this; cases this) ((setsL_sorted _).filter _) ?_ ?_
  · rw [List.pairwise_map]
    have : ((List.range F.op.length).filter fun (a : Nat) => decide (opAt F a ≤ k)).Pairwise (· < ·) := List.pairwise_lt_range.filter _
    exact this.imp (by intro a b h; exact sing_bef h)
  · refine (List.perm_ext_iff_of_nodup ?_ ?_).2 ?_
    · exact List.Pairwise.filter (R := (· ≠ ·)) _ ((setsL_perm _).nodup_iff.2 (codesL_nodup _))
    · unfold List.Nodup
      rw [List.pairwise_map]
      have : ((List.range F.op.length).filter fun (a : Nat) => decide (opAt F a ≤ k)).Nodup := List.Pairwise.filter (R := (· ≠ ·)) _ List.nodup_range
      exact this.imp (by intro a b hab e; apply hab; have : (a : Int) = b := by simpa using e
                         omega)
    · intro S
      rw [List.mem_filter, (setsL_perm _).mem_iff, mem_codesL, List.mem_map]
      constructor
      · rintro ⟨⟨hne, hr⟩, hs⟩
        have hr' := ris_iff.1 hr
        simp only [sP, Bool.and_eq_true, decide_eq_true_eq] at hs
        cases S with
        | nil => exact absurd rfl hne
        | cons x t =>
          cases t with
          | cons y t => simp at hs; omega
          | nil =>
            have hx := hr'.2 x (by simp)
            obtain ⟨a, rfl⟩ := Int.eq_ofNat_of_zero_le hx.1
            refine ⟨a, List.mem_filter.2 ⟨List.mem_range.2 (by omega), ?_⟩, rfl⟩
            have := hs.2
            simp only [aP, decide_eq_true_eq] at this
            rw [pay_one (by omega)] at this
            simpa using this
      · rintro ⟨a, ha, rfl⟩
        rw [List.mem_filter, List.mem_range, decide_eq_true_eq] at ha
        refine ⟨⟨by simp, ris_iff.2 ⟨List.pairwise_singleton _ _, fun x hx => by have : x = (a : Int) := by simpa using hx
                                                                                 omega⟩⟩, ?_⟩
        simp only [sP, aP, Bool.and_eq_true, decide_eq_true_eq]
        rw [pay_one ha.1]
        exact ⟨by simp, ha.2⟩
theorem sing_best (F : Fld) (worth k : Int) (hk : 0 ≤ k) : bgF F worth (sP F k) = sgTo F worth k F.op.length := by
  rw [bgF, sing_list F k hk]
  show bestL _ _ = _
  rw [bestL]
  have key : ∀ n : Nat, (((List.range n).filter fun (a : Nat) => decide (opAt F a ≤ k)).map fun (a : Nat) => [(a : Int)]).foldl (bestStep (negG F worth)) [] = sgTo F worth k n := by
    intro n
    induction n with
    | zero => rfl
    | succ n ih =>
      rw [List.range_succ, List.filter_append, List.map_append, List.foldl_append, ih, sgTo]
      by_cases h : opAt F n ≤ k
      · rw [show [n].filter (fun (a : Nat) => decide (opAt F a ≤ k)) = [n] from by simp [List.filter, h]]
        simp only [List.map_cons, List.map_nil, List.foldl_cons, List.foldl_nil, bestStep]
        by_cases h2 : gainF F worth (sgTo F worth k n) < gainF F worth [(n : Int)]
        · rw [if_pos (show negG F worth [(n : Int)] < negG F worth (sgTo F worth k n) by unfold negG; omega), if_pos ⟨h, h2⟩]
        · rw [if_neg (show ¬ negG F worth [(n : Int)] < negG F worth (sgTo F worth k n) by unfold negG; omega), if_neg (fun hh => h2 hh.2)]
      · rw [show [n].filter (fun (a : Nat) => decide (opAt F a ≤ k)) = [] from by simp [List.filter, h]]
        rw [if_neg (fun hh => h hh.1)]
        rfl
  rw [List.foldl_cons]
  have e0 : bestStep (negG F worth) (([] :: (((List.range F.op.length).filter fun (a : Nat) => decide (opAt F a ≤ k)).map fun (a : Nat) => [(a : Int)])).getD 0 []) [] = [] := by
    simp [bestStep]
  rw [e0]
  exact key _
def rgL (F : Fld) (worth k : Int) : List Int := if bbOk F worth k = true then (if gainF F worth (oneR F worth k) < gainF F worth (sgTo F worth k F.op.length) then sgTo F worth k F.op.length else oneR F worth k) else []
theorem rgL_no {F : Fld} {worth k : Int} (h : bbOk F worth k = false) : rgL F worth k = [] := if_neg (by simp [h])
theorem rgL_one {F : Fld} {worth k : Int} (h : bbOk F worth k = true) (h2 : ¬ gainF F worth (oneR F worth k) < gainF F worth (sgTo F worth k F.op.length)) : rgL F worth k = oneR F worth k := by rw [rgL, if_pos h, if_neg h2]
theorem rgL_two {F : Fld} {worth k : Int} (h : bbOk F worth k = true) (h2 : gainF F worth (oneR F worth k) < gainF F worth (sgTo F worth k F.op.length)) : rgL F worth k = sgTo F worth k F.op.length := by rw [rgL, if_pos h, if_pos h2]
theorem rgL_len (F : Fld) (worth k : Int) : (rgL F worth k).length ≤ 1048576 := by
  by_cases h : bbOk F worth k = true
  · have h7 := (goodF_iff.1 (bbOk_parts h).1).1.2
    by_cases h2 : gainF F worth (oneR F worth k) < gainF F worth (sgTo F worth k F.op.length)
    · rw [rgL_two h h2]; have := (sg_set (F := F) (worth := worth) (budget := k) _ (Nat.le_refl _)).2; omega
    · rw [rgL_one h h2]; have := set_len (oneR_set (F := F) (worth := worth) (budget := k)); omega
  · rw [rgL_no (by simpa using h)]; simp
end Go.Proofs.YtlglonjijfpgaaaGreat

namespace Go.Proofs.YtlglonjijfpgaaaGreat
open Go.RowKit Go.Sort

theorem mul_bd {x q X Q : Int} (h0 : 0 ≤ x) (h1 : x ≤ X) (h2 : 0 ≤ q) (h3 : q ≤ Q) : 0 ≤ x * q ∧ x * q ≤ X * Q :=
  ⟨Int.mul_nonneg h0 h2, Int.mul_le_mul h1 h3 h2 (by omega)⟩
theorem opCellN {w : World} {ad : Addr} {F : Fld} {a : Nat} (h : IntsAt w (some ad) F.op) (h1 : a < F.op.length) : w.cell? (ad.add a) = some (.int .i64 (opAt F a)) := by
  have := opCell (a := (a : Int)) h (by omega) (by omega)
  simpa using this
set_option maxRecDepth 100000 in
set_option maxHeartbeats 1000000 in
theorem l8Richer_any (f : Value) (F : Fld) (worth : Int) (A0 : Option Addr) (S : List Int) (n c0 a b : Nat) (w : World) (hf : FldAt w f F) (hS : IntsAt w A0 S) (hn : S.length = n) (hc : n ≤ c0) (hg : goodF F = true) (hs : setB F S = true) (hw0 : 0 ≤ worth) (hw1 : worth ≤ 999) (ha : a < F.op.length) (hb : b < F.op.length) :
    Calls Tryz.prog 80 #[f, .int .i64 worth, .slice A0 n c0, .int .i64 a, .int .i64 b] w fun e w' => e = .returned (.bool (richF F worth S a b)) ∧ Kp w w' := by
  have h7 := (goodF_iff.1 hg).1.2
  have hx0 := more_nn0 (F := F) (worth := worth) (S := S) a
  have hy0 := more_nn0 (F := F) (worth := worth) (S := S) b
  have hx1 := (moreF_bd hg hw0 hw1 S a).2
  have hy1 := (moreF_bd hg hw0 hw1 S b).2
  obtain ⟨p0, p1⟩ := opAt_bd hg (a : Int)
  obtain ⟨q0, q1⟩ := opAt_bd hg (b : Int)
  obtain ⟨A, c, B, d, rfl, hA, hB⟩ := hf
  have hk0 : Kp w (w.alloc (.cells #[.slice A F.op.length c, .slice B F.di.length d] 27)) := (Kp.refl w).alloc _
  obtain ⟨d0, d1⟩ := box2 w (.slice A F.op.length c) (.slice B F.di.length d) 27
  have hFA := FldAt.kp (show FldAt w (.agg #[.slice A F.op.length c, .slice B F.di.length d]) F from ⟨A, c, B, d, rfl, hA, hB⟩) hk0
  obtain ⟨od, rfl, _⟩ := hA.at_ (k := 0) (by omega)
  replace hA := hA.kp hk0
  have hS0 := hS.kp hk0
  have HG := Lib.hid hg
  have HS := Lib.hid hs
  have Hn := Lib.hid hn
  have hal : (a : Int) < (F.op.length : Int) := by omega
  have hbl : (b : Int) < (F.op.length : Int) := by omega
  clear hS hB hg hs hn
  go_enter Tryz.func80, Tryz.ntmps80
  go_wp2_with fail
  have hsz : Hid ((w.alloc (.cells #[.slice (some od) F.op.length c, .slice B F.di.length d] 27)).heap.size = w.heap.size + 1) := by show _ = _; simp
  generalize w.alloc (.cells #[.slice (some od) F.op.length c, .slice B F.di.length d] 27) = wb at *
  have hkb : Kp wb wb := Kp.refl _
  have hkw := hk0
  have C1 := Lib.hid (fun (wx : World) (hx : Kp wb wx) => l8More_any _ F worth A0 S n c0 (a : Int) wx (hFA.kp hx) (hS0.kp hx) Hn.out hc HG.out HS.out hw0 hw1 (by omega) hal)
  have C2 := Lib.hid (fun (wx : World) (hx : Kp wb wx) => l8More_any _ F worth A0 S n c0 (b : Int) wx (hFA.kp hx) (hS0.kp hx) Hn.out hc HG.out HS.out hw0 hw1 (by omega) hbl)
  obtain ⟨x, Hx⟩ : ∃ x, Hid (x = moreF F worth S a) := ⟨_, rfl⟩
  obtain ⟨y, Hy⟩ : ∃ y, Hid (y = moreF F worth S b) := ⟨_, rfl⟩
  have hR : Hid (richF F worth S a b = richB x y (opAt F a) (opAt F b)) := by show _ = _; rw [Hx.out, Hy.out]; rfl
  rw [← Hx.out] at hx0 hx1 C1
  rw [← Hy.out] at hy0 hy1 C2
  have q_d0 := hkb.get d0
  have q_d1 := hkb.get d1
  have tok1 : True := trivial
  go_wp2_with fail
  go_region_held3 (fun w' => w'.cell? ⟨w.heap.size, 0, none⟩ = some (.slice (some od) F.op.length c) ∧ w'.cell? ⟨w.heap.size, 1, none⟩ = some (.slice B F.di.length d) ∧ Kp wb w')
    (first | (refine keepc2 d0 d1 ?_; exact (by repeat (first | with_reducible assumption | with_reducible exact Kp.refl _ | with_reducible refine Kp.drew ?_ | with_reducible refine Kp.alloc ?_ _ | with_reducible refine Kp.drewN ?_ _ | refine Kp.setCell ?_ (by dsimp only; omega) _))) | fail)
    (first
      | (have _t := tok1; go_at_call 32; with_reducible refine Calls.mono (C1.out _ (by repeat (first | with_reducible assumption | with_reducible exact Kp.refl _ | with_reducible refine Kp.drew ?_ | with_reducible refine Kp.alloc ?_ _ | with_reducible refine Kp.drewN ?_ _ | refine Kp.setCell ?_ (by dsimp only; omega) _))) ?_; rintro e wr1 ⟨rfl, hka⟩; have hr1 : Kp wb wr1 := Kp.trans (by repeat (first | with_reducible assumption | with_reducible exact Kp.refl _ | with_reducible refine Kp.drew ?_ | with_reducible refine Kp.alloc ?_ _ | with_reducible refine Kp.drewN ?_ _ | refine Kp.setCell ?_ (by dsimp only; omega) _)) hka; have tok2 : True := trivial; clear tok1 _t)
      | (have _t := tok2; go_at_call 32; with_reducible refine Calls.mono (C2.out _ (by repeat (first | with_reducible assumption | with_reducible exact Kp.refl _ | with_reducible refine Kp.drew ?_ | with_reducible refine Kp.alloc ?_ _ | with_reducible refine Kp.drewN ?_ _ | refine Kp.setCell ?_ (by dsimp only; omega) _))) ?_; rintro e wr2 ⟨rfl, hka⟩; have hr2 : Kp wb wr2 := Kp.trans (by repeat (first | with_reducible assumption | with_reducible exact Kp.refl _ | with_reducible refine Kp.drew ?_ | with_reducible refine Kp.alloc ?_ _ | with_reducible refine Kp.drewN ?_ _ | refine Kp.setCell ?_ (by dsimp only; omega) _)) hka; have tok3 : True := trivial; clear tok2 _t)
      | fail)
  all_goals
    clear C1 C2
    replace hkb := hr2
    have hca := hA.kp hkb |> fun h => opCellN h ha
    have hcb := hA.kp hkb |> fun h => opCellN h hb
    by_cases hx : x = 0
    · have hxb : (x == 0) = true := by simpa using hx
      have hR2 : Hid (decide (0 < x) = richF F worth S a b) := by show _ = _; rw [hR.out, richB, if_pos (.inl hx)]
      clear q_d0 q_d1
      have q_d0 := hkb.get d0
      have q_d1 := hkb.get d1
      go_wp2_with fail
      go_ret
      exact ⟨ret_bool (by rw [← hR2.out]; simp [hx]), hkw.trans hkb⟩
    · have hxb : (x == 0) = false := by simpa using hx
      by_cases hy : y = 0
      · have hyb : (y == 0) = true := by simpa using hy
        have hR2 : Hid (decide (0 < x) = richF F worth S a b) := by show _ = _; rw [hR.out, richB, if_pos (.inr hy)]
        clear q_d0 q_d1
        have q_d0 := hkb.get d0
        have q_d1 := hkb.get d1
        go_wp2_with fail
        go_ret
        exact ⟨ret_bool hR2.out, hkw.trans hkb⟩
      · have hyb : (y == 0) = false := by simpa using hy
        have hR2 : Hid (decide (y * opAt F a < x * opAt F b) = richF F worth S a b) := by show _ = _; rw [hR.out, richB, if_neg (by omega)]
        obtain ⟨m1, m2⟩ := mul_bd hx0 hx1 q0 q1
        obtain ⟨m3, m4⟩ := mul_bd hy0 hy1 p0 p1
        have hwr1 : IntKind.i64.wrap (x * opAt F b) = x * opAt F b := IntWalk.i64_in _ (by omega)
        have hwr2 : IntKind.i64.wrap (y * opAt F a) = y * opAt F a := IntWalk.i64_in _ (by omega)
        clear q_d0 q_d1
        have q_d0 := hkb.get d0
        have q_d1 := hkb.get d1
        go_wp2_with fail
        go_quiet (fail)
        clear q_d0 q_d1
        have q_d0 := hkb.get d0
        have q_d1 := hkb.get d1
        go_wp2_with fail
        go_ret
        exact ⟨ret_bool hR2.out, (hkw.trans hkb).drewN _⟩
end Go.Proofs.YtlglonjijfpgaaaGreat

namespace Go.Proofs.YtlglonjijfpgaaaGreat
open Go.RowKit Go.Sort

set_option maxRecDepth 100000 in
set_option maxHeartbeats 3000000 in
theorem l8Ratio_any (f : Value) (F : Fld) (worth k : Int) (w : World) (hf : FldAt w f F) (hg : goodF F = true) (hw0 : 0 ≤ worth) (hw1 : worth ≤ 999) (hk0' : 0 ≤ k) (hk9 : k ≤ 9999) :
    Calls Tryz.prog 53 #[f, .int .i64 worth, .int .i64 k] w fun e w' => ∃ v, e = .returned v ∧ Own w' w.heap.size v (oneR F worth k) ∧ Kp w w' := by
  have h7 := (goodF_iff.1 hg).1.2
  have hp := (goodF_iff.1 hg).1.1
  obtain ⟨P, HP, hpw, hP⟩ := pow_wrap (F.op.length : Int) (by omega) (by omega)
  rw [Int.toNat_natCast] at hpw
  have HP' : Hid (P = 2 ^ F.op.length) := by show P = _; simpa using HP.out
  have hP128 : P ≤ 128 := by rw [HP'.out]; exact Nat.pow_le_pow_right (by omega) h7
  have hP1 : 1 ≤ P := by rw [HP'.out]; exact Nat.one_le_two_pow
  obtain ⟨A, c, B, d, rfl, hA, hB⟩ := hf
  have hk0 : Kp w (w.alloc (.cells #[.slice A F.op.length c, .slice B F.di.length d] 27)) := (Kp.refl w).alloc _
  obtain ⟨d0, d1⟩ := box2 w (.slice A F.op.length c) (.slice B F.di.length d) 27
  have hFA := FldAt.kp (show FldAt w (.agg #[.slice A F.op.length c, .slice B F.di.length d]) F from ⟨A, c, B, d, rfl, hA, hB⟩) hk0
  have HG := Lib.hid hg
  clear hA hB hg
  go_enter Tryz.func53, Tryz.ntmps53
  go_wp2_with fail
  have hsz : Hid ((w.alloc (.cells #[.slice A F.op.length c, .slice B F.di.length d] 27)).heap.size = w.heap.size + 1) := by show _ = _; simp
  generalize w.alloc (.cells #[.slice A F.op.length c, .slice B F.di.length d] 27) = wb at *
  have hkb : Kp wb wb := Kp.refl _
  have hkw := hk0
  have hpw3 : IntKind.i64.wrap (2 ^ F.op.length : Int) = (P : Int) := by
    have e2 : (2 ^ F.op.length : Int) = (P : Int) := by rw [HP'.out]; simp
    rw [e2]; exact IntWalk.i64_in _ (by omega)
  have hpw2 : IntKind.i64.wrap ((P : Int) - 1) = ((P - 1 : Nat) : Int) := by rw [IntWalk.i64_in _ (by omega)]; omega
  have C1 := Lib.hid (fun (wx : World) (_ : Kp wb wx) => l2Bits_any F.op.length (P - 1) wx (by omega) (by omega))
  go_cut [7, 8] (fun sv lv wc => ∃ sv0 lv0, sv = sv0 ∧ lv = lv0 ∧ Own wc wb.heap.size sv0 [] ∧ sv0 ≠ .slice none 0 0 ∧ Own wc wb.heap.size lv0 (leftS 0 F.op.length) ∧ Kp wb wc)
  case first =>
    have hlb : bitsL F.op.length (P - 1) = leftS 0 F.op.length := by rw [HP'.out]; exact left_bits _
    rw [hlb] at C1
    have hn0 := own_new0 wb wb.heap.size (Nat.le_refl _)
    have q_d0 := hkb.get d0
    have q_d1 := hkb.get d1
    have tok1 : True := trivial
    go_wp2_with fail
    go_region_held3 (fun w' => w'.cell? ⟨w.heap.size, 0, none⟩ = some (.slice A F.op.length c) ∧ w'.cell? ⟨w.heap.size, 1, none⟩ = some (.slice B F.di.length d) ∧ Kp wb w')
      (first | (refine keepc2 d0 d1 ?_; exact (by repeat (first | with_reducible assumption | with_reducible exact Kp.refl _ | with_reducible refine Kp.drew ?_ | with_reducible refine Kp.alloc ?_ _ | with_reducible refine Kp.drewN ?_ _ | refine Kp.setCell ?_ (by dsimp only; omega) _))) | fail)
      (first
        | (have _t := tok1; go_at_call 79; with_reducible refine Calls.mono (C1.out _ (by repeat (first | with_reducible assumption | with_reducible exact Kp.refl _ | with_reducible refine Kp.drew ?_ | with_reducible refine Kp.alloc ?_ _ | with_reducible refine Kp.drewN ?_ _ | refine Kp.setCell ?_ (by dsimp only; omega) _))) ?_; rintro e wr1 ⟨v, rfl, ho, hka⟩; have hr1 : Kp wb wr1 := Kp.trans (by repeat (first | with_reducible assumption | with_reducible exact Kp.refl _ | with_reducible refine Kp.drew ?_ | with_reducible refine Kp.alloc ?_ _ | with_reducible refine Kp.drewN ?_ _ | refine Kp.setCell ?_ (by dsimp only; omega) _)) hka; have tok2 : True := trivial; clear tok1 _t)
        | fail)
    all_goals
      (try go_wp2_with fail)
      go_meet
    · exact ⟨_, _, rfl, rfl, hn0.kp (Kp.trans (Kp.refl _).drew hka), by simp, ho.mono (by simp), hr1⟩
    · exact ⟨_, _, rfl, rfl, own_new0 wr1 wb.heap.size hr1.le, by simp, (ho.mono (by simp)).kp ((Kp.refl _).alloc _), hr1.alloc _⟩
  case rest =>
    clear C1
    obtain ⟨sv0, lv0, rfl, rfl, hsv, hnn, hlv, hkq⟩ := hcut
    replace hkb := hkq
    clear hkq
    have hz : setB F [] = true := by have := bitsL_set (F := F) 0; rwa [bits_zero] at this
    have q_d0 := hkb.get d0
    have q_d1 := hkb.get d1
    go_wp2_with fail
    go_loopw [7, 8] (fun sv lv wr => ∃ (s : Nat) (S : List Int), Own wr wb.heap.size sv S ∧ Own wr wb.heap.size lv (leftS s F.op.length) ∧ Hid (setB F S = true) ∧ Hid (∀ x ∈ S, s.testBit x.toNat = true) ∧ Hid (rGo F worth k (leftS s F.op.length).length s S = oneR F worth k) ∧ Kp wb wr) (fun _ lv _ => sLen lv)
    case atStart => exact ⟨0, [], hsv, hlv, hz, by show ∀ x ∈ [], _; simp, by show _ = _; rw [left_full]; rfl, hkb⟩
    case round =>
      obtain ⟨s, S, hsv, hlv, HS, Hsb, HR, hkb⟩ := hrel
      have hS7 := set_len HS.out
      obtain ⟨A7, c7, hv7, hi7⟩ := hsv.ints (by omega)
      have hc7 := hsv.cap hv7
      subst hv7
      obtain ⟨L, HL⟩ : ∃ L, Hid (L = leftS s F.op.length) := ⟨_, rfl⟩
      rw [← HL.out] at hlv HR
      have hL7 : L.length ≤ 7 := by rw [HL.out]; have := left_len s F.op.length; omega
      have HLm : Hid (∀ x ∈ L, ∃ a : Nat, a < F.op.length ∧ s.testBit a = false ∧ x = (a : Int)) := by show ∀ x ∈ L, _; rw [HL.out]; exact fun x hx => mem_left.1 hx
      obtain ⟨A8, c8, hv8, hi8⟩ := hlv.ints (by omega)
      subst hv8
      obtain ⟨n7, Hn7⟩ : ∃ n, Hid (S.length = n) := ⟨_, rfl⟩
      rw [Hn7.out] at hc7 hS7 ⊢
      by_cases hlt : 0 < L.length
      · obtain ⟨ad, rfl, hc0⟩ := hi8.at_ (k := 0) hlt
        obtain ⟨a0, ha0, _, e0⟩ := HLm.out _ (List.getElem_mem hlt)
        rw [e0] at hc0
        have hb0 : Hid (rBest F worth S (L.take 1) = (a0 : Int)) := by
          show _ = _
          rw [List.take_succ_eq_append_getElem hlt, e0, rBest_snoc, List.take_zero]
          exact if_pos (.inl (show (-1 : Int) < 0 by decide))
        clear e0
        have hc1 : wr.cell? ad = some (.int .i64 (a0 : Int)) := by have := hc0; simpa [Addr.add] using this
        have hlt2 : (0 : Int) < (L.length : Int) := by omega
        clear q_d0 q_d1
        have q_d0 := hkb.get d0
        have q_d1 := hkb.get d1
        go_wp2_with fail
        obtain ⟨wo, rfl⟩ : ∃ wo : World, wo = wr := ⟨_, rfl⟩
        go_loopw [9, 10] (fun bv iv wr => ∃ (i b : Nat), 1 ≤ i ∧ i ≤ L.length ∧ iv = .int .i64 i ∧ bv = .int .i64 b ∧ b < F.op.length ∧ Hid (rBest F worth S (L.take i) = (b : Int)) ∧ Kp wo wr) (fun _ iv _ => L.length - (intOf iv).toNat)
        case atStart => exact ⟨1, a0, by omega, by omega, rfl, rfl, ha0, hb0, Kp.refl _⟩
        case round =>
          obtain ⟨i, b, hi1, hil, rfl, rfl, hbn, HB, hki⟩ := hrel
          have hkc := hkb.trans hki
          have hi7' := hi7.kp hki
          have hi8' := hi8.kp hki
          have d6 := hkc.get d0
          have d7 := hkc.get d1
          by_cases hli : i < L.length
          · have hci := hi8'.some_ hli
            obtain ⟨a, ha, _, ea⟩ := HLm.out _ (List.getElem_mem hli)
            rw [ea] at hci
            have hst : Hid (rBest F worth S (L.take (i + 1)) = rStep F worth S b a) := by show _ = _; rw [List.take_succ_eq_append_getElem hli, ea, rBest_snoc, HB.out]
            clear ea
            have hil2 : (i : Int) < (L.length : Int) := by omega
            have C1 := Lib.hid (fun (wx : World) (hx : Kp wr wx) => l8Richer_any _ F worth A7 S n7 c7 a b wx (hFA.kp (hkc.trans hx)) (hi7'.kp hx) Hn7.out hc7 HG.out HS.out hw0 hw1 ha hbn)
            have hk6 : Kp wr wr := Kp.refl _
            cases hr : richF F worth S a b
            · have hst2 : Hid (rBest F worth S (L.take (i + 1)) = (b : Int)) := by show _ = _; rw [hst.out, rStep, if_neg (by rw [hr]; simp)]
              rw [hr] at C1
              clear hr
              clear q_d0 q_d1
              have q_d6 := hk6.get d6
              have q_d7 := hk6.get d7
              have q_hci := hk6.get hci
              have tok1 : True := trivial
              go_wp2_with fail
              go_region_held3 (fun w' => w'.cell? ⟨w.heap.size, 0, none⟩ = some (.slice A F.op.length c) ∧ w'.cell? ⟨w.heap.size, 1, none⟩ = some (.slice B F.di.length d) ∧ w'.cell? (ad.add i) = some (.int .i64 (a : Int)) ∧ Kp wr w')
                (first | (refine keepc3 d6 d7 hci ?_; exact (by repeat (first | with_reducible assumption | with_reducible exact Kp.refl _ | with_reducible refine Kp.drew ?_ | with_reducible refine Kp.alloc ?_ _ | with_reducible refine Kp.drewN ?_ _ | refine Kp.setCell ?_ (by dsimp only; omega) _))) | fail)
                (first
                  | (have _t := tok1; go_at_call 80; with_reducible refine Calls.mono (C1.out _ (by repeat (first | with_reducible assumption | with_reducible exact Kp.refl _ | with_reducible refine Kp.drew ?_ | with_reducible refine Kp.alloc ?_ _ | with_reducible refine Kp.drewN ?_ _ | refine Kp.setCell ?_ (by dsimp only; omega) _))) ?_; rintro e wr1 ⟨rfl, hka⟩; have hr1 : Kp wr wr1 := Kp.trans (by repeat (first | with_reducible assumption | with_reducible exact Kp.refl _ | with_reducible refine Kp.drew ?_ | with_reducible refine Kp.alloc ?_ _ | with_reducible refine Kp.drewN ?_ _ | refine Kp.setCell ?_ (by dsimp only; omega) _)) hka; have tok2 : True := trivial; clear tok1 _t)
                  | fail)
              all_goals
                (try go_wp2_with fail)
                go_roundw
                case rel => exact ⟨i + 1, b, by omega, by omega, by go_num, rfl, hbn, hst2, hki.trans hr1⟩
                case measure => simp [intOf]; omega
            · have hst2 : Hid (rBest F worth S (L.take (i + 1)) = (a : Int)) := by show _ = _; rw [hst.out, rStep, if_pos (.inr hr)]
              rw [hr] at C1
              clear hr
              clear q_d0 q_d1
              have q_d6 := hk6.get d6
              have q_d7 := hk6.get d7
              have q_hci := hk6.get hci
              have tok1 : True := trivial
              go_wp2_with fail
              go_region_held3 (fun w' => w'.cell? ⟨w.heap.size, 0, none⟩ = some (.slice A F.op.length c) ∧ w'.cell? ⟨w.heap.size, 1, none⟩ = some (.slice B F.di.length d) ∧ w'.cell? (ad.add i) = some (.int .i64 (a : Int)) ∧ Kp wr w')
                (first | (refine keepc3 d6 d7 hci ?_; exact (by repeat (first | with_reducible assumption | with_reducible exact Kp.refl _ | with_reducible refine Kp.drew ?_ | with_reducible refine Kp.alloc ?_ _ | with_reducible refine Kp.drewN ?_ _ | refine Kp.setCell ?_ (by dsimp only; omega) _))) | fail)
                (first
                  | (have _t := tok1; go_at_call 80; with_reducible refine Calls.mono (C1.out _ (by repeat (first | with_reducible assumption | with_reducible exact Kp.refl _ | with_reducible refine Kp.drew ?_ | with_reducible refine Kp.alloc ?_ _ | with_reducible refine Kp.drewN ?_ _ | refine Kp.setCell ?_ (by dsimp only; omega) _))) ?_; rintro e wr1 ⟨rfl, hka⟩; have hr1 : Kp wr wr1 := Kp.trans (by repeat (first | with_reducible assumption | with_reducible exact Kp.refl _ | with_reducible refine Kp.drew ?_ | with_reducible refine Kp.alloc ?_ _ | with_reducible refine Kp.drewN ?_ _ | refine Kp.setCell ?_ (by dsimp only; omega) _)) hka; have tok2 : True := trivial; clear tok1 _t)
                  | fail)
              all_goals
                have hci2 := hr1.get hci
                (try go_wp2_with fail)
                go_roundw
                case rel => exact ⟨i + 1, a, by omega, by omega, by go_num, rfl, ha, hst2, hki.trans hr1⟩
                case measure => simp [intOf]; omega
          · have hne : L ≠ [] := fun e => by rw [e] at hlt; simp at hlt
            have hbest : Hid (rBest F worth S L = (b : Int)) := by show _ = _; rw [← HB.out, List.take_of_length_le (by omega)]
            have hbL : (b : Int) ∈ L := by rw [← hbest.out]; exact rBest_in hne
            obtain ⟨b2, _, hbs, eb⟩ := HLm.out _ hbL
            obtain rfl : b2 = b := by omega
            have hnin : Hid ((b2 : Int) ∉ S) := fun h => by have := Hsb.out _ h; rw [Int.toNat_natCast, hbs] at this; cases this
            have hwl : Hid (woL L (b2 : Int) = leftS (s ||| 2 ^ b2) F.op.length) := by show _ = _; rw [HL.out, left_wo]
            have hwn := wo_len (by rw [HL.out]; exact left_nodup _ _) hbL
            have hgo : Hid (rGo F worth k (woL L (b2 : Int)).length (s ||| 2 ^ b2) (rTake F worth k S b2) = oneR F worth k) := by
              show _ = _
              rw [← HR.out, show L.length = (woL L (b2 : Int)).length + 1 from by omega, rGo_succ, ← HL.out, hbest.out, Int.toNat_natCast]
            have hnew : Hid (∀ x ∈ rTake F worth k S b2, (s ||| 2 ^ b2).testBit x.toNat = true) := by
              show ∀ x ∈ _, _
              intro x hx
              rw [Nat.testBit_or]
              have : x ∈ S ∨ x = (b2 : Int) := by
                unfold rTake at hx
                split at hx
                · exact mem_putL.1 hx
                · exact .inl hx
              rcases this with h | h
              · rw [Hsb.out x h]; rfl
              · subst h; rw [Int.toNat_natCast, Nat.testBit_two_pow_self]; simp
            have hts : Hid (setB F (rTake F worth k S b2) = true) := rTake_set HS.out (by omega) (by omega)
            have hps : Hid (setB F (putL S b2) = true) := setB_put HS.out (by omega) (by omega)
            have hpl : Hid ((putL S (b2 : Int)).length ≤ 9223372036854775807) := by show _ ≤ _; have := putL_len S (b2 : Int); have := Hn7.out; omega
            have hsv2 := hsv.kp hki
            have hk6 : Kp wr wr := Kp.refl _
            clear hbs eb hne
            clear q_d0 q_d1
            have q_d6 := hk6.get d6
            have q_d7 := hk6.get d7
            go_wp2_with fail
            have CC := Lib.hid (l2Without_any (some ad) L L.length c8 (b2 : Int) _ hi8' rfl (by omega))
            with_reducible refine Calls.mono CC.out ?_
            rintro e w1 ⟨v8, rfl, ho8, hk1⟩
            clear CC q_d6 q_d7
            replace hk6 := hk6.trans hk1
            obtain ⟨wq, ewq⟩ : ∃ x : World, x = w1 := ⟨_, rfl⟩
            subst ewq
            have hkc2 := hkc.trans hk6
            have hi7q := hi7'.kp hk6
            have hsvq := hsv2.kp hk6
            replace ho8 := ho8.mono (hkc.le)
            have d8 := hk6.get d6
            have d9 := hk6.get d7
            have hk9 : Kp wq wq := Kp.refl _
            obtain ⟨m, Hm⟩ : ∃ m, Hid (moreF F worth S b2 = m) := ⟨_, rfl⟩
            obtain ⟨pp, Hpp⟩ : ∃ pp, Hid (payF F (putL S b2) = pp) := ⟨_, rfl⟩
            have C1 := Lib.hid (fun (wx : World) (hx : Kp wq wx) => l8More_any _ F worth A7 S n7 c7 (b2 : Int) wx (hFA.kp (hkc2.trans hx)) (hi7q.kp hx) Hn7.out hc7 HG.out HS.out hw0 hw1 (by omega) (by omega))
            have C2 := Lib.hid (fun (wx : World) (hx : Kp wq wx) => l1Put_new A7 S n7 c7 (b2 : Int) wx (hi7q.kp hx) Hn7.out (ris_iff.1 HS.out).1 hc7 (by omega) hnin.out)
            have C3 := Lib.hid (fun (wx : World) (hx : Kp wq wx) (Ax : Option Addr) (nx cx : Nat) (hi : IntsAt wx Ax (putL S b2)) (hn : (putL S b2).length = nx) => l2Pay_any _ F Ax (putL S b2) nx cx wx (hFA.kp (hkc2.trans hx)) hi hn HG.out hps.out)
            rw [Hm.out] at C1
            rw [Hpp.out] at C3
            by_cases hm : 0 < m
            · by_cases hpk : pp ≤ k
              · have htk : Hid (rTake F worth k S b2 = putL S b2) := by show _ = _; rw [rTake, rPut, Hm.out, Hpp.out, if_pos (by simp [hm, hpk])]
                have q_d8 := hk9.get d8
                have q_d9 := hk9.get d9
                have tok1 : True := trivial
                go_wp2_with fail
                go_region_held3 (fun w' => w'.cell? ⟨w.heap.size, 0, none⟩ = some (.slice A F.op.length c) ∧ w'.cell? ⟨w.heap.size, 1, none⟩ = some (.slice B F.di.length d) ∧ Kp wq w')
                  (first | (refine keepc2 d8 d9 ?_; exact (by repeat (first | with_reducible assumption | with_reducible exact Kp.refl _ | with_reducible refine Kp.drew ?_ | with_reducible refine Kp.alloc ?_ _ | with_reducible refine Kp.drewN ?_ _ | refine Kp.setCell ?_ (by dsimp only; omega) _))) | fail)
                  (first
                    | (have _t := tok1; go_at_call 32; with_reducible refine Calls.mono (C1.out _ (by repeat (first | with_reducible assumption | with_reducible exact Kp.refl _ | with_reducible refine Kp.drew ?_ | with_reducible refine Kp.alloc ?_ _ | with_reducible refine Kp.drewN ?_ _ | refine Kp.setCell ?_ (by dsimp only; omega) _))) ?_; rintro e wr1 ⟨rfl, hka⟩; have hr1 : Kp wq wr1 := Kp.trans (by repeat (first | with_reducible assumption | with_reducible exact Kp.refl _ | with_reducible refine Kp.drew ?_ | with_reducible refine Kp.alloc ?_ _ | with_reducible refine Kp.drewN ?_ _ | refine Kp.setCell ?_ (by dsimp only; omega) _)) hka; have tok2 : True := trivial; clear tok1 _t)
                    | (have _t := tok2; go_at_call 31; with_reducible refine Calls.mono (C2.out _ (by repeat (first | with_reducible assumption | with_reducible exact Kp.refl _ | with_reducible refine Kp.drew ?_ | with_reducible refine Kp.alloc ?_ _ | with_reducible refine Kp.drewN ?_ _ | refine Kp.setCell ?_ (by dsimp only; omega) _))) ?_; rintro e wr2 ⟨v9, rfl, ho9, hka⟩; have hr2 : Kp wq wr2 := Kp.trans (by repeat (first | with_reducible assumption | with_reducible exact Kp.refl _ | with_reducible refine Kp.drew ?_ | with_reducible refine Kp.alloc ?_ _ | with_reducible refine Kp.drewN ?_ _ | refine Kp.setCell ?_ (by dsimp only; omega) _)) hka; obtain ⟨Ax, cx, hvx, hix⟩ := ho9.ints hpl.out; subst hvx; have tok3 : True := trivial; clear tok2 _t)
                    | (have _t := tok3; go_at_call 54; with_reducible refine Calls.mono (C3.out _ hr2 Ax _ cx hix rfl) ?_; rintro e wr3 ⟨rfl, hka⟩; have hr3 : Kp wq wr3 := Kp.trans (by repeat (first | with_reducible assumption | with_reducible exact Kp.refl _ | with_reducible refine Kp.drew ?_ | with_reducible refine Kp.alloc ?_ _ | with_reducible refine Kp.drewN ?_ _ | refine Kp.setCell ?_ (by dsimp only; omega) _)) hka; have tok4 : True := trivial; clear tok3 _t)
                    | fail)
                all_goals
                  (try go_wp2_with fail)
                  have CC := Lib.hid (C2.out _ hr3)
                  with_reducible refine Calls.mono CC.out ?_
                  rintro e wz ⟨vz, rfl, hoz, hkz⟩
                  clear CC
                  (try go_wp2_with fail)
                  go_roundw
                  case rel => exact ⟨s ||| 2 ^ b2, rTake F worth k S b2, by rw [htk.out]; exact hoz.mono (Nat.le_trans hkc2.le hr3.le), by rw [← hwl.out]; exact ho8.kp (hr3.trans hkz), hts, hnew, by rw [← hwl.out]; exact hgo, hkc2.trans (hr3.trans hkz)⟩
                  case measure => obtain ⟨A3, c3, e3⟩ := ho8.shape; rw [e3]; simp [sLen]; omega
              · have htk : Hid (rTake F worth k S b2 = S) := by show _ = _; rw [rTake, rPut, Hm.out, Hpp.out, if_neg (by simp [hpk])]
                have q_d8 := hk9.get d8
                have q_d9 := hk9.get d9
                have tok1 : True := trivial
                go_wp2_with fail
                go_region_held3 (fun w' => w'.cell? ⟨w.heap.size, 0, none⟩ = some (.slice A F.op.length c) ∧ w'.cell? ⟨w.heap.size, 1, none⟩ = some (.slice B F.di.length d) ∧ Kp wq w')
                  (first | (refine keepc2 d8 d9 ?_; exact (by repeat (first | with_reducible assumption | with_reducible exact Kp.refl _ | with_reducible refine Kp.drew ?_ | with_reducible refine Kp.alloc ?_ _ | with_reducible refine Kp.drewN ?_ _ | refine Kp.setCell ?_ (by dsimp only; omega) _))) | fail)
                  (first
                    | (have _t := tok1; go_at_call 32; with_reducible refine Calls.mono (C1.out _ (by repeat (first | with_reducible assumption | with_reducible exact Kp.refl _ | with_reducible refine Kp.drew ?_ | with_reducible refine Kp.alloc ?_ _ | with_reducible refine Kp.drewN ?_ _ | refine Kp.setCell ?_ (by dsimp only; omega) _))) ?_; rintro e wr1 ⟨rfl, hka⟩; have hr1 : Kp wq wr1 := Kp.trans (by repeat (first | with_reducible assumption | with_reducible exact Kp.refl _ | with_reducible refine Kp.drew ?_ | with_reducible refine Kp.alloc ?_ _ | with_reducible refine Kp.drewN ?_ _ | refine Kp.setCell ?_ (by dsimp only; omega) _)) hka; have tok2 : True := trivial; clear tok1 _t)
                    | (have _t := tok2; go_at_call 31; with_reducible refine Calls.mono (C2.out _ (by repeat (first | with_reducible assumption | with_reducible exact Kp.refl _ | with_reducible refine Kp.drew ?_ | with_reducible refine Kp.alloc ?_ _ | with_reducible refine Kp.drewN ?_ _ | refine Kp.setCell ?_ (by dsimp only; omega) _))) ?_; rintro e wr2 ⟨v9, rfl, ho9, hka⟩; have hr2 : Kp wq wr2 := Kp.trans (by repeat (first | with_reducible assumption | with_reducible exact Kp.refl _ | with_reducible refine Kp.drew ?_ | with_reducible refine Kp.alloc ?_ _ | with_reducible refine Kp.drewN ?_ _ | refine Kp.setCell ?_ (by dsimp only; omega) _)) hka; obtain ⟨Ax, cx, hvx, hix⟩ := ho9.ints hpl.out; subst hvx; have tok3 : True := trivial; clear tok2 _t)
                    | (have _t := tok3; go_at_call 54; with_reducible refine Calls.mono (C3.out _ hr2 Ax _ cx hix rfl) ?_; rintro e wr3 ⟨rfl, hka⟩; have hr3 : Kp wq wr3 := Kp.trans (by repeat (first | with_reducible assumption | with_reducible exact Kp.refl _ | with_reducible refine Kp.drew ?_ | with_reducible refine Kp.alloc ?_ _ | with_reducible refine Kp.drewN ?_ _ | refine Kp.setCell ?_ (by dsimp only; omega) _)) hka; have tok4 : True := trivial; clear tok3 _t)
                    | fail)
                all_goals
                  (try go_wp2_with fail)
                  go_roundw
                  case rel => exact ⟨s ||| 2 ^ b2, rTake F worth k S b2, by rw [htk.out, ← Hn7.out]; exact hsvq.kp hr3, by rw [← hwl.out]; exact ho8.kp hr3, hts, hnew, by rw [← hwl.out]; exact hgo, hkc2.trans hr3⟩
                  case measure => obtain ⟨A3, c3, e3⟩ := ho8.shape; rw [e3]; simp [sLen]; omega
            · have htk : Hid (rTake F worth k S b2 = S) := by show _ = _; rw [rTake, rPut, Hm.out, if_neg (by simp [hm])]
              have hdec : decide (0 < m) = false := decide_eq_false hm
              clear C1 C2 C3
              have r0 := cell_regrown d8; have r1 := cell_regrown d9
              have Cv := Lib.hid (fun (dd : Nat) (os : Array Obj) => Calls.regrown_of (l8More_any _ F worth A7 S n7 c7 (b2 : Int) _ ((hFA.kp hkc2).kp (kp_rg wq dd os)) (hi7q.kp (kp_rg wq dd os)) Hn7.out hc7 HG.out HS.out hw0 hw1 (by omega) (by omega)))
              rw [Hm.out] at Cv
              clear hk9 hm Hm
              go_wp2_with fail
              refine wp_region_quiet_below (by kernel_rfl) (by kernel_rfl) ?_
              iterate 12 (quiet_step (with_reducible exact Cv.out _ _))
              clear Cv
              repeat go_big_quiet_skip
              quiet_step (fail)
              refine wpQuiet_nil ?_
              intro wz hw'
              have hkq := kp_of_rg hw'
              clear hw' r0 r1
              go_wp2_with fail
              go_roundw
              case rel => exact ⟨s ||| 2 ^ b2, rTake F worth k S b2, by rw [htk.out, ← Hn7.out]; exact hsvq.kp hkq, by rw [← hwl.out]; exact ho8.kp hkq, hts, hnew, by rw [← hwl.out]; exact hgo, hkc2.trans hkq⟩
              case measure => obtain ⟨A3, c3, e3⟩ := ho8.shape; rw [e3]; simp [sLen]; omega
      · have hfin : Hid (S = oneR F worth k) := by show _ = _; rw [← HR.out, show L.length = 0 from by omega]; rfl
        clear q_d0 q_d1
        have q_d0 := hkb.get d0
        have q_d1 := hkb.get d1
        go_wp2_with fail
        go_ret
        exact ⟨_, rfl, by rw [← Hn7.out, ← hfin.out]; exact hsv.mono (by rw [hsz.out]; omega), hkw.trans hkb⟩
end Go.Proofs.YtlglonjijfpgaaaGreat

namespace Go.Proofs.YtlglonjijfpgaaaGreat
open Go.RowKit Go.Sort

theorem own_one (w : World) (base : Nat) (a : Int) (hb : base ≤ w.heap.size) : Own (w.alloc (.cells #[.int .i64 a] 3)) base (.slice (some ⟨w.heap.size, 0, none⟩) 1 1) [a] :=
  World.ownsRow_lit w #[.int .i64 a] 1 hb (by unfold maxLen; omega) (by simp)
theorem sg_yes {F : Fld} {worth k : Int} {a : Nat} (h : opAt F a ≤ k ∧ gainF F worth (sgTo F worth k a) < gainF F worth [(a : Int)]) : sgTo F worth k (a + 1) = [(a : Int)] := by rw [sgTo, if_pos h]
theorem sg_no {F : Fld} {worth k : Int} {a : Nat} (h : ¬ (opAt F a ≤ k ∧ gainF F worth (sgTo F worth k a) < gainF F worth [(a : Int)])) : sgTo F worth k (a + 1) = sgTo F worth k a := by rw [sgTo, if_neg h]
theorem one_set {F : Fld} {a : Nat} (h : a < F.op.length) : setB F [(a : Int)] = true :=
  ris_iff.2 ⟨List.pairwise_singleton _ _, fun x hx => by have : x = (a : Int) := (by simpa using hx); omega⟩
set_option maxRecDepth 100000 in
set_option maxHeartbeats 2000000 in
theorem specRg_any (f : Value) (F : Fld) (worth k : Int) (w : World) (hf : FldAt w f F) :
    Calls Tryz.prog 18 #[f, .int .i64 worth, .int .i64 k] w fun e w' => ∃ v, e = .returned (.tuple #[v, .bool (bbOk F worth k)]) ∧ Own w' w.heap.size v (rgL F worth k) ∧ Kp w w' := by
  obtain ⟨A, c, B, d, rfl, hA, hB⟩ := hf
  have hk0 : Kp w (w.alloc (.cells #[.slice A F.op.length c, .slice B F.di.length d] 27)) := (Kp.refl w).alloc _
  obtain ⟨d0, d1⟩ := box2 w (.slice A F.op.length c) (.slice B F.di.length d) 27
  have hFA := FldAt.kp (show FldAt w (.agg #[.slice A F.op.length c, .slice B F.di.length d]) F from ⟨A, c, B, d, rfl, hA, hB⟩) hk0
  clear hB
  go_enter Tryz.func18, Tryz.ntmps18
  go_wp2_with fail
  have hsz : Hid ((w.alloc (.cells #[.slice A F.op.length c, .slice B F.di.length d] 27)).heap.size = w.heap.size + 1) := by show _ = _; simp
  generalize w.alloc (.cells #[.slice A F.op.length c, .slice B F.di.length d] 27) = wb at *
  have hkb : Kp wb wb := Kp.refl _
  have hkw := hk0
  have hkw0 := hkw
  have CC := Lib.hid (l8Good_any _ F worth _ (hFA.kp hkb))
  with_reducible refine Calls.mono CC.out ?_
  rintro e w1 ⟨rfl, hk1⟩
  clear CC
  replace hkb := hkb.trans hk1
  cases hg_ : (goodF F && worthB worth)
  · have Hno : Hid (bbOk F worth k = false) := by show _ = _; rw [bbOk, hg_]; rfl
    clear hg_
    have q_d0 := hkb.get d0
    have q_d1 := hkb.get d1
    go_wp2_with fail
    go_ret2
    exact ⟨_, by rw [Hno.out]; rfl, by rw [rgL_no Hno.out]; exact own_new0 _ _ (hkw0.trans hkb).le, (hkw0.trans hkb).alloc _⟩
  have Hg := Lib.hid hg_; clear hg_
  have q_d0 := hkb.get d0
  have q_d1 := hkb.get d1
  go_wp2_with fail
  with_reducible refine Calls.mono (l8Budget_any k _) ?_
  rintro e w2 ⟨rfl, hw⟩
  obtain rfl := hw
  clear q_d0 q_d1
  cases hk_ : inB k 0 9999
  · have Hno : Hid (bbOk F worth k = false) := by show _ = _; rw [bbOk, hk_]; simp
    clear hk_
    have q_d0 := hkb.get d0
    have q_d1 := hkb.get d1
    go_wp2_with fail
    go_ret2
    exact ⟨_, by rw [Hno.out]; rfl, by rw [rgL_no Hno.out]; exact own_new0 _ _ (hkw0.trans hkb).le, (hkw0.trans hkb).alloc _⟩
  have Hok : Hid (bbOk F worth k = true) := by show _ = _; rw [bbOk, Hg.out, hk_]; rfl
  clear hk_
  have HP := Lib.hid (bbOk_parts Hok.out)
  have HG := Lib.hid HP.out.1
  have hw0 := HP.out.2.1.1
  have hw9 := HP.out.2.1.2
  have hn0 := HP.out.2.2.1
  have hn9 := HP.out.2.2.2
  have h7 := (goodF_iff.1 HG.out).1.2
  have q_d0 := hkb.get d0
  have q_d1 := hkb.get d1
  go_wp2_with fail
  have CC := Lib.hid (l8Ratio_any _ F worth k _ (hFA.kp hkb) HG.out hw0 hw9 hn0 hn9)
  with_reducible refine Calls.mono CC.out ?_
  rintro e w3 ⟨v, rfl, ho, hk3⟩
  clear CC q_d0 q_d1
  replace hkb := hkb.trans hk3
  obtain ⟨wl, ewl⟩ : ∃ x : World, x = w3 := ⟨_, rfl⟩
  subst ewl
  have Hos : Hid (setB F (oneR F worth k) = true) := oneR_set
  have hol := set_len Hos.out
  replace ho := ho.mono (hkw0.trans (by assumption)).le
  obtain ⟨A8, c8, hv8, hi8⟩ := ho.ints (by omega)
  subst hv8
  obtain ⟨n8, Hn8⟩ : ∃ n, Hid ((oneR F worth k).length = n) := ⟨_, rfl⟩
  rw [Hn8.out] at hol ho ⊢
  have hAw := hA.kp (hkw0.trans hkb)
  have hFw := hFA.kp hkb
  have hkl := hkw0.trans hkb
  have g0 := hkb.get d0
  have g1 := hkb.get d1
  clear hkb d0 d1
  go_wp2_with fail
  go_loopw [9, 10] (fun bv iv wr => ∃ (k' n9 : Nat) (A9 : Option Addr) (c9 : Nat), k' ≤ F.op.length ∧ iv = .int .i64 k' ∧ bv = .slice A9 n9 c9 ∧ Own wr w.heap.size (.slice A9 n9 c9) (sgTo F worth k k') ∧ Hid ((sgTo F worth k k').length = n9) ∧ Kp wl wr) (fun _ iv _ => F.op.length - (intOf iv).toNat)
  case atStart => exact ⟨0, 0, _, _, by omega, rfl, rfl, own_new0 _ _ hkl.le, rfl, (Kp.refl _).alloc _⟩
  case round =>
    obtain ⟨a, n9, A9, c9, hj, rfl, rfl, hb, Hn9, hkr⟩ := hrel
    have Hsg : Hid (setB F (sgTo F worth k a) = true) := (sg_set a hj).1
    have hsl := set_len Hsg.out
    obtain ⟨_, _, e9, hi9⟩ := hb.ints (by omega)
    simp only [Value.slice.injEq] at e9
    obtain ⟨rfl, he9, rfl⟩ := e9
    clear he9
    have z0 := hkr.get g0
    have z1 := hkr.get g1
    have hFl := hFw.kp hkr
    have hAl := hAw.kp hkr
    by_cases hlt : a < F.op.length
    · obtain ⟨ad, rfl, hca⟩ := hAl.at_ hlt
      have ea : F.op[a] = opAt F a := by simp [opAt, List.getD, hlt]
      rw [ea] at hca
      have hlt2 : (a : Int) < (F.op.length : Int) := by omega
      have H1s : Hid (setB F [(a : Int)] = true) := one_set hlt
      obtain ⟨pp, Hpp⟩ : ∃ pp, Hid (opAt F a = pp) := ⟨_, rfl⟩
      rw [Hpp.out] at hca
      clear ea
      by_cases hle : pp ≤ k
      · obtain ⟨x, Hx⟩ : ∃ x, Hid (gainF F worth [(a : Int)] = x) := ⟨_, rfl⟩
        obtain ⟨y, Hy⟩ : ∃ y, Hid (gainF F worth (sgTo F worth k a) = y) := ⟨_, rfl⟩
        have C1 := Lib.hid (fun (wx : World) (hx : Kp wr wx) (hi : IntsAt wx (some ⟨wr.heap.size, 0, none⟩) [(a : Int)]) => l8Gain_any _ F worth (some ⟨wr.heap.size, 0, none⟩) [(a : Int)] 1 1 wx (hFl.kp hx) hi rfl HG.out H1s.out hw0 hw9)
        have C2 := Lib.hid (fun (wx : World) (hx : Kp wr wx) => l8Gain_any _ F worth A9 (sgTo F worth k a) n9 c9 wx (hFl.kp hx) (hi9.kp hx) Hn9.out HG.out Hsg.out hw0 hw9)
        rw [Hx.out] at C1
        rw [Hy.out] at C2
        have hkz : Kp wr wr := Kp.refl _
        by_cases hgt : y < x
        · have Hyes : Hid (sgTo F worth k (a + 1) = [(a : Int)]) := sg_yes ⟨by rw [Hpp.out]; exact hle, by rw [Hx.out, Hy.out]; exact hgt⟩
          have q_z0 := hkz.get z0
          have q_z1 := hkz.get z1
          have q_hca := hkz.get hca
          have tok1 : True := trivial
          go_wp2_with fail
          go_region_held3 (fun w' => w'.cell? ⟨w.heap.size, 0, none⟩ = some (.slice (some ad) F.op.length c) ∧ w'.cell? ⟨w.heap.size, 1, none⟩ = some (.slice B F.di.length d) ∧ w'.cell? (ad.add a) = some (.int .i64 pp) ∧ Kp wr w')
            (first | (refine keepc3 z0 z1 hca ?_; exact (by repeat (first | with_reducible assumption | with_reducible exact Kp.refl _ | with_reducible refine Kp.drew ?_ | with_reducible refine Kp.alloc ?_ _ | with_reducible refine Kp.drewN ?_ _ | refine Kp.setCell ?_ (by dsimp only; omega) _))) | fail)
            (first
              | (have _t := tok1; go_at_call 36; with_reducible refine Calls.mono (C1.out _ (by repeat (first | with_reducible assumption | with_reducible exact Kp.refl _ | with_reducible refine Kp.drew ?_ | with_reducible refine Kp.alloc ?_ _ | with_reducible refine Kp.drewN ?_ _ | refine Kp.setCell ?_ (by dsimp only; omega) _)) ((one_new wr (a : Int)).kp (by repeat (first | with_reducible assumption | with_reducible exact Kp.refl _ | with_reducible refine Kp.drew ?_ | with_reducible refine Kp.alloc ?_ _ | with_reducible refine Kp.drewN ?_ _ | refine Kp.setCell ?_ (by dsimp only; omega) _)))) ?_; rintro e wr1 ⟨rfl, hka⟩; have hr1 : Kp wr wr1 := Kp.trans (by repeat (first | with_reducible assumption | with_reducible exact Kp.refl _ | with_reducible refine Kp.drew ?_ | with_reducible refine Kp.alloc ?_ _ | with_reducible refine Kp.drewN ?_ _ | refine Kp.setCell ?_ (by dsimp only; omega) _)) hka; have tok2 : True := trivial; clear tok1 _t)
              | (have _t := tok2; go_at_call 36; with_reducible refine Calls.mono (C2.out _ (by repeat (first | with_reducible assumption | with_reducible exact Kp.refl _ | with_reducible refine Kp.drew ?_ | with_reducible refine Kp.alloc ?_ _ | with_reducible refine Kp.drewN ?_ _ | refine Kp.setCell ?_ (by dsimp only; omega) _))) ?_; rintro e wr2 ⟨rfl, hka⟩; have hr2 : Kp wr wr2 := Kp.trans (by repeat (first | with_reducible assumption | with_reducible exact Kp.refl _ | with_reducible refine Kp.drew ?_ | with_reducible refine Kp.alloc ?_ _ | with_reducible refine Kp.drewN ?_ _ | refine Kp.setCell ?_ (by dsimp only; omega) _)) hka; have tok3 : True := trivial; clear tok2 _t)
              | fail)
          all_goals
            go_wp2_with fail
            go_roundw
            case rel => exact ⟨a + 1, 1, _, _, by omega, by go_num, rfl, by rw [Hyes.out]; exact own_one _ _ _ (hkl.trans (hkr.trans hr2)).le, by rw [Hyes.out]; exact rfl, (hkr.trans hr2).alloc _⟩
            case measure => simp [intOf]; omega
        · have Hno : Hid (sgTo F worth k (a + 1) = sgTo F worth k a) := sg_no (by rw [Hx.out, Hy.out]; exact fun h => hgt h.2)
          have q_z0 := hkz.get z0
          have q_z1 := hkz.get z1
          have q_hca := hkz.get hca
          have tok1 : True := trivial
          go_wp2_with fail
          go_region_held3 (fun w' => w'.cell? ⟨w.heap.size, 0, none⟩ = some (.slice (some ad) F.op.length c) ∧ w'.cell? ⟨w.heap.size, 1, none⟩ = some (.slice B F.di.length d) ∧ w'.cell? (ad.add a) = some (.int .i64 pp) ∧ Kp wr w')
            (first | (refine keepc3 z0 z1 hca ?_; exact (by repeat (first | with_reducible assumption | with_reducible exact Kp.refl _ | with_reducible refine Kp.drew ?_ | with_reducible refine Kp.alloc ?_ _ | with_reducible refine Kp.drewN ?_ _ | refine Kp.setCell ?_ (by dsimp only; omega) _))) | fail)
            (first
              | (have _t := tok1; go_at_call 36; with_reducible refine Calls.mono (C1.out _ (by repeat (first | with_reducible assumption | with_reducible exact Kp.refl _ | with_reducible refine Kp.drew ?_ | with_reducible refine Kp.alloc ?_ _ | with_reducible refine Kp.drewN ?_ _ | refine Kp.setCell ?_ (by dsimp only; omega) _)) ((one_new wr (a : Int)).kp (by repeat (first | with_reducible assumption | with_reducible exact Kp.refl _ | with_reducible refine Kp.drew ?_ | with_reducible refine Kp.alloc ?_ _ | with_reducible refine Kp.drewN ?_ _ | refine Kp.setCell ?_ (by dsimp only; omega) _)))) ?_; rintro e wr1 ⟨rfl, hka⟩; have hr1 : Kp wr wr1 := Kp.trans (by repeat (first | with_reducible assumption | with_reducible exact Kp.refl _ | with_reducible refine Kp.drew ?_ | with_reducible refine Kp.alloc ?_ _ | with_reducible refine Kp.drewN ?_ _ | refine Kp.setCell ?_ (by dsimp only; omega) _)) hka; have tok2 : True := trivial; clear tok1 _t)
              | (have _t := tok2; go_at_call 36; with_reducible refine Calls.mono (C2.out _ (by repeat (first | with_reducible assumption | with_reducible exact Kp.refl _ | with_reducible refine Kp.drew ?_ | with_reducible refine Kp.alloc ?_ _ | with_reducible refine Kp.drewN ?_ _ | refine Kp.setCell ?_ (by dsimp only; omega) _))) ?_; rintro e wr2 ⟨rfl, hka⟩; have hr2 : Kp wr wr2 := Kp.trans (by repeat (first | with_reducible assumption | with_reducible exact Kp.refl _ | with_reducible refine Kp.drew ?_ | with_reducible refine Kp.alloc ?_ _ | with_reducible refine Kp.drewN ?_ _ | refine Kp.setCell ?_ (by dsimp only; omega) _)) hka; have tok3 : True := trivial; clear tok2 _t)
              | fail)
          all_goals
            go_wp2_with fail
            go_roundw
            case rel => exact ⟨a + 1, n9, A9, c9, by omega, by go_num, rfl, by rw [Hno.out]; exact hb.kp hr2, by rw [Hno.out]; exact Hn9, hkr.trans hr2⟩
            case measure => simp [intOf]; omega
      · have Hno : Hid (sgTo F worth k (a + 1) = sgTo F worth k a) := sg_no (by rw [Hpp.out]; exact fun h => hle h.1)
        have hdec : decide (pp ≤ k) = false := decide_eq_false hle
        have r0 := cell_regrown z0; have r1 := cell_regrown z1; have r2 := cell_regrown hca
        go_wp2_with fail
        refine wp_region_quiet_below (by kernel_rfl) (by kernel_rfl) ?_
        iterate 8 (quiet_step (fail))
        repeat go_big_quiet_skip
        quiet_step (fail)
        refine wpQuiet_nil ?_
        intro wq hw'
        have hkq := kp_of_rg hw'
        clear hw' r0 r1 r2
        go_wp2_with fail
        go_roundw
        case rel => exact ⟨a + 1, n9, A9, c9, by omega, by go_num, rfl, by rw [Hno.out]; exact hb.kp hkq, by rw [Hno.out]; exact Hn9, hkr.trans hkq⟩
        case measure => simp [intOf]; omega
    · obtain rfl : a = F.op.length := by omega
      obtain ⟨x, Hx⟩ : ∃ x, Hid (gainF F worth (sgTo F worth k F.op.length) = x) := ⟨_, rfl⟩
      obtain ⟨y, Hy⟩ : ∃ y, Hid (gainF F worth (oneR F worth k) = y) := ⟨_, rfl⟩
      have hi8' := hi8.kp hkr
      have C1 := Lib.hid (fun (wx : World) (hx : Kp wr wx) => l8Gain_any _ F worth A9 (sgTo F worth k F.op.length) n9 c9 wx (hFl.kp hx) (hi9.kp hx) Hn9.out HG.out Hsg.out hw0 hw9)
      have C2 := Lib.hid (fun (wx : World) (hx : Kp wr wx) => l8Gain_any _ F worth A8 (oneR F worth k) n8 c8 wx (hFl.kp hx) (hi8'.kp hx) Hn8.out HG.out Hos.out hw0 hw9)
      rw [Hx.out] at C1
      rw [Hy.out] at C2
      have hkz : Kp wr wr := Kp.refl _
      by_cases hgt : y < x
      · have Hyes : Hid (rgL F worth k = sgTo F worth k F.op.length) := rgL_two Hok.out (by rw [Hx.out, Hy.out]; exact hgt)
        have q_z0 := hkz.get z0
        have q_z1 := hkz.get z1
        have tok1 : True := trivial
        go_wp2_with fail
        go_region_held3 (fun w' => w'.cell? ⟨w.heap.size, 0, none⟩ = some (.slice A F.op.length c) ∧ w'.cell? ⟨w.heap.size, 1, none⟩ = some (.slice B F.di.length d) ∧ Kp wr w')
          (first | (refine keepc2 z0 z1 ?_; exact (by repeat (first | with_reducible assumption | with_reducible exact Kp.refl _ | with_reducible refine Kp.drew ?_ | with_reducible refine Kp.alloc ?_ _ | with_reducible refine Kp.drewN ?_ _ | refine Kp.setCell ?_ (by dsimp only; omega) _))) | fail)
          (first
            | (have _t := tok1; go_at_call 36; with_reducible refine Calls.mono (C1.out _ (by repeat (first | with_reducible assumption | with_reducible exact Kp.refl _ | with_reducible refine Kp.drew ?_ | with_reducible refine Kp.alloc ?_ _ | with_reducible refine Kp.drewN ?_ _ | refine Kp.setCell ?_ (by dsimp only; omega) _))) ?_; rintro e wr1 ⟨rfl, hka⟩; have hr1 : Kp wr wr1 := Kp.trans (by repeat (first | with_reducible assumption | with_reducible exact Kp.refl _ | with_reducible refine Kp.drew ?_ | with_reducible refine Kp.alloc ?_ _ | with_reducible refine Kp.drewN ?_ _ | refine Kp.setCell ?_ (by dsimp only; omega) _)) hka; have tok2 : True := trivial; clear tok1 _t)
            | (have _t := tok2; go_at_call 36; with_reducible refine Calls.mono (C2.out _ (by repeat (first | with_reducible assumption | with_reducible exact Kp.refl _ | with_reducible refine Kp.drew ?_ | with_reducible refine Kp.alloc ?_ _ | with_reducible refine Kp.drewN ?_ _ | refine Kp.setCell ?_ (by dsimp only; omega) _))) ?_; rintro e wr2 ⟨rfl, hka⟩; have hr2 : Kp wr wr2 := Kp.trans (by repeat (first | with_reducible assumption | with_reducible exact Kp.refl _ | with_reducible refine Kp.drew ?_ | with_reducible refine Kp.alloc ?_ _ | with_reducible refine Kp.drewN ?_ _ | refine Kp.setCell ?_ (by dsimp only; omega) _)) hka; have tok3 : True := trivial; clear tok2 _t)
            | fail)
        all_goals
          go_wp2_with fail
          go_ret2
          exact ⟨_, by rw [Hok.out]; rfl, by rw [Hyes.out]; exact hb.kp hr2, hkl.trans (hkr.trans hr2)⟩
      · have Hno : Hid (rgL F worth k = oneR F worth k) := rgL_one Hok.out (by rw [Hx.out, Hy.out]; exact hgt)
        have q_z0 := hkz.get z0
        have q_z1 := hkz.get z1
        have tok1 : True := trivial
        go_wp2_with fail
        go_region_held3 (fun w' => w'.cell? ⟨w.heap.size, 0, none⟩ = some (.slice A F.op.length c) ∧ w'.cell? ⟨w.heap.size, 1, none⟩ = some (.slice B F.di.length d) ∧ Kp wr w')
          (first | (refine keepc2 z0 z1 ?_; exact (by repeat (first | with_reducible assumption | with_reducible exact Kp.refl _ | with_reducible refine Kp.drew ?_ | with_reducible refine Kp.alloc ?_ _ | with_reducible refine Kp.drewN ?_ _ | refine Kp.setCell ?_ (by dsimp only; omega) _))) | fail)
          (first
            | (have _t := tok1; go_at_call 36; with_reducible refine Calls.mono (C1.out _ (by repeat (first | with_reducible assumption | with_reducible exact Kp.refl _ | with_reducible refine Kp.drew ?_ | with_reducible refine Kp.alloc ?_ _ | with_reducible refine Kp.drewN ?_ _ | refine Kp.setCell ?_ (by dsimp only; omega) _))) ?_; rintro e wr1 ⟨rfl, hka⟩; have hr1 : Kp wr wr1 := Kp.trans (by repeat (first | with_reducible assumption | with_reducible exact Kp.refl _ | with_reducible refine Kp.drew ?_ | with_reducible refine Kp.alloc ?_ _ | with_reducible refine Kp.drewN ?_ _ | refine Kp.setCell ?_ (by dsimp only; omega) _)) hka; have tok2 : True := trivial; clear tok1 _t)
            | (have _t := tok2; go_at_call 36; with_reducible refine Calls.mono (C2.out _ (by repeat (first | with_reducible assumption | with_reducible exact Kp.refl _ | with_reducible refine Kp.drew ?_ | with_reducible refine Kp.alloc ?_ _ | with_reducible refine Kp.drewN ?_ _ | refine Kp.setCell ?_ (by dsimp only; omega) _))) ?_; rintro e wr2 ⟨rfl, hka⟩; have hr2 : Kp wr wr2 := Kp.trans (by repeat (first | with_reducible assumption | with_reducible exact Kp.refl _ | with_reducible refine Kp.drew ?_ | with_reducible refine Kp.alloc ?_ _ | with_reducible refine Kp.drewN ?_ _ | refine Kp.setCell ?_ (by dsimp only; omega) _)) hka; have tok3 : True := trivial; clear tok2 _t)
            | fail)
        all_goals
          go_wp2_with fail
          go_ret2
          exact ⟨_, by rw [Hok.out]; rfl, by rw [Hno.out]; exact ho.kp (hkr.trans hr2), hkl.trans (hkr.trans hr2)⟩
end Go.Proofs.YtlglonjijfpgaaaGreat

namespace Go.Proofs.YtlglonjijfpgaaaGreat
open Go.RowKit Go.Sort

set_option maxHeartbeats 1000000 in
theorem better_any (x p y q : Int) (w : World) (hx0 : 0 ≤ x) (hx1 : x ≤ 6993) (hy0 : 0 ≤ y) (hy1 : y ≤ 6993) (hp0 : 0 ≤ p) (hp1 : p ≤ 99) (hq0 : 0 ≤ q) (hq1 : q ≤ 99) :
    Calls Tryz.prog 48 #[.int .i64 x, .int .i64 p, .int .i64 y, .int .i64 q] w fun e w' => e = .returned (.bool (betB x p y q)) ∧ w = w' := by
  by_cases h : x = 0 ∨ y = 0
  · have HB : Hid (betB x p y q = decide (y < x)) := by show _ = _; rw [betB, if_pos h]
    by_cases h0 : x = 0
    · subst h0
      clear h
      go_enter Tryz.func48, Tryz.ntmps48
      go_wp2_with fail
      go_ret
      exact ⟨ret_bool (by rw [HB.out] <;> simp), rfl⟩
    · obtain rfl : y = 0 := by omega
      have hf : (x == 0) = false := by simpa using h0
      clear h
      go_enter Tryz.func48, Tryz.ntmps48
      go_wp2_with fail
      go_ret
      exact ⟨ret_bool (by rw [HB.out] <;> simp), rfl⟩
  · have hx : (x == 0) = false := by simp; omega
    have hy : (y == 0) = false := by simp; omega
    by_cases h2 : p = 0 ∨ q = 0
    · have HB : Hid (betB x p y q = decide (0 < q)) := by show _ = _; rw [betB, if_neg h, if_pos h2]
      clear h
      by_cases h0 : p = 0
      · subst h0
        clear h2
        go_enter Tryz.func48, Tryz.ntmps48
        go_wp2_with fail
        go_ret
        exact ⟨ret_bool (by rw [HB.out] <;> simp), rfl⟩
      · obtain rfl : q = 0 := by omega
        have hf : (p == 0) = false := by simpa using h0
        clear h2
        go_enter Tryz.func48, Tryz.ntmps48
        go_wp2_with fail
        go_ret
        exact ⟨ret_bool (by rw [HB.out] <;> simp), rfl⟩
    · have HB : Hid (betB x p y q = decide (y * p < x * q)) := by show _ = _; rw [betB, if_neg h, if_neg h2]
      have hf : (p == 0) = false := by simp; omega
      have hq : (q == 0) = false := by simp; omega
      have m1 := mul_bd hx0 hx1 hq0 hq1
      have m2 := mul_bd hy0 hy1 hp0 hp1
      have w1 : IntKind.i64.wrap (x * q) = x * q := IntWalk.i64_in _ (by omega)
      have w2 : IntKind.i64.wrap (y * p) = y * p := IntWalk.i64_in _ (by omega)
      clear h h2
      go_enter Tryz.func48, Tryz.ntmps48
      go_wp2_with fail
      go_ret
      exact ⟨ret_bool (by rw [HB.out] <;> simp), rfl⟩
theorem tells0 {FN : FuncId} {caps : Array Value} {p : List Int → Bool} {Q : List Int → Prop} {w : World} (h : Tells FN #[] caps p Q w) (S : List Int) (Av : Option Addr) (cv : Nat) (w' : World) (hk : Kp w w') (hq : Q S) (hi : IntsAt w' Av S) (hc : S.length ≤ cv) :
    Calls Tryz.prog FN (#[.slice Av S.length cv] ++ caps) w' fun e w'' => e = .returned (.bool (p S)) ∧ Kp w' w'' := h.2 S Av cv w' hk hq hi hc
theorem tellsR {FN : FuncId} {caps : Array Value} {p : List Int → Bool} {Q : List Int → Prop} {w : World} (h : Tells FN #[] caps p Q w) : ∀ (args : Array Value) (w : World), Sem.run Tryz.prog (callFunc FN args) w = .ok (.enter FN args) w := h.1
set_option maxHeartbeats 1000000 in
theorem rgClo_any (F : Fld) (bud : Int) (A : Option Addr) (c : Nat) (B : Option Addr) (d : Nat) (p q : Nat) (w : World) (hf : FldAt w (.agg #[.slice A F.op.length c, .slice B F.di.length d]) F) (x0 : w.cell? ⟨p, 0, none⟩ = some (.slice A F.op.length c)) (x1 : w.cell? ⟨p, 1, none⟩ = some (.slice B F.di.length d)) (y0 : w.cell? ⟨q, 0, none⟩ = some (.int .i64 bud))
    (Av : Option Addr) (S : List Int) (n cv : Nat) (hS : IntsAt w Av S) (hn : S.length = n) (hc : n ≤ cv) (hg : goodF F = true) (hs : setB F S = true) :
    Calls Tryz.prog 51 #[.slice Av n cv, .pointer (some ⟨p, 0, none⟩), .pointer (some ⟨q, 0, none⟩)] w fun e w' => e = .returned (.bool (sP F bud S)) ∧ Kp w w' := by
  have hl7 := set_len hs
  have h7 := (goodF_iff.1 hg).1.2
  subst hn
  have HS := Lib.hid hs
  have HI := Lib.hid hS
  by_cases hlt : S.length < 2
  · have HB : Hid (decide (payF F S ≤ bud) = sP F bud S) := by show _ = _; rw [sP, aP]; simp; omega
    have hlt2 : (S.length : Int) < 2 := by omega
    clear hS hs
    have hkz : Kp w w := Kp.refl _
    go_enter Tryz.func51, Tryz.ntmps51
    go_wp2_with fail
    have q_x0 := hkz.get x0
    have q_x1 := hkz.get x1
    have q_y0 := hkz.get y0
    go_wp2_with fail
    have CC := Lib.hid (affords_any _ F bud _ (hf.kp hkz) hg)
    with_reducible refine Calls.mono CC.out ?_
    rintro e w1 ⟨caps, rfl, htl, hk1⟩
    clear CC q_x0 q_x1 q_y0
    replace hkz := hkz.trans hk1
    have hF := htl.1
    have q_x0 := hkz.get x0
    have q_x1 := hkz.get x1
    have q_y0 := hkz.get y0
    go_wp2_with fail
    have CC := Lib.hid (tells0 htl S Av cv _ (Kp.refl _) HS.out (HI.out.kp hkz) hc)
    with_reducible refine Calls.mono CC.out ?_
    rintro e w2 ⟨rfl, hk2⟩
    clear CC q_x0 q_x1 q_y0
    replace hkz := hkz.trans hk2
    have q_x0 := hkz.get x0
    have q_x1 := hkz.get x1
    have q_y0 := hkz.get y0
    go_wp2_with fail
    go_ret
    exact ⟨ret_bool HB.out, hkz⟩
  · have HB : Hid (sP F bud S = false) := by show _ = _; rw [sP]; simp; omega
    have hlt2 : decide ((S.length : Int) < 2) = false := by simp; omega
    clear hf hS hg hs
    go_enter Tryz.func51, Tryz.ntmps51
    go_wp2_with fail
    go_ret
    exact ⟨ret_bool (by rw [HB.out]), Kp.refl _⟩
def bestV (F : Fld) (worth : Int) (S : List Int) (L : List Int) : Int := if rBest F worth S L < 0 then 0 else moreF F worth S (rBest F worth S L)
theorem more_le {F : Fld} (hg : goodF F = true) {worth : Int} (hw0 : 0 ≤ worth) (hw1 : worth ≤ 999) (S : List Int) (a : Int) : moreF F worth S a ≤ 6993 := by
  have h1 := gainF_bd hg hw0 hw1 (putL S a)
  have h2 := gainF_bd hg hw0 hw1 S
  unfold moreF; omega
set_option maxRecDepth 100000 in
set_option maxHeartbeats 3000000 in
theorem implRg_any (f : Value) (F : Fld) (worth k : Int) (w : World) (hf : FldAt w f F) :
    Calls Tryz.prog 17 #[f, .int .i64 worth, .int .i64 k] w fun e w' => ∃ v, e = .returned (.tuple #[v, .bool (bbOk F worth k)]) ∧ Own w' w.heap.size v (rgL F worth k) ∧ Kp w w' := by
  obtain ⟨A, c, B, d, rfl, hA, hB⟩ := hf
  have hk0 : Kp w ((w.alloc (.cells #[.slice A F.op.length c, .slice B F.di.length d] 27)).alloc (.cells #[.int .i64 k] 3)) := ((Kp.refl w).alloc _).alloc _
  obtain ⟨d0, d1⟩ := box2 w (.slice A F.op.length c) (.slice B F.di.length d) 27
  have hFA := FldAt.kp (show FldAt w (.agg #[.slice A F.op.length c, .slice B F.di.length d]) F from ⟨A, c, B, d, rfl, hA, hB⟩) hk0
  replace d0 := ((Kp.refl _).alloc (.cells #[.int .i64 k] 3)).get d0
  replace d1 := ((Kp.refl _).alloc (.cells #[.int .i64 k] 3)).get d1
  have d2 : ((w.alloc (.cells #[.slice A F.op.length c, .slice B F.di.length d] 27)).alloc (.cells #[.int .i64 k] 3)).cell? ⟨w.heap.size + 1, 0, none⟩ = some (.int .i64 k) := by
    rw [World.cell?_alloc_at _ _ _ _ (by simp)]; rfl
  replace hA := hA.kp hk0
  clear hB
  go_enter Tryz.func17, Tryz.ntmps17
  go_wp2_with fail
  generalize (w.alloc (.cells #[.slice A F.op.length c, .slice B F.di.length d] 27)).alloc (.cells #[.int .i64 k] 3) = wb at *
  have hkb : Kp wb wb := Kp.refl _
  have CC := Lib.hid (isWorth_any _ F worth none [] 0 0 _ (hFA.kp hkb) (IntsAt.nil _ none) rfl)
  with_reducible refine Calls.mono CC.out ?_
  rintro e w1 ⟨rfl, hk1⟩
  clear CC
  replace hkb := hkb.trans hk1
  have hgo : gainOk F worth [] = (goodF F && worthB worth) := by simp [gainOk, setB, risB]
  rw [hgo]
  clear hgo
  cases hg_ : (goodF F && worthB worth)
  · have Hno : Hid (bbOk F worth k = false) := by show _ = _; rw [bbOk, hg_]; rfl
    clear hg_
    have q_d0 := hkb.get d0
    have q_d1 := hkb.get d1
    have q_d2 := hkb.get d2
    go_wp2_with fail
    go_ret2
    exact ⟨_, by rw [Hno.out]; rfl, by rw [rgL_no Hno.out]; exact Own.nil _ _, hk0.trans hkb⟩
  have Hg := Lib.hid hg_; clear hg_
  have q_d0 := hkb.get d0
  have q_d1 := hkb.get d1
  have q_d2 := hkb.get d2
  go_wp2_with fail
  with_reducible refine Calls.mono (between_any _ _ _ _) ?_
  rintro e w2 ⟨rfl, hw⟩
  obtain rfl := hw
  clear q_d0 q_d1 q_d2
  cases hk_ : inB k 0 9999
  · have Hno : Hid (bbOk F worth k = false) := by show _ = _; rw [bbOk, hk_]; simp
    clear hk_
    have q_d0 := hkb.get d0
    have q_d1 := hkb.get d1
    have q_d2 := hkb.get d2
    go_wp2_with fail
    go_ret2
    exact ⟨_, by rw [Hno.out]; rfl, by rw [rgL_no Hno.out]; exact Own.nil _ _, hk0.trans hkb⟩
  have Hok : Hid (bbOk F worth k = true) := by show _ = _; rw [bbOk, Hg.out, hk_]; rfl
  clear hk_
  have HP := Lib.hid (bbOk_parts Hok.out)
  have HG := Lib.hid HP.out.1
  have hw0 := HP.out.2.1.1
  have hw9 := HP.out.2.1.2
  have hn0 := HP.out.2.2.1
  have hn9 := HP.out.2.2.2
  have h7 := (goodF_iff.1 HG.out).1.2
  have hMB := Lib.hid (fun S a => (⟨more_nn0 a, more_le HG.out hw0 hw9 S a⟩ : 0 ≤ moreF F worth S a ∧ moreF F worth S a ≤ 6993))
  have q_d0 := hkb.get d0
  have q_d1 := hkb.get d1
  have q_d2 := hkb.get d2
  go_wp2_with fail
  go_loopw [8, 9, 27] (fun tv sv jv wr => ∃ (j t s : Nat), j ≤ F.op.length ∧ jv = .int .i64 j ∧ tv = .int .u64 t ∧ sv = .int .u64 s ∧ t < 2 ^ F.op.length ∧ s < 2 ^ F.op.length ∧ Hid ((leftS s F.op.length).length = F.op.length - j) ∧ Hid (rGo F worth k (F.op.length - j) s (bitsL F.op.length t) = oneR F worth k) ∧ Kp wb wr) (fun _ _ jv _ => F.op.length - (intOf jv).toNat)
  case atStart => exact ⟨0, 0, 0, by omega, rfl, rfl, rfl, Nat.two_pow_pos _, Nat.two_pow_pos _, by show _ = _; rw [left_full]; rfl, by show _ = _; rw [bits_zero]; rfl, hkb⟩
  case round =>
    obtain ⟨j, t, s, hj, rfl, rfl, rfl, ht, hs, HL, HR, hkb⟩ := hrel
    have Ht := Lib.hid ht
    have Hs := Lib.hid hs
    have ht7 : t < 128 := Nat.lt_of_lt_of_le ht (Nat.pow_le_pow_right (n := 2) (by omega) h7)
    have hs7 : s < 128 := Nat.lt_of_lt_of_le hs (Nat.pow_le_pow_right (n := 2) (by omega) h7)
    clear ht hs
    by_cases hlt : j < F.op.length
    · clear q_d0 q_d1 q_d2
      have q_d0 := hkb.get d0
      have q_d1 := hkb.get d1
      have q_d2 := hkb.get d2
      go_wp2_with fail
      go_loopw [10, 11, 12, 13, 32] (fun bv mv _ _ iv wq => ∃ (a : Nat) (b m : Int), a ≤ F.op.length ∧ iv = .int .i64 a ∧ bv = .int .i64 b ∧ mv = .int .i64 m ∧ Hid (rBest F worth (bitsL F.op.length t) (leftS s a) = b) ∧ Hid (bestV F worth (bitsL F.op.length t) (leftS s a) = m) ∧ Kp wr wq) (fun _ _ _ _ iv _ => F.op.length - (intOf iv).toNat)
      case atStart => exact ⟨0, -1, 0, by omega, rfl, rfl, rfl, rfl, rfl, Kp.refl _⟩
      case round =>
        obtain ⟨a, b, m, ha, rfl, rfl, rfl, HB, HM, hki⟩ := hrel
        replace hkb := hkb.trans hki
        obtain ⟨S, HS⟩ : ∃ S, Hid (bitsL F.op.length t = S) := ⟨_, rfl⟩
        rw [HS.out] at HB HM HR
        by_cases hla : a < F.op.length
        · clear q_d0 q_d1 q_d2
          have q_d0 := hkb.get d0
          have q_d1 := hkb.get d1
          have q_d2 := hkb.get d2
          go_wp2_with fail
          with_reducible refine Calls.mono (has_any s a _ (by omega) (by omega)) ?_
          rintro e w3 ⟨rfl, hw⟩
          obtain rfl := hw
          clear q_d0 q_d1 q_d2
          cases hbit : s.testBit a
          · have hl1 : Hid (rBest F worth S (leftS s (a + 1)) = rStep F worth S b a) := by show _ = _; rw [left_yes hbit, rBest_snoc, HB.out]
            clear hbit
            have q_d0 := hkb.get d0
            have q_d1 := hkb.get d1
            have q_d2 := hkb.get d2
            go_wp2_with fail
            have CC := Lib.hid (marginal_any _ F worth t a _ (hFA.kp hkb) HG.out Ht.out hw0 hw9 hla)
            with_reducible refine Calls.mono CC.out ?_
            rintro e w4 ⟨rfl, hk4⟩
            clear CC q_d0 q_d1 q_d2
            replace hkb := hkb.trans hk4
            replace hki := hki.trans hk4
            rw [HS.out]
            obtain ⟨hx0, hx1⟩ := hMB.out S (a : Int)
            obtain ⟨x, Hx⟩ : ∃ x, Hid (moreF F worth S (a : Int) = x) := ⟨_, rfl⟩
            rw [Hx.out] at hx0 hx1 ⊢
            by_cases hb0 : b < 0
            · have hl2 : Hid (rBest F worth S (leftS s (a + 1)) = (a : Int)) := by show _ = _; rw [hl1.out, rStep, if_pos (.inl hb0)]
              have hl3 : Hid (bestV F worth S (leftS s (a + 1)) = x) := by show _ = _; rw [bestV, hl2.out, if_neg (by omega), Hx.out]
              have hdec : decide (b < 0) = true := decide_eq_true hb0
              clear hl1
              have q_d0 := hkb.get d0
              have q_d1 := hkb.get d1
              have q_d2 := hkb.get d2
              go_wp2_with fail
              go_quiet (fail)
              clear q_d0 q_d1 q_d2
              have q_d0 := hkb.get d0
              have q_d1 := hkb.get d1
              have q_d2 := hkb.get d2
              go_wp2_with fail
              go_roundw
              case rel => exact ⟨a + 1, a, x, by omega, by go_num, rfl, rfl, by rw [HS.out]; exact hl2, by rw [HS.out]; exact hl3, hki.drewN _⟩
              case measure => simp [intOf]; omega
            · have hdec : decide (b < 0) = false := decide_eq_false hb0
              have hne : leftS s a ≠ [] := fun e => by
                have := HB.out
                rw [e] at this
                have : b = -1 := this.symm
                omega
              obtain ⟨z, hz, _, ez⟩ := mem_left.1 (rBest_in (F := F) (worth := worth) (S := S) hne)
              rw [HB.out] at ez
              subst ez
              have hm : Hid (m = moreF F worth S (z : Int)) := by show _ = _; rw [← HM.out, bestV, HB.out, if_neg hb0]
              obtain ⟨hm0, hm1⟩ := hMB.out S (z : Int)
              rw [← hm.out] at hm0 hm1
              have hAw := hA.kp hkb
              obtain ⟨ad, rfl, hca⟩ := hAw.at_ hla
              have hzl : z < F.op.length := by omega
              have hcz := hAw.some_ hzl
              have ea : F.op[a] = opAt F a := by simp [opAt, List.getD, hla]
              have ez : F.op[z] = opAt F z := by simp [opAt, List.getD, hzl]
              obtain ⟨p0, p1⟩ := opAt_bd HG.out (a : Int)
              obtain ⟨q0, q1⟩ := opAt_bd HG.out (z : Int)
              rw [ea] at hca
              rw [ez] at hcz
              clear ea ez
              obtain ⟨oa, Hoa⟩ : ∃ x, Hid (opAt F (a : Int) = x) := ⟨_, rfl⟩
              obtain ⟨oz, Hoz⟩ : ∃ x, Hid (opAt F (z : Int) = x) := ⟨_, rfl⟩
              rw [Hoa.out] at hca p0 p1
              rw [Hoz.out] at hcz q0 q1
              have hlaI : (a : Int) < (F.op.length : Int) := by omega
              have hlzI : (z : Int) < (F.op.length : Int) := by omega
              have Cb := Lib.hid (fun (wx : World) => better_any x oa m oz wx hx0 hx1 hm0 hm1 p0 p1 q0 q1)
              have hbr : betB x oa m oz = richF F worth S a z := by rw [bet_rich hx0 hm0 p0 q0, richF, Hx.out, ← hm.out, Hoa.out, Hoz.out]
              have Cq := Lib.hid (fun (n : Nat) (wx : World) => Calls.same_quiet (n := n) (Cb.out (wx.drewN n)))
              rw [hbr] at Cq
              clear Cb hbr hne hz hMB
              cases hr : richF F worth S a z
              · rw [hr] at Cq
                have hl2 : Hid (rBest F worth S (leftS s (a + 1)) = (z : Int)) := by show _ = _; rw [hl1.out, rStep, if_neg (by rw [hr]; simp <;> omega)]
                have hl3 : Hid (bestV F worth S (leftS s (a + 1)) = m) := by show _ = _; rw [bestV, hl2.out, if_neg hb0, hm.out]
                clear hl1 hr
                have q_d0 := hkb.get d0
                have q_d1 := hkb.get d1
                have q_d2 := hkb.get d2
                go_wp2_with fail
                go_quiet ((go_at_call 48; exact Cq.out _ _))
                clear q_d0 q_d1 q_d2
                have q_d0 := hkb.get d0
                have q_d1 := hkb.get d1
                have q_d2 := hkb.get d2
                go_wp2_with fail
                go_roundw
                case rel => exact ⟨a + 1, z, m, by omega, by go_num, rfl, rfl, by rw [HS.out]; exact hl2, by rw [HS.out]; exact hl3, hki.drewN _⟩
                case measure => simp [intOf]; omega
              · rw [hr] at Cq
                have hl2 : Hid (rBest F worth S (leftS s (a + 1)) = (a : Int)) := by show _ = _; rw [hl1.out, rStep, if_pos (.inr hr)]
                have hl3 : Hid (bestV F worth S (leftS s (a + 1)) = x) := by show _ = _; rw [bestV, hl2.out, if_neg (by omega), Hx.out]
                clear hl1 hr
                have q_d0 := hkb.get d0
                have q_d1 := hkb.get d1
                have q_d2 := hkb.get d2
                go_wp2_with fail
                go_quiet ((go_at_call 48; exact Cq.out _ _))
                clear q_d0 q_d1 q_d2
                have q_d0 := hkb.get d0
                have q_d1 := hkb.get d1
                have q_d2 := hkb.get d2
                go_wp2_with fail
                go_roundw
                case rel => exact ⟨a + 1, a, x, by omega, by go_num, rfl, rfl, by rw [HS.out]; exact hl2, by rw [HS.out]; exact hl3, hki.drewN _⟩
                case measure => simp [intOf]; omega
          · have hl1 : Hid (leftS s (a + 1) = leftS s a) := left_no hbit
            clear hbit
            have q_d0 := hkb.get d0
            have q_d1 := hkb.get d1
            have q_d2 := hkb.get d2
            go_wp2_with fail
            go_roundw
            case rel => exact ⟨a + 1, b, m, by omega, by go_num, rfl, rfl, by rw [HS.out, hl1.out]; exact HB, by rw [HS.out, hl1.out]; exact HM, hki⟩
            case measure => simp [intOf]; omega
        · obtain rfl : a = F.op.length := by omega
          have hLl := HL.out
          have hne : leftS s F.op.length ≠ [] := fun e => by rw [e] at hLl; simp at hLl; omega
          obtain ⟨z, ez, hz, hzb⟩ := left_site (F := F) (worth := worth) (S := S) hne
          rw [HB.out] at ez
          subst ez
          have hm : Hid (moreF F worth S (z : Int) = m) := by show _ = _; rw [← HM.out, bestV, HB.out, if_neg (by omega)]
          have ho2 := Nat.or_lt_two_pow Ht.out (Nat.pow_lt_pow_right (by omega) hz : 2 ^ z < 2 ^ F.op.length)
          have hs2 := Lib.hid (Nat.or_lt_two_pow Hs.out (Nat.pow_lt_pow_right (by omega) hz : 2 ^ z < 2 ^ F.op.length))
          have ha7 : 2 ^ z < 2 ^ 7 := Nat.pow_lt_pow_right (by omega) (by omega)
          have hsh := u64_one_shl (z : Int) (by omega) (by omega)
          rw [Int.toNat_natCast] at hsh
          have hor := u64_or_nat t (2 ^ z) (by omega) (by omega)
          have hor2 := u64_or_nat s (2 ^ z) (by omega) (by omega)
          have HPt := Lib.hid (bits_put (b := t) hz)
          rw [HS.out] at HPt
          have HO2 := Lib.hid ho2
          have hlen : Hid ((leftS (s ||| 2 ^ z) F.op.length).length = F.op.length - (j + 1)) := by
            show _ = _
            rw [← left_wo]
            have := wo_len (left_nodup s F.op.length) (mem_left.2 ⟨z, hz, hzb, rfl⟩)
            omega
          have hgo : Hid (rGo F worth k (F.op.length - (j + 1)) (s ||| 2 ^ z) (rTake F worth k S z) = oneR F worth k) := by
            show _ = _
            rw [← HR.out, show F.op.length - j = (F.op.length - (j + 1)) + 1 from by omega, rGo_succ, HB.out, Int.toNat_natCast]
          have hps : Hid (setB F (putL S (z : Int)) = true) := by show _ = _; rw [← HPt.out]; exact bitsL_set _
          have hpl := set_len hps.out
          clear ho2 hne hLl hzb HL HR HM HB hMB
          generalize hpa : 2 ^ z = pa at *
          clear hpa
          have e0 := hkb.get d0
          have e1 := hkb.get d1
          have e2 := hkb.get d2
          have hFq := hFA.kp hkb
          have hkz : Kp wr wr := Kp.refl _
          by_cases hmp : 0 < m
          · obtain ⟨pp, Hpp⟩ : ∃ pp, Hid (payF F (putL S (z : Int)) = pp) := ⟨_, rfl⟩
            have C0 := Lib.hid (fun (wx : World) (hx : Kp wr wx) => affords_any _ F k wx (hFq.kp hx) HG.out)
            have C1 := Lib.hid (fun (wx : World) (_ : Kp wr wx) => (HPt.out ▸ list_any (t ||| pa) F.op.length wx HO2.out (by omega) : Calls Tryz.prog 50 #[.int .u64 ((t ||| pa : Nat) : Int)] wx fun e w' => ∃ v, e = .returned v ∧ Own w' wx.heap.size v (putL S (z : Int)) ∧ Kp wx w'))
            by_cases hle : pp ≤ k
            · have htk : Hid (rTake F worth k S z = putL S (z : Int)) := by show _ = _; rw [rTake, rPut, hm.out, Hpp.out, if_pos (by simp [hmp, hle])]
              have hble : Hid (decide (payF F (putL S (z : Int)) ≤ k) = true) := by show _ = _; rw [Hpp.out]; exact decide_eq_true hle
              clear hle
              clear q_d0 q_d1 q_d2
              have q_d0 := hkb.get d0
              have q_d1 := hkb.get d1
              have q_d2 := hkb.get d2
              go_wp2_with fail
              clear q_d0 q_d1 q_d2
              have q_e0 := hkz.get e0
              have q_e1 := hkz.get e1
              have q_e2 := hkz.get e2
              have tok1 : True := trivial
              go_wp2_with fail
              go_region_held3 (fun w' => w'.cell? ⟨w.heap.size, 0, none⟩ = some (.slice A F.op.length c) ∧ w'.cell? ⟨w.heap.size, 1, none⟩ = some (.slice B F.di.length d) ∧ w'.cell? ⟨w.heap.size + 1, 0, none⟩ = some (.int .i64 k) ∧ Kp wr w')
                (first | (refine keepc3 e0 e1 e2 ?_; exact (by repeat (first | with_reducible assumption | with_reducible exact Kp.refl _ | with_reducible refine Kp.drew ?_ | with_reducible refine Kp.alloc ?_ _ | with_reducible refine Kp.drewN ?_ _ | refine Kp.setCell ?_ (by dsimp only; omega) _))) | fail)
                (first
                  | (have _t := tok1; go_at_call 49; with_reducible refine Calls.mono (C0.out _ (by repeat (first | with_reducible assumption | with_reducible exact Kp.refl _ | with_reducible refine Kp.drew ?_ | with_reducible refine Kp.alloc ?_ _ | with_reducible refine Kp.drewN ?_ _ | refine Kp.setCell ?_ (by dsimp only; omega) _))) ?_; rintro e wr1 ⟨caps, rfl, htl, hka⟩; have hr1 : Kp wr wr1 := Kp.trans (by repeat (first | with_reducible assumption | with_reducible exact Kp.refl _ | with_reducible refine Kp.drew ?_ | with_reducible refine Kp.alloc ?_ _ | with_reducible refine Kp.drewN ?_ _ | refine Kp.setCell ?_ (by dsimp only; omega) _)) hka; have hF := tellsR htl; have tok2 : True := trivial; clear tok1 _t)
                  | (have _t := tok2; go_at_call 50; with_reducible refine Calls.mono (C1.out _ hr1) ?_; rintro e wr2 ⟨v, rfl, hov, hka⟩; have hr2 : Kp wr wr2 := Kp.trans (by repeat (first | with_reducible assumption | with_reducible exact Kp.refl _ | with_reducible refine Kp.drew ?_ | with_reducible refine Kp.alloc ?_ _ | with_reducible refine Kp.drewN ?_ _ | refine Kp.setCell ?_ (by dsimp only; omega) _)) hka; obtain ⟨Av, cv, hve, hiv⟩ := hov.ints (by omega); have hcv := hov.cap hve; subst hve; have tok3 : True := trivial; clear tok2 _t)
                  | (have _t := tok3; with_reducible refine Calls.mono (tells0 htl (putL S (z : Int)) Av cv _ (by assumption) hps.out hiv hcv) ?_; rintro e wr3 ⟨rfl, hkc⟩; rw [hble.out]; have hr3 : Kp wr wr3 := Kp.trans hr2 hkc; have tok4 : True := trivial; clear tok3 _t)
                  | fail)
              all_goals
                go_wp2_with fail
                go_roundw
                case rel => exact ⟨j + 1, t ||| pa, s ||| pa, by omega, by go_num, rfl, rfl, HO2.out, hs2.out, hlen, by rw [HPt.out, ← htk.out]; exact hgo, hkb.trans hr3⟩
                case measure => simp [intOf]; omega
            · have htk : Hid (rTake F worth k S z = S) := by show _ = _; rw [rTake, rPut, hm.out, Hpp.out, if_neg (by simp [hle])]
              have hble : Hid (decide (payF F (putL S (z : Int)) ≤ k) = false) := by show _ = _; rw [Hpp.out]; exact decide_eq_false hle
              clear hle
              clear q_d0 q_d1 q_d2
              have q_d0 := hkb.get d0
              have q_d1 := hkb.get d1
              have q_d2 := hkb.get d2
              go_wp2_with fail
              clear q_d0 q_d1 q_d2
              have q_e0 := hkz.get e0
              have q_e1 := hkz.get e1
              have q_e2 := hkz.get e2
              have tok1 : True := trivial
              go_wp2_with fail
              go_region_held3 (fun w' => w'.cell? ⟨w.heap.size, 0, none⟩ = some (.slice A F.op.length c) ∧ w'.cell? ⟨w.heap.size, 1, none⟩ = some (.slice B F.di.length d) ∧ w'.cell? ⟨w.heap.size + 1, 0, none⟩ = some (.int .i64 k) ∧ Kp wr w')
                (first | (refine keepc3 e0 e1 e2 ?_; exact (by repeat (first | with_reducible assumption | with_reducible exact Kp.refl _ | with_reducible refine Kp.drew ?_ | with_reducible refine Kp.alloc ?_ _ | with_reducible refine Kp.drewN ?_ _ | refine Kp.setCell ?_ (by dsimp only; omega) _))) | fail)
                (first
                  | (have _t := tok1; go_at_call 49; with_reducible refine Calls.mono (C0.out _ (by repeat (first | with_reducible assumption | with_reducible exact Kp.refl _ | with_reducible refine Kp.drew ?_ | with_reducible refine Kp.alloc ?_ _ | with_reducible refine Kp.drewN ?_ _ | refine Kp.setCell ?_ (by dsimp only; omega) _))) ?_; rintro e wr1 ⟨caps, rfl, htl, hka⟩; have hr1 : Kp wr wr1 := Kp.trans (by repeat (first | with_reducible assumption | with_reducible exact Kp.refl _ | with_reducible refine Kp.drew ?_ | with_reducible refine Kp.alloc ?_ _ | with_reducible refine Kp.drewN ?_ _ | refine Kp.setCell ?_ (by dsimp only; omega) _)) hka; have hF := tellsR htl; have tok2 : True := trivial; clear tok1 _t)
                  | (have _t := tok2; go_at_call 50; with_reducible refine Calls.mono (C1.out _ hr1) ?_; rintro e wr2 ⟨v, rfl, hov, hka⟩; have hr2 : Kp wr wr2 := Kp.trans (by repeat (first | with_reducible assumption | with_reducible exact Kp.refl _ | with_reducible refine Kp.drew ?_ | with_reducible refine Kp.alloc ?_ _ | with_reducible refine Kp.drewN ?_ _ | refine Kp.setCell ?_ (by dsimp only; omega) _)) hka; obtain ⟨Av, cv, hve, hiv⟩ := hov.ints (by omega); have hcv := hov.cap hve; subst hve; have tok3 : True := trivial; clear tok2 _t)
                  | (have _t := tok3; with_reducible refine Calls.mono (tells0 htl (putL S (z : Int)) Av cv _ (by assumption) hps.out hiv hcv) ?_; rintro e wr3 ⟨rfl, hkc⟩; rw [hble.out]; have hr3 : Kp wr wr3 := Kp.trans hr2 hkc; have tok4 : True := trivial; clear tok3 _t)
                  | fail)
              all_goals
                go_wp2_with fail
                go_roundw
                case rel => exact ⟨j + 1, t, s ||| pa, by omega, by go_num, rfl, rfl, Ht.out, hs2.out, hlen, by rw [HS.out, ← htk.out]; exact hgo, hkb.trans hr3⟩
                case measure => simp [intOf]; omega
          · have htk : Hid (rTake F worth k S z = S) := by show _ = _; rw [rTake, rPut, hm.out, if_neg (by simp [hmp])]
            have hdec : decide (0 < m) = false := decide_eq_false hmp
            clear q_d0 q_d1 q_d2
            have q_d0 := hkb.get d0
            have q_d1 := hkb.get d1
            have q_d2 := hkb.get d2
            go_wp2_with fail
            go_quiet (fail)
            clear q_d0 q_d1 q_d2
            have q_d0 := hkb.get d0
            have q_d1 := hkb.get d1
            have q_d2 := hkb.get d2
            go_wp2_with fail
            go_roundw
            case rel => exact ⟨j + 1, t, s ||| pa, by omega, by go_num, rfl, rfl, Ht.out, hs2.out, hlen, by rw [HS.out, ← htk.out]; exact hgo, hkb.drewN _⟩
            case measure => simp [intOf]; omega
    · obtain rfl : j = F.op.length := by omega
      obtain ⟨S, HS⟩ : ∃ S, Hid (bitsL F.op.length t = S) := ⟨_, rfl⟩
      have hone : Hid (S = oneR F worth k) := by show _ = _; rw [← HR.out, ← HS.out, Nat.sub_self]; rfl
      have hss : Hid (setB F S = true) := by show _ = _; rw [← HS.out]; exact bitsL_set _
      have hsl := set_len hss.out
      have hnil : Hid (sP F k [] = true) := by show _ = _; simp [sP, aP_nil hn0]
      have hsb := Lib.hid (sing_best F worth k hn0)
      have hsg := Lib.hid (sg_set (F := F) (worth := worth) (budget := k) F.op.length (Nat.le_refl _))
      have e0 := hkb.get d0
      have e1 := hkb.get d1
      have e2 := hkb.get d2
      have hFq := hFA.kp hkb
      have hkz : Kp wr wr := Kp.refl _
      have HF7 := Lib.hid (fil_most HG.out (sP F k))
      have C1 := Lib.hid (fun (wx : World) (hx : Kp wr wx) => lists_any 51 #[] #[.pointer (some ⟨w.heap.size, 0, none⟩), .pointer (some ⟨w.heap.size + 1, 0, none⟩)] (sP F k) (fun S => setB F S = true) F.op.length wx h7 ⟨callFunc_of Tryz.func51 (by kernel_rfl) (by kernel_rfl), fun S Av cv w' hk' hq hi hcv => rgClo_any F k A c B d w.heap.size (w.heap.size + 1) w' (hFq.kp (hx.trans hk')) ((hx.trans hk').get e0) ((hx.trans hk').get e1) ((hx.trans hk').get e2) Av S S.length cv hi rfl hcv HG.out hq⟩ allS_ris)
      have C2 := Lib.hid (fun (wx : World) (hx : Kp wr wx) (lo : Option Nat) (Ax : Option Addr) (m cx : Nat) (hr : RowsAt wx lo Ax ((allS F.op.length).filter (sP F k))) (hm : ((allS F.op.length).filter (sP F k)).length = m) => most_any _ F worth lo Ax ((allS F.op.length).filter (sP F k)) m cx wx (hFq.kp hx) hr hm (by have := fil_pos (n := F.op.length) hnil.out; omega) HG.out hw0 hw9 (fun S hS => allS_ris _ (List.mem_filter.1 hS).1))
      clear HL HR hMB
      clear q_d0 q_d1 q_d2
      have q_d0 := hkb.get d0
      have q_d1 := hkb.get d1
      have q_d2 := hkb.get d2
      go_wp2_with fail
      clear q_d0 q_d1 q_d2
      have q_e0 := hkz.get e0
      have q_e1 := hkz.get e1
      have tok1 : True := trivial
      go_wp2_with fail
      go_region_held3 (fun w' => w'.cell? ⟨w.heap.size, 0, none⟩ = some (.slice A F.op.length c) ∧ w'.cell? ⟨w.heap.size, 1, none⟩ = some (.slice B F.di.length d) ∧ Kp wr w')
        (first | (refine keepc2 e0 e1 ?_; exact (by repeat (first | with_reducible assumption | with_reducible exact Kp.refl _ | with_reducible refine Kp.drew ?_ | with_reducible refine Kp.alloc ?_ _ | with_reducible refine Kp.drewN ?_ _ | refine Kp.setCell ?_ (by dsimp only; omega) _))) | fail)
        (first
          | (have _t := tok1; go_at_call 34; with_reducible refine Calls.mono (C1.out _ (by repeat (first | with_reducible assumption | with_reducible exact Kp.refl _ | with_reducible refine Kp.drew ?_ | with_reducible refine Kp.alloc ?_ _ | with_reducible refine Kp.drewN ?_ _ | refine Kp.setCell ?_ (by dsimp only; omega) _))) ?_; rintro e wr1 ⟨v, rfl, hvn, hgo, hka⟩; have hr1 : Kp wr wr1 := Kp.trans (by repeat (first | with_reducible assumption | with_reducible exact Kp.refl _ | with_reducible refine Kp.drew ?_ | with_reducible refine Kp.alloc ?_ _ | with_reducible refine Kp.drewN ?_ _ | refine Kp.setCell ?_ (by dsimp only; omega) _)) hka; obtain ⟨Ax, cx, hve, hcx, hrows⟩ := hgo.rows (by have := HF7.out; omega); subst hve; have tok2 : True := trivial; clear tok1 _t)
          | (have _t := tok2; go_at_call 33; with_reducible refine Calls.mono (C2.out _ hr1 _ Ax _ cx hrows rfl) ?_; rintro e wr2 ⟨u, rfl, hu, hka⟩; have hr2 : Kp wr wr2 := Kp.trans (by repeat (first | with_reducible assumption | with_reducible exact Kp.refl _ | with_reducible refine Kp.drew ?_ | with_reducible refine Kp.alloc ?_ _ | with_reducible refine Kp.drewN ?_ _ | refine Kp.setCell ?_ (by dsimp only; omega) _)) hka; have tok3 : True := trivial; clear tok2 _t)
          | fail)
      all_goals
        clear C1 C2 hkz
        have hu2 := (hu.2 _ rfl).mono (base' := w.heap.size) ((hk0.trans hkb).trans (Kp.refl _).drew).le
        have hbe : bestL (negG F worth) ((allS F.op.length).filter (sP F k)) = sgTo F worth k F.op.length := hsb.out
        rw [hbe] at hu2
        clear hbe hu hrows hgo hvn
        obtain ⟨A9, c9, hv9, hi9⟩ := hu2.ints (by have := hsg.out.2; omega)
        subst hv9
        obtain ⟨n9, Hn9⟩ : ∃ n, Hid ((sgTo F worth k F.op.length).length = n) := ⟨_, rfl⟩
        rw [Hn9.out] at hu2 ⊢
        obtain ⟨x, Hx⟩ : ∃ x, Hid (gainF F worth (sgTo F worth k F.op.length) = x) := ⟨_, rfl⟩
        obtain ⟨y, Hy⟩ : ∃ y, Hid (gainF F worth S = y) := ⟨_, rfl⟩
        have e0 := hr2.get e0
        have e1 := hr2.get e1
        have hFr := hFq.kp hr2
        have hkz2 : Kp wr2 wr2 := Kp.refl _
        have C1 := Lib.hid (fun (wx : World) (hx : Kp wr2 wx) => gain_any _ F worth A9 (sgTo F worth k F.op.length) n9 c9 wx (hFr.kp hx) (hi9.kp hx) Hn9.out HG.out hsg.out.1 hw0 hw9)
        have C2 := Lib.hid (fun (wx : World) (_ : Kp wr2 wx) => (HS.out ▸ list_any t F.op.length wx Ht.out (by omega) : Calls Tryz.prog 50 #[.int .u64 (t : Int)] wx fun e w' => ∃ v, e = .returned v ∧ Own w' wx.heap.size v S ∧ Kp wx w'))
        have C3 := Lib.hid (fun (wx : World) (hx : Kp wr2 wx) (Av : Option Addr) (n cv : Nat) (hi : IntsAt wx Av S) (hn : S.length = n) => gain_any _ F worth Av S n cv wx (hFr.kp hx) hi hn HG.out hss.out hw0 hw9)
        rw [Hx.out] at C1
        rw [Hy.out] at C3
        obtain ⟨wl, ewl⟩ : ∃ x : World, x = wr2 := ⟨_, rfl⟩
        have hkl : Kp w wr2 := (hk0.trans hkb).trans hr2
        clear hr1 hr2
        subst ewl
        by_cases hgt : y < x
        · have Hyes : Hid (rgL F worth k = sgTo F worth k F.op.length) := rgL_two Hok.out (by rw [Hx.out, ← hone.out, Hy.out]; exact hgt)
          go_wp2_with fail
          clear q_e0 q_e1
          have q_e0 := hkz2.get e0
          have q_e1 := hkz2.get e1
          have tok1 : True := trivial
          go_wp2_with fail
          go_region_held3 (fun w' => w'.cell? ⟨w.heap.size, 0, none⟩ = some (.slice A F.op.length c) ∧ w'.cell? ⟨w.heap.size, 1, none⟩ = some (.slice B F.di.length d) ∧ Kp wl w')
            (first | (refine keepc2 e0 e1 ?_; exact (by repeat (first | with_reducible assumption | with_reducible exact Kp.refl _ | with_reducible refine Kp.drew ?_ | with_reducible refine Kp.alloc ?_ _ | with_reducible refine Kp.drewN ?_ _ | refine Kp.setCell ?_ (by dsimp only; omega) _))) | fail)
            (first
              | (have _t := tok1; go_at_call 38; with_reducible refine Calls.mono (C1.out _ (by repeat (first | with_reducible assumption | with_reducible exact Kp.refl _ | with_reducible refine Kp.drew ?_ | with_reducible refine Kp.alloc ?_ _ | with_reducible refine Kp.drewN ?_ _ | refine Kp.setCell ?_ (by dsimp only; omega) _))) ?_; rintro e wr1 ⟨rfl, hka⟩; have hr1 : Kp wl wr1 := Kp.trans (by repeat (first | with_reducible assumption | with_reducible exact Kp.refl _ | with_reducible refine Kp.drew ?_ | with_reducible refine Kp.alloc ?_ _ | with_reducible refine Kp.drewN ?_ _ | refine Kp.setCell ?_ (by dsimp only; omega) _)) hka; have tok2 : True := trivial; clear tok1 _t)
              | (have _t := tok2; go_at_call 50; with_reducible refine Calls.mono (C2.out _ hr1) ?_; rintro e wr2 ⟨v, rfl, hov, hka⟩; have hr2 : Kp wl wr2 := Kp.trans (by repeat (first | with_reducible assumption | with_reducible exact Kp.refl _ | with_reducible refine Kp.drew ?_ | with_reducible refine Kp.alloc ?_ _ | with_reducible refine Kp.drewN ?_ _ | refine Kp.setCell ?_ (by dsimp only; omega) _)) hka; obtain ⟨Av, cv, hve, hiv⟩ := hov.ints (by omega); subst hve; have tok3 : True := trivial; clear tok2 _t)
              | (have _t := tok3; go_at_call 38; with_reducible refine Calls.mono (C3.out _ hr2 Av _ cv hiv rfl) ?_; rintro e wr3 ⟨rfl, hka⟩; have hr3 : Kp wl wr3 := Kp.trans (by repeat (first | with_reducible assumption | with_reducible exact Kp.refl _ | with_reducible refine Kp.drew ?_ | with_reducible refine Kp.alloc ?_ _ | with_reducible refine Kp.drewN ?_ _ | refine Kp.setCell ?_ (by dsimp only; omega) _)) hka; have tok4 : True := trivial; clear tok3 _t)
              | fail)
          all_goals
            go_wp2_with fail
            go_ret2
            exact ⟨_, by rw [Hok.out]; rfl, by rw [Hyes.out]; exact hu2.kp hr3, hkl.trans hr3⟩
        · have Hno : Hid (rgL F worth k = S) := by show _ = _; rw [hone.out]; exact rgL_one Hok.out (by rw [Hx.out, ← hone.out, Hy.out]; exact hgt)
          go_wp2_with fail
          clear q_e0 q_e1
          have q_e0 := hkz2.get e0
          have q_e1 := hkz2.get e1
          have tok1 : True := trivial
          go_wp2_with fail
          go_region_held3 (fun w' => w'.cell? ⟨w.heap.size, 0, none⟩ = some (.slice A F.op.length c) ∧ w'.cell? ⟨w.heap.size, 1, none⟩ = some (.slice B F.di.length d) ∧ Kp wl w')
            (first | (refine keepc2 e0 e1 ?_; exact (by repeat (first | with_reducible assumption | with_reducible exact Kp.refl _ | with_reducible refine Kp.drew ?_ | with_reducible refine Kp.alloc ?_ _ | with_reducible refine Kp.drewN ?_ _ | refine Kp.setCell ?_ (by dsimp only; omega) _))) | fail)
            (first
              | (have _t := tok1; go_at_call 38; with_reducible refine Calls.mono (C1.out _ (by repeat (first | with_reducible assumption | with_reducible exact Kp.refl _ | with_reducible refine Kp.drew ?_ | with_reducible refine Kp.alloc ?_ _ | with_reducible refine Kp.drewN ?_ _ | refine Kp.setCell ?_ (by dsimp only; omega) _))) ?_; rintro e wr1 ⟨rfl, hka⟩; have hr1 : Kp wl wr1 := Kp.trans (by repeat (first | with_reducible assumption | with_reducible exact Kp.refl _ | with_reducible refine Kp.drew ?_ | with_reducible refine Kp.alloc ?_ _ | with_reducible refine Kp.drewN ?_ _ | refine Kp.setCell ?_ (by dsimp only; omega) _)) hka; have tok2 : True := trivial; clear tok1 _t)
              | (have _t := tok2; go_at_call 50; with_reducible refine Calls.mono (C2.out _ hr1) ?_; rintro e wr2 ⟨v, rfl, hov, hka⟩; have hr2 : Kp wl wr2 := Kp.trans (by repeat (first | with_reducible assumption | with_reducible exact Kp.refl _ | with_reducible refine Kp.drew ?_ | with_reducible refine Kp.alloc ?_ _ | with_reducible refine Kp.drewN ?_ _ | refine Kp.setCell ?_ (by dsimp only; omega) _)) hka; obtain ⟨Av, cv, hve, hiv⟩ := hov.ints (by omega); subst hve; have tok3 : True := trivial; clear tok2 _t)
              | (have _t := tok3; go_at_call 38; with_reducible refine Calls.mono (C3.out _ hr2 Av _ cv hiv rfl) ?_; rintro e wr3 ⟨rfl, hka⟩; have hr3 : Kp wl wr3 := Kp.trans (by repeat (first | with_reducible assumption | with_reducible exact Kp.refl _ | with_reducible refine Kp.drew ?_ | with_reducible refine Kp.alloc ?_ _ | with_reducible refine Kp.drewN ?_ _ | refine Kp.setCell ?_ (by dsimp only; omega) _)) hka; have tok4 : True := trivial; clear tok3 _t)
              | fail)
          all_goals
            go_wp2_with fail
            have CC := Lib.hid (C2.out _ hr3)
            with_reducible refine Calls.mono CC.out ?_
            rintro e wz ⟨vz, rfl, hoz, hkzz⟩
            clear CC
            go_wp2_with fail
            go_ret2
            exact ⟨_, by rw [Hok.out]; rfl, by rw [Hno.out]; exact hoz.mono (hkl.trans hr3).le, hkl.trans (hr3.trans hkzz)⟩
end Go.Proofs.YtlglonjijfpgaaaGreat

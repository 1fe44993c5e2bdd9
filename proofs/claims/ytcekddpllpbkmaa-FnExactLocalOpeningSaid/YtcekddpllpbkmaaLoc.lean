/- Moves of a set: plain words; a set without a site. No condition. -/
import Derived.Test.YtcekddpllpbkmaaPay
import Derived.Test.YtcekddpllpbkmaaPut3
import Derived.Test.YtcekddpllpbkmaaLists
import Derived.Test.YtcekddpllpbkmaaSlot
namespace Go.Proofs.Ytcekddpllpbkmaa
open Go.RowKit Go.Sort

def inS (S : List Int) (a : Nat) : Bool := S.any fun x => x == (a : Int)
theorem inS_mem {S : List Int} {a : Nat} : inS S a = true ↔ (a : Int) ∈ S := by
  unfold inS
  rw [List.any_eq_true]
  constructor
  · rintro ⟨y, hy, e⟩
    have : y = (a : Int) := by simpa using e
    exact this ▸ hy
  · intro h; exact ⟨_, h, by simp⟩
/-- A set without a site. -/
def woL (S : List Int) (a : Int) : List Int := S.filter fun x => x != a
def woTo (S : List Int) (a : Int) (k : Nat) : List Int := (S.take k).filter fun x => x != a
theorem woTo_yes {S : List Int} {a : Int} {k : Nat} (hk : k < S.length) (h : (S[k] != a) = true) : woTo S a (k + 1) = woTo S a k ++ [S[k]] := by
  unfold woTo
  rw [List.take_succ_eq_append_getElem hk, List.filter_append]; simp [h]
theorem woTo_no {S : List Int} {a : Int} {k : Nat} (hk : k < S.length) (h : (S[k] != a) = false) : woTo S a (k + 1) = woTo S a k := by
  unfold woTo
  rw [List.take_succ_eq_append_getElem hk, List.filter_append]; simp [h]
theorem woTo_all {S : List Int} {a : Int} {k : Nat} (hk : S.length ≤ k) : woTo S a k = woL S a := by unfold woTo woL; rw [List.take_of_length_le hk]
theorem woTo_len (S : List Int) (a : Int) (k : Nat) : (woTo S a k).length ≤ S.length := by
  unfold woTo
  exact Nat.le_trans (List.length_filter_le _ _) (by simp; omega)
theorem woL_len (S : List Int) (a : Int) : (woL S a).length ≤ S.length := List.length_filter_le _ _
theorem mem_woL {S : List Int} {a x : Int} : x ∈ woL S a ↔ x ∈ S ∧ x ≠ a := by simp [woL]
theorem woL_set {F : Fld} {S : List Int} (h : setB F S = true) (a : Int) : setB F (woL S a) = true := by
  have hr := ris_iff.1 h
  exact ris_iff.2 ⟨hr.1.filter _, fun x hx => hr.2 x (mem_woL.1 hx).1⟩
theorem woL_two {F : Fld} {S : List Int} (h : setB F S = true) (a : Int) (h2 : 1 < S.length) : woL S a ≠ [] := by
  have hr := (ris_iff.1 h).1
  have h3 : S[0] < S[1] := List.pairwise_iff_getElem.1 hr 0 1 (by omega) h2 (by omega)
  intro e
  have m : ∀ x ∈ S, x = a := fun x hx => by
    by_cases hxa : x = a
    · exact hxa
    · have := mem_woL.2 ⟨hx, hxa⟩
      rw [e] at this; cases this
  have h4 := m S[0] (List.getElem_mem _)
  have h5 := m S[1] (List.getElem_mem _)
  omega
theorem woL_one {S : List Int} {a : Int} (ha : a ∈ S) (h2 : ¬ 1 < S.length) : woL S a = [] := by
  cases S with
  | nil => rfl
  | cons x t =>
    cases t with
    | nil =>
      have : a = x := by simpa using ha
      subst this
      simp [woL]
    | cons y t => simp at h2
/-- The sites of a set, in order. -/
def sitesN (n : Nat) (S : List Int) : List Nat := (List.range n).filter (inS S)
def outN (n : Nat) (S : List Int) : List Nat := (List.range n).filter fun a => !inS S a
theorem set_sites {F : Fld} {S : List Int} (h : setB F S = true) : S = (sitesN F.op.length S).map fun (a : Nat) => (a : Int) := by
  have hr := ris_iff.1 h
  have hm := set_mem h
  refine rising_ext hr.1 ?_ (fun x => ?_)
  · rw [List.pairwise_map]
    exact (List.pairwise_lt_range.filter _).imp (fun h => by omega)
  · rw [List.mem_map]
    constructor
    · intro hx
      obtain ⟨x1, x2⟩ := hm x hx
      obtain ⟨a, rfl⟩ := Int.eq_ofNat_of_zero_le x1
      exact ⟨a, List.mem_filter.2 ⟨List.mem_range.2 (by omega), inS_mem.2 hx⟩, rfl⟩
    · rintro ⟨a, ha, rfl⟩
      exact inS_mem.1 (List.mem_filter.1 ha).2
/-- The sets behind all moves, in order: sites that are opened, closed, and both. -/
def opTo (S : List Int) (k : Nat) : List (List Int) := (outN k S).map fun (a : Nat) => putL S (a : Int)
def clTo (S : List Int) (k : Nat) : List (List Int) := ((sitesN k S).filter fun (a : Nat) => !(woL S (a : Int)).isEmpty).map fun (a : Nat) => woL S (a : Int)
def swIn (S : List Int) (s : Int) (k : Nat) : List (List Int) := (outN k S).map fun (b : Nat) => putL (woL S s) (b : Int)
def swTo (n : Nat) (S : List Int) (k : Nat) : List (List Int) := (sitesN k S).flatMap fun (a : Nat) => swIn S (a : Int) n
def movesL (F : Fld) (S : List Int) : List (List Int) := opTo S F.op.length ++ clTo S F.op.length ++ swTo F.op.length S F.op.length
theorem outN_yes {S : List Int} {k : Nat} (h : inS S k = false) : outN (k + 1) S = outN k S ++ [k] := by unfold outN; rw [List.range_succ, List.filter_append]; simp [h]
theorem outN_no {S : List Int} {k : Nat} (h : inS S k = true) : outN (k + 1) S = outN k S := by unfold outN; rw [List.range_succ, List.filter_append]; simp [h]
theorem sitesN_yes {S : List Int} {k : Nat} (h : inS S k = true) : sitesN (k + 1) S = sitesN k S ++ [k] := by unfold sitesN; rw [List.range_succ, List.filter_append]; simp [h]
theorem sitesN_no {S : List Int} {k : Nat} (h : inS S k = false) : sitesN (k + 1) S = sitesN k S := by unfold sitesN; rw [List.range_succ, List.filter_append]; simp [h]
theorem opTo_yes {S : List Int} {k : Nat} (h : inS S k = false) : opTo S (k + 1) = opTo S k ++ [putL S (k : Int)] := by unfold opTo; rw [outN_yes h]; simp
theorem opTo_no {S : List Int} {k : Nat} (h : inS S k = true) : opTo S (k + 1) = opTo S k := by unfold opTo; rw [outN_no h]
theorem swIn_yes {S : List Int} {s : Int} {k : Nat} (h : inS S k = false) : swIn S s (k + 1) = swIn S s k ++ [putL (woL S s) (k : Int)] := by unfold swIn; rw [outN_yes h]; simp
theorem swIn_no {S : List Int} {s : Int} {k : Nat} (h : inS S k = true) : swIn S s (k + 1) = swIn S s k := by unfold swIn; rw [outN_no h]
theorem clTo_yes {S : List Int} {k : Nat} (h : inS S k = true) (h2 : woL S (k : Int) ≠ []) : clTo S (k + 1) = clTo S k ++ [woL S (k : Int)] := by
  unfold clTo
  have e : (woL S (k : Int)).isEmpty = false := by cases hw : woL S (k : Int) <;> simp_all
  rw [sitesN_yes h, List.filter_append]; simp [e]
theorem clTo_nil {S : List Int} {k : Nat} (h : inS S k = true) (h2 : woL S (k : Int) = []) : clTo S (k + 1) = clTo S k := by
  unfold clTo
  rw [sitesN_yes h, List.filter_append]; simp [h2]
theorem clTo_no {S : List Int} {k : Nat} (h : inS S k = false) : clTo S (k + 1) = clTo S k := by unfold clTo; rw [sitesN_no h]
theorem swTo_yes {n : Nat} {S : List Int} {k : Nat} (h : inS S k = true) : swTo n S (k + 1) = swTo n S k ++ swIn S (k : Int) n := by unfold swTo; rw [sitesN_yes h]; simp
theorem swTo_no {n : Nat} {S : List Int} {k : Nat} (h : inS S k = false) : swTo n S (k + 1) = swTo n S k := by unfold swTo; rw [sitesN_no h]
/-- As the program goes: over the set itself. -/
theorem set_map {F : Fld} {S : List Int} (h : setB F S = true) {β : Type} (g : Int → β) : S.map g = (sitesN F.op.length S).map fun (a : Nat) => g (a : Int) := by
  have e := congrArg (List.map g) (set_sites h)
  rw [List.map_map] at e
  exact e
theorem set_flat {F : Fld} {S : List Int} (h : setB F S = true) {β : Type} (g : Int → List β) : S.flatMap g = (sitesN F.op.length S).flatMap fun (a : Nat) => g (a : Int) := by
  rw [List.flatMap_def, set_map h, ← List.flatMap_def]
theorem not_empty {β : Type} {xs : List β} (h : xs ≠ []) : (!xs.isEmpty) = true := by
  cases xs with
  | nil => exact absurd rfl h
  | cons x t => rfl
theorem cl_set {F : Fld} {S : List Int} (h : setB F S = true) : clTo S F.op.length = if 1 < S.length then S.map (woL S) else [] := by
  by_cases h2 : 1 < S.length
  · rw [if_pos h2, set_map h]
    unfold clTo
    rw [List.filter_eq_self.2 (fun (a : Nat) _ => not_empty (woL_two h (a : Int) h2))]
  · rw [if_neg h2]
    unfold clTo
    rw [List.filter_eq_nil_iff.2 (fun (a : Nat) ha => by
      rw [woL_one (inS_mem.1 (List.mem_filter.1 ha).2) h2]
      simp)]
    rfl
theorem sw_set {F : Fld} {S : List Int} (h : setB F S = true) : swTo F.op.length S F.op.length = S.flatMap fun s => swIn S s F.op.length := by
  rw [set_flat h]; rfl
/-- The first set behind a move that makes the total less. -/
def lessB (F : Fld) (S T : List Int) : Bool := decide (totF F T < totF F S)
def betF (F : Fld) (S : List Int) : Option (List Int) := (movesL F S).find? (lessB F S)
/-- What the moves lead to. -/
theorem moves_ok {F : Fld} {S : List Int} (h : setB F S = true) (hne : S ≠ []) : ∀ T ∈ movesL F S, setB F T = true ∧ T ≠ [] := by
  intro T hT
  unfold movesL at hT
  have putne : ∀ (xs : List Int) (z : Int), putL xs z ≠ [] := fun xs z e => by
    have := (mem_putL (S := xs) (a := z) (x := z)).2 (.inr rfl)
    rw [e] at this; cases this
  rcases List.mem_append.1 hT with hT | hT
  · rcases List.mem_append.1 hT with hT | hT
    · obtain ⟨a, ha, rfl⟩ := List.mem_map.1 hT
      have := List.mem_range.1 (List.mem_filter.1 ha).1
      exact ⟨setB_put h (by omega) (by omega), putne _ _⟩
    · obtain ⟨a, ha, rfl⟩ := List.mem_map.1 hT
      have h3 := (List.mem_filter.1 ha).2
      exact ⟨woL_set h _, fun e => by rw [e] at h3; simp at h3⟩
  · obtain ⟨a, ha, hb⟩ := List.mem_flatMap.1 hT
    obtain ⟨b, hb2, rfl⟩ := List.mem_map.1 hb
    have := List.mem_range.1 (List.mem_filter.1 hb2).1
    exact ⟨setB_put (woL_set h _) (by omega) (by omega), putne _ _⟩
set_option maxRecDepth 100000 in
set_option maxHeartbeats 400000 in
theorem l2Without_any (A0 : Option Addr) (S : List Int) (n c0 : Nat) (a : Int) (w : World) (hS : IntsAt w A0 S) (hn : S.length = n) (hl : n ≤ 100000) :
    Calls Try.prog 115 #[.slice A0 n c0, .int .i64 a] w fun e w' => ∃ v, e = .returned v ∧ Own w' w.heap.size v (woL S a) ∧ Kp w w' := by
  have Hn := Lib.hid hn
  clear hn
  go_enter Try.func115, Try.ntmps115
  go_wp2_with fail
  have o1 := own_new0 w w.heap.size (Nat.le_refl _)
  have hkn := (Kp.refl w).alloc (.cells #[] 3)
  go_loopw [5, 6] (fun ov iv wr => ∃ k : Nat, k ≤ n ∧ iv = .int .i64 k ∧ Own wr w.heap.size ov (woTo S a k) ∧ Kp w wr) (fun _ iv _ => n - (intOf iv).toNat)
  case atStart => exact ⟨0, by omega, rfl, o1, hkn⟩
  case round =>
    clear o1 hkn
    obtain ⟨k, hk, rfl, hown, hkb⟩ := hrel
    by_cases hlt : k < n
    · have lx : k < S.length := by rw [Hn.out]; exact hlt
      obtain ⟨sd, rfl, hc⟩ := hS.at_ lx
      have hlw := woTo_len S a k
      rw [Hn.out] at hlw
      have hl2 : (woTo S a k).length < 1048576 := by omega
      cases hne : (S[k] != a)
      · have Hy := Lib.hid (woTo_no lx hne)
        have q0 := hkb.get hc
        go_wp2_with fail
        go_roundw
        case rel => exact ⟨k + 1, by omega, by go_num, by rw [Hy.out]; exact hown, hkb⟩
        case measure => simp [intOf]; omega
      · have Hy := Lib.hid (woTo_yes lx hne)
        have q_hc := hkb.get hc
        go_wp2_with (at_builtin; go_loud (refine wpl_app rfl (.tmp 20) (.tmp 25) rfl (w.heap.size) _ (woTo S a k) (S[k]) rfl rfl hown hkb.le (by omega) ?_; intro v' w' ho' ht' h4'; have hkb' := hown.kp_turn hkb (Nat.le_refl _) ht'; have r_hc := hkb'.get hc))
        go_roundw
        case rel => exact ⟨k + 1, by omega, by go_num, by rw [Hy.out]; exact ho', hkb'⟩
        case measure => simp [intOf]; omega
    · have Hy := Lib.hid (woTo_all (S := S) (a := a) (k := k) (by rw [Hn.out]; omega))
      go_wp2_with fail
      go_ret
      exact ⟨_, rfl, by rw [← Hy.out]; exact hown, hkb⟩
end Go.Proofs.Ytcekddpllpbkmaa

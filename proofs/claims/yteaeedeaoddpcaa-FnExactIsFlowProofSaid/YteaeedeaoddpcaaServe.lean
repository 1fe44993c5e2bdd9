/- By which site of a set a client is served, and how far it is: the program's answer and the reference's. No condition. -/
import Derived.Test.YteaeedeaoddpcaaSet
import Derived.Test.YteaeedeaoddpcaaApp
namespace Go.Proofs.Yteaeedeaoddpcaa
open Go.RowKit Go.Sort

/-- The length from a client to a site. -/
def dAt (F : Fld) (i : Nat) (a : Int) : Int := (F.di.getD i []).getD a.toNat 0
def stepS (F : Fld) (i : Nat) (best a : Int) : Int := if dAt F i a < dAt F i best then a else best
/-- The best of the first k sites. -/
def siteTo (F : Fld) (i : Nat) (S : List Int) (k : Nat) : Int := (S.take k).foldl (stepS F i) (S.headD 0)
def siteF (F : Fld) (i : Nat) (S : List Int) : Int := S.foldl (stepS F i) (S.headD 0)
def nearF (F : Fld) (i : Nat) (S : List Int) : Int := dAt F i (siteF F i S)

theorem set_mem {F : Fld} {S : List Int} (h : setB F S = true) : ∀ x ∈ S, 0 ≤ x ∧ x < F.op.length := by
  intro x hx
  obtain ⟨k, hk, rfl⟩ := List.getElem_of_mem hx
  have := List.all_eq_true.1 h k (by simpa using hk)
  simp only [okR, Bool.and_eq_true] at this
  have h1 := inB_iff.1 this.1
  simp [List.getD, hk] at h1
  omega
theorem stepS_lt {F : Fld} {i : Nat} {b a : Int} (h : dAt F i a < dAt F i b) : stepS F i b a = a := if_pos h
theorem stepS_ge {F : Fld} {i : Nat} {b a : Int} (h : dAt F i b ≤ dAt F i a) : stepS F i b a = b := if_neg (by omega)
theorem siteTo_succ {F : Fld} {i : Nat} {S : List Int} {k : Nat} (hk : k < S.length) : siteTo F i S (k + 1) = stepS F i (siteTo F i S k) S[k] := by
  rw [siteTo, List.take_succ_eq_append_getElem hk, List.foldl_append]; rfl
theorem fold_mem {F : Fld} {i : Nat} : ∀ (L : List Int) (b : Int), L.foldl (stepS F i) b = b ∨ L.foldl (stepS F i) b ∈ L
  | [], b => .inl rfl
  | a :: L, b => by
    simp only [List.foldl_cons]
    rcases fold_mem L (stepS F i b a) with h | h
    · rw [h]
      unfold stepS
      by_cases hl : dAt F i a < dAt F i b
      · rw [if_pos hl]; exact .inr (by simp)
      · rw [if_neg hl]; exact .inl rfl
    · exact .inr (by simp [h])
theorem siteTo_mem {F : Fld} {i : Nat} {S : List Int} (h : S ≠ []) (k : Nat) : siteTo F i S k ∈ S := by
  have hh : S.headD 0 ∈ S := by
    cases S with
    | nil => exact absurd rfl h
    | cons a S => simp
  rcases fold_mem (F := F) (i := i) (S.take k) (S.headD 0) with e | e
  · rw [siteTo, e]; exact hh
  · exact List.mem_of_mem_take e
theorem siteTo_all {F : Fld} {i : Nat} {S : List Int} {k : Nat} (h : S.length ≤ k) : siteTo F i S k = siteF F i S := by
  rw [siteTo, List.take_of_length_le h]; rfl
theorem siteF_mem {F : Fld} {i : Nat} {S : List Int} (h : S ≠ []) : siteF F i S ∈ S := by
  rw [← siteTo_all (Nat.le_refl _)]; exact siteTo_mem h _
theorem siteTo_one {F : Fld} {i : Nat} {S : List Int} (h : 0 < S.length) : siteTo F i S 1 = S[0] := by
  cases S with
  | nil => simp at h
  | cons a S => simp [siteTo, stepS]
theorem siteTo_zero {F : Fld} {i : Nat} {S : List Int} (h : 0 < S.length) : siteTo F i S 0 = S[0] := by
  cases S with
  | nil => simp at h
  | cons a S => simp [siteTo]
/-- The cell of a length. -/
theorem dCell {w : World} {rd : Addr} {F : Fld} {i : Nat} {a : Int} (hi : i < F.di.length) (hr : IntsAt w (some rd) F.di[i]) (h0 : 0 ≤ a) (h1 : a < F.di[i].length) : w.cell? (rd.add a.toNat) = some (.int .i64 (dAt F i a)) := by
  have h2 : a.toNat < F.di[i].length := by omega
  rw [hr.some_ h2]
  simp [dAt, List.getD, hi, h2]

end Go.Proofs.Yteaeedeaoddpcaa

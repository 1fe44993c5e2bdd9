/- By which site of a set a client is served, and how far it is: the program's answer and the reference's. No condition. -/
import Derived.Test.YtjoebikljmkhfaaSet
import Derived.Test.YtjoebikljmkhfaaApp
namespace Go.Proofs.Ytjoebikljmkhfaa
open Go.RowKit Go.Sort

/-- The length from a client to a site. -/
def dAt (F : Fld) (i : Nat) (a : Int) : Int := (F.di.getD i []).getD a.toNat 0
def stepS (F : Fld) (i : Nat) (best a : Int) : Int := if dAt F i a < dAt F i best then a else best
/-- The best of the first k sites. -/
def siteTo (F : Fld) (i : Nat) (S : List Int) (k : Nat) : Int := (S.take k).foldl (stepS F i) (S.headD 0)
def siteF (F : Fld) (i : Nat) (S : List Int) : Int := S.foldl (stepS F i) (S.headD 0)
def nearF (F : Fld) (i : Nat) (S : List Int) : Int := dAt F i (siteF F i S)

theorem set_mem {F : Fld} {S : List Int} (h : setB F S = true) : ∀ x ∈ S, 0 ≤ x ∧ x < F.op.length := by
  intro x hx
  obtain ⟨k, hk, rfl⟩ := List.getElem_of_mem hx
  have := List.all_eq_true.1 h k (by simpa using hk)
  simp only [okR, Bool.and_eq_true] at this
  have h1 := inB_iff.1 this.1
  simp [List.getD, hk] at h1
  omega
theorem stepS_lt {F : Fld} {i : Nat} {b a : Int} (h : dAt F i a < dAt F i b) : stepS F i b a = a := if_pos h
theorem stepS_ge {F : Fld} {i : Nat} {b a : Int} (h : dAt F i b ≤ dAt F i a) : stepS F i b a = b := if_neg (by omega)
theorem siteTo_succ {F : Fld} {i : Nat} {S : List Int} {k : Nat} (hk : k < S.length) : siteTo F i S (k + 1) = stepS F i (siteTo F i S k) S[k] := by
  rw [siteTo, List.take_succ_eq_append_getElem hk, List.foldl_append]; rfl
theorem fold_mem {F : Fld} {i : Nat} : ∀ (L : List Int) (b : Int), L.foldl (stepS F i) b = b ∨ L.foldl (stepS F i) b ∈ L
  | [], b => .inl rfl
  | a :: L, b => by
    simp only [List.foldl_cons]
    rcases fold_mem L (stepS F i b a) with h | h
    · rw [h]
      unfold stepS
      by_cases hl : dAt F i a < dAt F i b
      · rw [if_pos hl]; exact .inr (by simp)
      · rw [if_neg hl]; exact .inl rfl
    · exact .inr (by simp [h])
theorem siteTo_mem {F : Fld} {i : Nat} {S : List Int} (h : S ≠ []) (k : Nat) : siteTo F i S k ∈ S := by
  have hh : S.headD 0 ∈ S := by
    cases S with
    | nil => exact absurd rfl h
    | cons a S => simp
  rcases fold_mem (F := F) (i := i) (S.take k) (S.headD 0) with e | e
  · rw [siteTo, e]; exact hh
  · exact List.mem_of_mem_take e
theorem siteTo_all {F : Fld} {i : Nat} {S : List Int} {k : Nat} (h : S.length ≤ k) : siteTo F i S k = siteF F i S := by
  rw [siteTo, List.take_of_length_le h]; rfl
theorem siteF_mem {F : Fld} {i : Nat} {S : List Int} (h : S ≠ []) : siteF F i S ∈ S := by
  rw [← siteTo_all (Nat.le_refl _)]; exact siteTo_mem h _
theorem siteTo_one {F : Fld} {i : Nat} {S : List Int} (h : 0 < S.length) : siteTo F i S 1 = S[0] := by
  cases S with
  | nil => simp at h
  | cons a S => simp [siteTo, stepS]
theorem siteTo_zero {F : Fld} {i : Nat} {S : List Int} (h : 0 < S.length) : siteTo F i S 0 = S[0] := by
  cases S with
  | nil => simp at h
  | cons a S => simp [siteTo]
/-- The cell of a length. -/
theorem dCell {w : World} {rd : Addr} {F : Fld} {i : Nat} {a : Int} (hi : i < F.di.length) (hr : IntsAt w (some rd) F.di[i]) (h0 : 0 ≤ a) (h1 : a < F.di[i].length) : w.cell? (rd.add a.toNat) = some (.int .i64 (dAt F i a)) := by
  have h2 : a.toNat < F.di[i].length := by omega
  rw [hr.some_ h2]
  simp [dAt, List.getD, hi, h2]

set_option maxRecDepth 100000 in
set_option maxHeartbeats 1000000 in
theorem server_any (f : Value) (F : Fld) (i : Nat) (A0 : Option Addr) (S : List Int) (n c0 : Nat) (w : World) (hf : FldAt w f F) (hS : IntsAt w A0 S) (hn : S.length = n) (hg : goodF F = true) (hs : setB F S = true) (hne : S ≠ []) (hi : i < F.di.length) :
    Calls Try.prog 61 #[f, .int .i64 i, .slice A0 n c0] w fun e w' => e = .returned (.int .i64 (siteF F i S)) ∧ Kp w w' := by
  obtain ⟨A, c, B, d, rfl, hA, hB⟩ := hf
  have hk0 : Kp w (w.alloc (.cells #[.slice A F.op.length c, .slice B F.di.length d] 58)) := (Kp.refl w).alloc _
  obtain ⟨d0, d1⟩ := box2 w (.slice A F.op.length c) (.slice B F.di.length d) 58
  have hB0 := hB.kp hk0
  have hS0 := hS.kp hk0
  have hpos : 0 < n := by rw [← hn]; exact List.length_pos_iff.2 hne
  have hnb := hS.1
  rw [hn] at hnb
  have Hn := Lib.hid hn; clear hn
  have Hm := Lib.hid (set_mem hs)
  have Hne := Lib.hid hne
  have hrl := Lib.hid (goodRow hg hi)
  have hd7 := (goodF_iff.1 hg).2.2.1
  clear hs hg hne
  have lx0 : 0 < S.length := by rw [Hn.out]; exact hpos
  obtain ⟨sd, rfl, hc0⟩ := hS0.at_ lx0
  have hz := Lib.hid (siteTo_zero (F := F) (i := i) lx0)
  rw [show sd.add 0 = sd from rfl] at hc0
  have hp1 : (0 : Int) < n := by omega
  obtain ⟨bd, A', c', rfl, hcr, hr⟩ := hB0.at_ hi
  go_enter Try.func61, Try.ntmps61
  go_wp2_with fail
  generalize w.alloc (.cells #[.slice A F.op.length c, .slice (some bd) F.di.length d] 58) = wb at *
  go_loopw [7, 15] (fun bv ix wr => ∃ k : Nat, k ≤ n ∧ ix = .int .i64 k ∧ bv = .int .i64 (siteTo F i S k) ∧ Dr wb wr) (fun _ ix _ => n - (intOf ix).toNat)
  case atStart => exact ⟨0, by omega, rfl, by rw [hz.out], Dr.refl _⟩
  case round =>
    obtain ⟨k, hk, rfl, rfl, hdr⟩ := hrel
    have e1 := hdr.kp.get d1
    by_cases hlt : k < n
    · have lx : k < S.length := by rw [Hn.out]; exact hlt
      have hck := (hS0.kp hdr.kp).some_ lx
      obtain ⟨ha0, ha1⟩ := Hm.out _ (List.getElem_mem lx)
      obtain ⟨hb0, hb1⟩ := Hm.out _ (siteTo_mem (F := F) (i := i) Hne.out k)
      rw [← hrl.out] at ha1 hb1
      have hrow := (hB0.kp hdr.kp).some_ hi
      obtain ⟨A2, c2, hcr2, hr2⟩ := hrow
      have hpl : 0 < F.di[i].length := by omega
      obtain ⟨rd, rfl, _⟩ := hr2.at_ hpl
      have hda := dCell hi hr2 ha0 ha1
      have hdb := dCell hi hr2 hb0 hb1
      have hsucc := Lib.hid (siteTo_succ (F := F) (i := i) lx)
      go_wp2_with fail
      go_quiet (fail)
      go_wp2_with fail
      · have h2 : dAt F i S[k] < dAt F i (siteTo F i S k) := by assumption
        go_roundw
        case rel => exact ⟨k + 1, by omega, by go_num, by rw [hsucc.out, stepS_lt h2], hdr.drewN nq⟩
        case measure => simp [intOf]; omega
      · have h2 : dAt F i (siteTo F i S k) ≤ dAt F i S[k] := by assumption
        go_roundw
        case rel => exact ⟨k + 1, by omega, by go_num, by rw [hsucc.out, stepS_ge h2], hdr.drewN nq⟩
        case measure => simp [intOf]; omega
    · go_wp2_with fail
      go_ret
      exact ⟨ret_int (by rw [siteTo_all (by rw [Hn.out]; omega)]), hk0.trans hdr.kp⟩

set_option maxRecDepth 100000 in
set_option maxHeartbeats 1000000 in
theorem l2Site_any (f : Value) (F : Fld) (i : Nat) (A0 : Option Addr) (S : List Int) (n c0 : Nat) (w : World) (hf : FldAt w f F) (hS : IntsAt w A0 S) (hn : S.length = n) (hg : goodF F = true) (hs : setB F S = true) (hne : S ≠ []) (hi : i < F.di.length) :
    Calls Try.prog 58 #[f, .int .i64 i, .slice A0 n c0] w fun e w' => e = .returned (.int .i64 (siteF F i S)) ∧ Kp w w' := by
  obtain ⟨A, c, B, d, rfl, hA, hB⟩ := hf
  have hk0 : Kp w (w.alloc (.cells #[.slice A F.op.length c, .slice B F.di.length d] 58)) := (Kp.refl w).alloc _
  obtain ⟨d0, d1⟩ := box2 w (.slice A F.op.length c) (.slice B F.di.length d) 58
  have hB0 := hB.kp hk0
  have hS0 := hS.kp hk0
  have hpos : 0 < n := by rw [← hn]; exact List.length_pos_iff.2 hne
  have hnb := hS.1
  rw [hn] at hnb
  have Hn := Lib.hid hn; clear hn
  have Hm := Lib.hid (set_mem hs)
  have Hne := Lib.hid hne
  have hrl := Lib.hid (goodRow hg hi)
  have hd7 := (goodF_iff.1 hg).2.2.1
  clear hs hg hne
  have lx0 : 0 < S.length := by rw [Hn.out]; exact hpos
  obtain ⟨sd, rfl, hc0⟩ := hS0.at_ lx0
  have hz := Lib.hid (siteTo_one (F := F) (i := i) lx0)
  rw [show sd.add 0 = sd from rfl] at hc0
  have hp1 : (0 : Int) < n := by omega
  obtain ⟨bd, A', c', rfl, hcr, hr⟩ := hB0.at_ hi
  go_enter Try.func58, Try.ntmps58
  go_wp2_with fail
  generalize w.alloc (.cells #[.slice A F.op.length c, .slice (some bd) F.di.length d] 58) = wb at *
  go_loopw [7, 8] (fun bv ix wr => ∃ k : Nat, 1 ≤ k ∧ k ≤ n ∧ ix = .int .i64 k ∧ bv = .int .i64 (siteTo F i S k) ∧ Dr wb wr) (fun _ ix _ => n - (intOf ix).toNat)
  case atStart => exact ⟨1, by omega, by omega, rfl, by rw [hz.out], Dr.refl _⟩
  case round =>
    obtain ⟨k, hk1, hk, rfl, rfl, hdr⟩ := hrel
    have e1 := hdr.kp.get d1
    by_cases hlt : k < n
    · have lx : k < S.length := by rw [Hn.out]; exact hlt
      have hck := (hS0.kp hdr.kp).some_ lx
      obtain ⟨ha0, ha1⟩ := Hm.out _ (List.getElem_mem lx)
      obtain ⟨hb0, hb1⟩ := Hm.out _ (siteTo_mem (F := F) (i := i) Hne.out k)
      rw [← hrl.out] at ha1 hb1
      have hrow := (hB0.kp hdr.kp).some_ hi
      obtain ⟨A2, c2, hcr2, hr2⟩ := hrow
      have hpl : 0 < F.di[i].length := by omega
      obtain ⟨rd, rfl, _⟩ := hr2.at_ hpl
      have hda := dCell hi hr2 ha0 ha1
      have hdb := dCell hi hr2 hb0 hb1
      have hsucc := Lib.hid (siteTo_succ (F := F) (i := i) lx)
      go_wp2_with fail
      go_quiet (fail)
      go_wp2_with fail
      · have h2 : dAt F i S[k] < dAt F i (siteTo F i S k) := by assumption
        go_roundw
        case rel => exact ⟨k + 1, by omega, by omega, by go_num, by rw [hsucc.out, stepS_lt h2], hdr.drewN nq⟩
        case measure => simp [intOf]; omega
      · have h2 : dAt F i (siteTo F i S k) ≤ dAt F i S[k] := by assumption
        go_roundw
        case rel => exact ⟨k + 1, by omega, by omega, by go_num, by rw [hsucc.out, stepS_ge h2], hdr.drewN nq⟩
        case measure => simp [intOf]; omega
    · go_wp2_with fail
      go_ret
      exact ⟨ret_int (by rw [siteTo_all (by rw [Hn.out]; omega)]), hk0.trans hdr.kp⟩
end Go.Proofs.Ytjoebikljmkhfaa

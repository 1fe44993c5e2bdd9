/- By which site of a set a client is served, and how far it is: the program's answer and the reference's; Gains of sets: the program's answer and the reference's; Sums over the first numbers; Sets as binary numbers, and as rising lists: plain words; Lists of different numbers; Marginal shares, and the sum of them over all orders, in plain Lean; append of one number at a step of a region that draws. No condition. -/
import Derived.Test.YtggkhieepjnmdaaQAb
import Derived.Deep.AppendLies
import Derived.Deep.RegionHeld3
namespace Go.Proofs.Ytggkhieepjnmdaa
open Go.RowKit Go.Sort

/-- The length from a client to a site. -/
def dAt (F : Fld) (i : Nat) (a : Int) : Int := (F.di.getD i []).getD a.toNat 0
def stepS (F : Fld) (i : Nat) (best a : Int) : Int := if dAt F i a < dAt F i best then a else best
/-- The best of the first k sites. -/
def siteTo (F : Fld) (i : Nat) (S : List Int) (k : Nat) : Int := (S.take k).foldl (stepS F i) (S.headD 0)
def siteF (F : Fld) (i : Nat) (S : List Int) : Int := S.foldl (stepS F i) (S.headD 0)
def nearF (F : Fld) (i : Nat) (S : List Int) : Int := dAt F i (siteF F i S)

theorem set_mem {F : Fld} {S : List Int} (h : setB F S = true) : ∀ x ∈ S, 0 ≤ x ∧ x < F.op.length := by
  intro x hx
  obtain ⟨k, hk, rfl⟩ := List.getElem_of_mem hx
  have := List.all_eq_true.1 h k (by simpa using hk)
  simp only [okR, Bool.and_eq_true] at this
  have h1 := inB_iff.1 this.1
  simp [List.getD, hk] at h1
  omega
theorem stepS_lt {F : Fld} {i : Nat} {b a : Int} (h : dAt F i a < dAt F i b) : stepS F i b a = a := if_pos h
theorem stepS_ge {F : Fld} {i : Nat} {b a : Int} (h : dAt F i b ≤ dAt F i a) : stepS F i b a = b := if_neg (by omega)
theorem siteTo_succ {F : Fld} {i : Nat} {S : List Int} {k : Nat} (hk : k < S.length) : siteTo F i S (k + 1) = stepS F i (siteTo F i S k) S[k] := by
  rw [siteTo, List.take_succ_eq_append_getElem hk, List.foldl_append]; rfl
theorem fold_mem {F : Fld} {i : Nat} : ∀ (L : List Int) (b : Int), L.foldl (stepS F i) b = b ∨ L.foldl (stepS F i) b ∈ L
  | [], b => .inl rfl
  | a :: L, b => by
    simp only [List.foldl_cons]
    rcases fold_mem L (stepS F i b a) with h | h
    · rw [h]
      unfold stepS
      by_cases hl : dAt F i a < dAt F i b
      · rw [if_pos hl]; exact .inr (by simp)
      · rw [if_neg hl]; exact .inl rfl
    · exact .inr (by simp [h])
theorem siteTo_mem {F : Fld} {i : Nat} {S : List Int} (h : S ≠ []) (k : Nat) : siteTo F i S k ∈ S := by
  have hh : S.headD 0 ∈ S := by
    cases S with
    | nil => exact absurd rfl h
    | cons a S => simp
  rcases fold_mem (F := F) (i := i) (S.take k) (S.headD 0) with e | e
  · rw [siteTo, e]; exact hh
  · exact List.mem_of_mem_take e
theorem siteTo_all {F : Fld} {i : Nat} {S : List Int} {k : Nat} (h : S.length ≤ k) : siteTo F i S k = siteF F i S := by
  rw [siteTo, List.take_of_length_le h]; rfl
theorem siteF_mem {F : Fld} {i : Nat} {S : List Int} (h : S ≠ []) : siteF F i S ∈ S := by
  rw [← siteTo_all (Nat.le_refl _)]; exact siteTo_mem h _
theorem siteTo_one {F : Fld} {i : Nat} {S : List Int} (h : 0 < S.length) : siteTo F i S 1 = S[0] := by
  cases S with
  | nil => simp at h
  | cons a S => simp [siteTo, stepS]
theorem siteTo_zero {F : Fld} {i : Nat} {S : List Int} (h : 0 < S.length) : siteTo F i S 0 = S[0] := by
  cases S with
  | nil => simp at h
  | cons a S => simp [siteTo]
/-- The cell of a length. -/
theorem dCell {w : World} {rd : Addr} {F : Fld} {i : Nat} {a : Int} (hi : i < F.di.length) (hr : IntsAt w (some rd) F.di[i]) (h0 : 0 ≤ a) (h1 : a < F.di[i].length) : w.cell? (rd.add a.toNat) = some (.int .i64 (dAt F i a)) := by
  have h2 : a.toNat < F.di[i].length := by omega
  rw [hr.some_ h2]
  simp [dAt, List.getD, hi, h2]

set_option maxRecDepth 100000 in
set_option maxHeartbeats 1000000 in
theorem server_any (f : Value) (F : Fld) (i : Nat) (A0 : Option Addr) (S : List Int) (n c0 : Nat) (w : World) (hf : FldAt w f F) (hS : IntsAt w A0 S) (hn : S.length = n) (hg : goodF F = true) (hs : setB F S = true) (hne : S ≠ []) (hi : i < F.di.length) :
    Calls Try.prog 82 #[f, .int .i64 i, .slice A0 n c0] w fun e w' => e = .returned (.int .i64 (siteF F i S)) ∧ Kp w w' := by
  obtain ⟨A, c, B, d, rfl, hA, hB⟩ := hf
  have hk0 : Kp w (w.alloc (.cells #[.slice A F.op.length c, .slice B F.di.length d] 29)) := (Kp.refl w).alloc _
  obtain ⟨d0, d1⟩ := box2 w (.slice A F.op.length c) (.slice B F.di.length d) 29
  have hB0 := hB.kp hk0
  have hS0 := hS.kp hk0
  have hpos : 0 < n := by rw [← hn]; exact List.length_pos_iff.2 hne
  have hnb := hS.1
  rw [hn] at hnb
  have Hn := Lib.hid hn; clear hn
  have Hm := Lib.hid (set_mem hs)
  have Hne := Lib.hid hne
  have hrl := Lib.hid (goodRow hg hi)
  have hd7 := (goodF_iff.1 hg).2.2.1
  clear hs hg hne
  have lx0 : 0 < S.length := by rw [Hn.out]; exact hpos
  obtain ⟨sd, rfl, hc0⟩ := hS0.at_ lx0
  have hz := Lib.hid (siteTo_zero (F := F) (i := i) lx0)
  rw [show sd.add 0 = sd from rfl] at hc0
  have hp1 : (0 : Int) < n := by omega
  obtain ⟨bd, A', c', rfl, hcr, hr⟩ := hB0.at_ hi
  go_enter Try.func82, Try.ntmps82
  go_wp2_with fail
  generalize w.alloc (.cells #[.slice A F.op.length c, .slice (some bd) F.di.length d] 29) = wb at *
  go_loopw [7, 15] (fun bv ix wr => ∃ k : Nat, k ≤ n ∧ ix = .int .i64 k ∧ bv = .int .i64 (siteTo F i S k) ∧ Dr wb wr) (fun _ ix _ => n - (intOf ix).toNat)
  case atStart => exact ⟨0, by omega, rfl, by rw [hz.out], Dr.refl _⟩
  case round =>
    obtain ⟨k, hk, rfl, rfl, hdr⟩ := hrel
    have e1 := hdr.kp.get d1
    by_cases hlt : k < n
    · have lx : k < S.length := by rw [Hn.out]; exact hlt
      have hck := (hS0.kp hdr.kp).some_ lx
      obtain ⟨ha0, ha1⟩ := Hm.out _ (List.getElem_mem lx)
      obtain ⟨hb0, hb1⟩ := Hm.out _ (siteTo_mem (F := F) (i := i) Hne.out k)
      rw [← hrl.out] at ha1 hb1
      have hrow := (hB0.kp hdr.kp).some_ hi
      obtain ⟨A2, c2, hcr2, hr2⟩ := hrow
      have hpl : 0 < F.di[i].length := by omega
      obtain ⟨rd, rfl, _⟩ := hr2.at_ hpl
      have hda := dCell hi hr2 ha0 ha1
      have hdb := dCell hi hr2 hb0 hb1
      have hsucc := Lib.hid (siteTo_succ (F := F) (i := i) lx)
      go_wp2_with fail
      go_quiet (fail)
      go_wp2_with fail
      · have h2 : dAt F i S[k] < dAt F i (siteTo F i S k) := by assumption
        go_roundw
        case rel => exact ⟨k + 1, by omega, by go_num, by rw [hsucc.out, stepS_lt h2], hdr.drewN nq⟩
        case measure => simp [intOf]; omega
      · have h2 : dAt F i (siteTo F i S k) ≤ dAt F i S[k] := by assumption
        go_roundw
        case rel => exact ⟨k + 1, by omega, by go_num, by rw [hsucc.out, stepS_ge h2], hdr.drewN nq⟩
        case measure => simp [intOf]; omega
    · go_wp2_with fail
      go_ret
      exact ⟨ret_int (by rw [siteTo_all (by rw [Hn.out]; omega)]), hk0.trans hdr.kp⟩

set_option maxRecDepth 100000 in
set_option maxHeartbeats 1000000 in
theorem l2Site_any (f : Value) (F : Fld) (i : Nat) (A0 : Option Addr) (S : List Int) (n c0 : Nat) (w : World) (hf : FldAt w f F) (hS : IntsAt w A0 S) (hn : S.length = n) (hg : goodF F = true) (hs : setB F S = true) (hne : S ≠ []) (hi : i < F.di.length) :
    Calls Try.prog 60 #[f, .int .i64 i, .slice A0 n c0] w fun e w' => e = .returned (.int .i64 (siteF F i S)) ∧ Kp w w' := by
  obtain ⟨A, c, B, d, rfl, hA, hB⟩ := hf
  have hk0 : Kp w (w.alloc (.cells #[.slice A F.op.length c, .slice B F.di.length d] 29)) := (Kp.refl w).alloc _
  obtain ⟨d0, d1⟩ := box2 w (.slice A F.op.length c) (.slice B F.di.length d) 29
  have hB0 := hB.kp hk0
  have hS0 := hS.kp hk0
  have hpos : 0 < n := by rw [← hn]; exact List.length_pos_iff.2 hne
  have hnb := hS.1
  rw [hn] at hnb
  have Hn := Lib.hid hn; clear hn
  have Hm := Lib.hid (set_mem hs)
  have Hne := Lib.hid hne
  have hrl := Lib.hid (goodRow hg hi)
  have hd7 := (goodF_iff.1 hg).2.2.1
  clear hs hg hne
  have lx0 : 0 < S.length := by rw [Hn.out]; exact hpos
  obtain ⟨sd, rfl, hc0⟩ := hS0.at_ lx0
  have hz := Lib.hid (siteTo_one (F := F) (i := i) lx0)
  rw [show sd.add 0 = sd from rfl] at hc0
  have hp1 : (0 : Int) < n := by omega
  obtain ⟨bd, A', c', rfl, hcr, hr⟩ := hB0.at_ hi
  go_enter Try.func60, Try.ntmps60
  go_wp2_with fail
  generalize w.alloc (.cells #[.slice A F.op.length c, .slice (some bd) F.di.length d] 29) = wb at *
  go_loopw [7, 8] (fun bv ix wr => ∃ k : Nat, 1 ≤ k ∧ k ≤ n ∧ ix = .int .i64 k ∧ bv = .int .i64 (siteTo F i S k) ∧ Dr wb wr) (fun _ ix _ => n - (intOf ix).toNat)
  case atStart => exact ⟨1, by omega, by omega, rfl, by rw [hz.out], Dr.refl _⟩
  case round =>
    obtain ⟨k, hk1, hk, rfl, rfl, hdr⟩ := hrel
    have e1 := hdr.kp.get d1
    by_cases hlt : k < n
    · have lx : k < S.length := by rw [Hn.out]; exact hlt
      have hck := (hS0.kp hdr.kp).some_ lx
      obtain ⟨ha0, ha1⟩ := Hm.out _ (List.getElem_mem lx)
      obtain ⟨hb0, hb1⟩ := Hm.out _ (siteTo_mem (F := F) (i := i) Hne.out k)
      rw [← hrl.out] at ha1 hb1
      have hrow := (hB0.kp hdr.kp).some_ hi
      obtain ⟨A2, c2, hcr2, hr2⟩ := hrow
      have hpl : 0 < F.di[i].length := by omega
      obtain ⟨rd, rfl, _⟩ := hr2.at_ hpl
      have hda := dCell hi hr2 ha0 ha1
      have hdb := dCell hi hr2 hb0 hb1
      have hsucc := Lib.hid (siteTo_succ (F := F) (i := i) lx)
      go_wp2_with fail
      go_quiet (fail)
      go_wp2_with fail
      · have h2 : dAt F i S[k] < dAt F i (siteTo F i S k) := by assumption
        go_roundw
        case rel => exact ⟨k + 1, by omega, by omega, by go_num, by rw [hsucc.out, stepS_lt h2], hdr.drewN nq⟩
        case measure => simp [intOf]; omega
      · have h2 : dAt F i (siteTo F i S k) ≤ dAt F i S[k] := by assumption
        go_roundw
        case rel => exact ⟨k + 1, by omega, by omega, by go_num, by rw [hsucc.out, stepS_ge h2], hdr.drewN nq⟩
        case measure => simp [intOf]; omega
    · go_wp2_with fail
      go_ret
      exact ⟨ret_int (by rw [siteTo_all (by rw [Hn.out]; omega)]), hk0.trans hdr.kp⟩
end Go.Proofs.Ytggkhieepjnmdaa

namespace Go.Proofs.Ytggkhieepjnmdaa
open Go.RowKit Go.Sort

def mapTo (g : Nat → Int) (k : Nat) : List Int := (List.range k).map g
theorem mapTo_len (g : Nat → Int) (k : Nat) : (mapTo g k).length = k := by simp [mapTo]
theorem mapTo_succ (g : Nat → Int) (k : Nat) : mapTo g (k + 1) = mapTo g k ++ [g k] := by simp [mapTo, List.range_succ]
theorem mapTo_get {g : Nat → Int} {k i : Nat} (h : i < k) (h' : i < (mapTo g k).length) : (mapTo g k)[i] = g i := by simp [mapTo]
def sumTo (g : Nat → Int) (k : Nat) : Int := (mapTo g k).sum
theorem sumTo_zero (g : Nat → Int) : sumTo g 0 = 0 := rfl
theorem sumTo_succ (g : Nat → Int) (k : Nat) : sumTo g (k + 1) = sumTo g k + g k := by simp [sumTo, mapTo_succ]
theorem sumTo_bd {g : Nat → Int} {b : Int} (h : ∀ i, 0 ≤ g i ∧ g i ≤ b) : ∀ k : Nat, 0 ≤ sumTo g k ∧ sumTo g k ≤ k * b
  | 0 => by simp [sumTo_zero]
  | k + 1 => by
    have h1 := sumTo_bd h k
    have h2 := h k
    rw [sumTo_succ]
    have h3 : ((k + 1 : Nat) : Int) * b = k * b + b := by
      rw [Int.natCast_add, Int.add_mul]; simp
    omega

theorem dAt_bd {F : Fld} (h : goodF F = true) {i : Nat} (hi : i < F.di.length) (a : Int) : 0 ≤ dAt F i a ∧ dAt F i a ≤ 99 := by
  have e : F.di.getD i [] = F.di[i] := by simp [List.getD, hi]
  rw [dAt, e]
  by_cases ha : a.toNat < F.di[i].length
  · have := ((goodF_iff.1 h).2.2.2 _ (List.getElem_mem hi)).1 _ (List.getElem_mem ha)
    simpa [List.getD, ha] using this
  · simp [List.getD, ha]

/-- What client i brings. -/
def gainAt (F : Fld) (worth : Int) (S : List Int) (i : Nat) : Int := max 0 (worth - nearF F i S)
def gainF (F : Fld) (worth : Int) (S : List Int) : Int := if S = [] then 0 else sumTo (gainAt F worth S) F.di.length
theorem gainF_nil {F : Fld} {worth : Int} : gainF F worth [] = 0 := if_pos rfl
theorem gainF_cons {F : Fld} {worth : Int} {S : List Int} (h : S ≠ []) : gainF F worth S = sumTo (gainAt F worth S) F.di.length := if_neg h
theorem siteF_bd {F : Fld} {S : List Int} (hs : setB F S = true) (hne : S ≠ []) (i : Nat) : 0 ≤ siteF F i S ∧ siteF F i S < F.op.length := set_mem hs _ (siteF_mem hne)

set_option maxRecDepth 100000 in
set_option maxHeartbeats 1000000 in
theorem l2Nearest_any (f : Value) (F : Fld) (i : Nat) (A0 : Option Addr) (S : List Int) (n c0 : Nat) (w : World) (hf : FldAt w f F) (hS : IntsAt w A0 S) (hn : S.length = n) (hg : goodF F = true) (hs : setB F S = true) (hne : S ≠ []) (hi : i < F.di.length) :
    Calls Try.prog 54 #[f, .int .i64 i, .slice A0 n c0] w fun e w' => e = .returned (.int .i64 (nearF F i S)) ∧ Kp w w' := by
  obtain ⟨A, c, B, d, rfl, hA, hB⟩ := hf
  have hk0 : Kp w (w.alloc (.cells #[.slice A F.op.length c, .slice B F.di.length d] 29)) := (Kp.refl w).alloc _
  obtain ⟨d0, d1⟩ := box2 w (.slice A F.op.length c) (.slice B F.di.length d) 29
  have hFA := FldAt.kp (show FldAt w (.agg #[.slice A F.op.length c, .slice B F.di.length d]) F from ⟨A, c, B, d, rfl, hA, hB⟩) hk0
  have hS0 := hS.kp hk0
  have Hn := Lib.hid hn; clear hn
  obtain ⟨bd, A', c', hBe, hcr, hr⟩ := (hB.kp hk0).at_ hi
  subst hBe
  obtain ⟨s0, s1⟩ := siteF_bd hs hne i
  have hrl := goodRow hg hi
  rw [← hrl] at s1
  have hpl : 0 < F.di[i].length := by omega
  obtain ⟨rd, hAe, _⟩ := hr.at_ hpl
  subst hAe
  have hdc := dCell hi hr s0 s1
  clear hrl
  go_enter Try.func54, Try.ntmps54
  go_wp2_with fail
  generalize w.alloc (.cells #[.slice A F.op.length c, .slice (some bd) F.di.length d] 29) = wb at *
  have Cv := Lib.hid (fun (dd : Nat) (os : Array Obj) => Calls.regrown_of (l2Site_any _ F i A0 S n c0 _ (hFA.kp (kp_rg wb dd os)) (hS0.kp (kp_rg wb dd os)) Hn.out hg hs hne hi))
  have q0 := cell_regrown d0; have q1 := cell_regrown d1; have q2 := cell_regrown hcr; have q3 := cell_regrown hdc
  have hil : i < F.di.length := hi
  clear hS hS0 hFA hB hA
  refine wp_region_quiet_below (by kernel_rfl) (by kernel_rfl) ?_
  repeat (quiet_step (with_reducible exact Cv.out _ _))
  refine wpQuiet_nil ?_
  intro wq hw'
  have hkq := kp_of_rg hw'
  clear hw'
  go_wp2_with fail
  go_ret
  exact ⟨rfl, hk0.trans hkq⟩

set_option maxHeartbeats 1000000 in
theorem served_any (f : Value) (F : Fld) (A0 : Option Addr) (S : List Int) (n c0 : Nat) (w : World) (hf : FldAt w f F) (hS : IntsAt w A0 S) (hn : S.length = n) (hg : goodF F = true) (hs : setB F S = true) (hne : S ≠ []) :
    Calls Try.prog 70 #[f, .slice A0 n c0] w fun e w' => ∃ v, e = .returned v ∧ Own w' w.heap.size v (mapTo (fun i => siteF F i S) F.di.length) ∧ Kp w w' := by
  obtain ⟨A, c, B, d, rfl, hA, hB⟩ := hf
  have hk0 : Kp w (w.alloc (.cells #[.slice A F.op.length c, .slice B F.di.length d] 29)) := (Kp.refl w).alloc _
  obtain ⟨d0, d1⟩ := box2 w (.slice A F.op.length c) (.slice B F.di.length d) 29
  have hFA := FldAt.kp (show FldAt w (.agg #[.slice A F.op.length c, .slice B F.di.length d]) F from ⟨A, c, B, d, rfl, hA, hB⟩) hk0
  have hS0 := hS.kp hk0
  have Hn := Lib.hid hn; clear hn
  have hd7 := (goodF_iff.1 hg).2.2.1
  have Hg := Lib.hid hg; have Hs := Lib.hid hs; have Hne := Lib.hid hne
  clear hg hs hne hA hB hS
  have hs1 : w.heap.size + 1 ≤ (w.alloc (.cells #[.slice A F.op.length c, .slice B F.di.length d] 29)).heap.size := by simp
  have hs2 : (w.alloc (.cells #[.slice A F.op.length c, .slice B F.di.length d] 29)).heap.size ≤ w.heap.size + 1 := by simp
  go_enter Try.func70, Try.ntmps70
  go_wp2_with fail
  generalize w.alloc (.cells #[.slice A F.op.length c, .slice B F.di.length d] 29) = wb at *
  have ho0 := own_new0 wb (w.heap.size + 1) hs1
  rw [Nat.le_antisymm hs2 hs1] at ho0
  go_loopw [5, 11] (fun ov ix wr => ∃ k : Nat, k ≤ F.di.length ∧ ix = .int .i64 k ∧ Own wr (w.heap.size + 1) ov (mapTo (fun i => siteF F i S) k) ∧ Kp wb wr) (fun _ ix _ => F.di.length - (intOf ix).toNat)
  case atStart => exact ⟨0, by omega, rfl, ho0, (Kp.refl wb).alloc _⟩
  case round =>
    obtain ⟨k, hk, rfl, hown, hkp⟩ := hrel
    have e0 := hkp.get d0; have e1 := hkp.get d1
    by_cases hlt : k < F.di.length
    · go_wp2_with fail
      have CC := Lib.hid (server_any _ F k A0 S n c0 wr (hFA.kp hkp) (hS0.kp hkp) Hn.out Hg.out Hs.out Hne.out hlt)
      with_reducible refine Calls.mono CC.out ?_
      rintro e w1 ⟨rfl, hk1⟩
      clear CC
      have ho2 := hown.kp hk1
      have hk3 := hkp.trans hk1
      have hbl : w.heap.size + 1 ≤ w1.heap.size := Nat.le_trans hs1 hk3.le
      have hlen := Lib.hid (mapTo_len (fun i => siteF F i S) k)
      have hlen2 : (mapTo (fun i => siteF F i S) k).length < 1048576 := by rw [hlen.out]; omega
      go_wp2_with (at_builtin; refine wpl_app rfl (.tmp 14) (.tmp 19) rfl (w.heap.size + 1) _ (mapTo (fun i => siteF F i S) k) (siteF F k S) rfl rfl ho2 hbl hlen2 ?_; intro v' w' ho' ht' _; have hk4 := ho2.kp_turn hk3 hs2 ht')
      go_roundw
      case rel => exact ⟨k + 1, by omega, by go_num, by rw [mapTo_succ]; exact ho', hk4⟩
      case measure => simp [intOf]; omega
    · obtain rfl : k = F.di.length := by omega
      go_wp2_with fail
      go_ret
      exact ⟨_, rfl, hown.mono (Nat.le_succ _), hk0.trans hkp⟩

set_option maxHeartbeats 1000000 in
theorem lengths_any (f : Value) (F : Fld) (A0 : Option Addr) (S : List Int) (n c0 : Nat) (w : World) (hf : FldAt w f F) (hS : IntsAt w A0 S) (hn : S.length = n) (hg : goodF F = true) (hs : setB F S = true) (hne : S ≠ []) :
    Calls Try.prog 64 #[f, .slice A0 n c0] w fun e w' => ∃ v, e = .returned v ∧ Own w' w.heap.size v (mapTo (fun i => nearF F i S) F.di.length) ∧ Kp w w' := by
  obtain ⟨A, c, B, d, rfl, hA, hB⟩ := hf
  have hk0 : Kp w (w.alloc (.cells #[.slice A F.op.length c, .slice B F.di.length d] 29)) := (Kp.refl w).alloc _
  obtain ⟨d0, d1⟩ := box2 w (.slice A F.op.length c) (.slice B F.di.length d) 29
  have hFA := FldAt.kp (show FldAt w (.agg #[.slice A F.op.length c, .slice B F.di.length d]) F from ⟨A, c, B, d, rfl, hA, hB⟩) hk0
  have hS0 := hS.kp hk0
  have hB0 := hB.kp hk0
  have Hn := Lib.hid hn; clear hn
  have hd7 := (goodF_iff.1 hg).2.2.1
  have Hg := Lib.hid hg; have Hs := Lib.hid hs; have Hne := Lib.hid hne
  clear hg hs hne hA hB hS
  have hs1 : w.heap.size + 1 ≤ (w.alloc (.cells #[.slice A F.op.length c, .slice B F.di.length d] 29)).heap.size := by simp
  have hs2 : (w.alloc (.cells #[.slice A F.op.length c, .slice B F.di.length d] 29)).heap.size ≤ w.heap.size + 1 := by simp
  go_enter Try.func64, Try.ntmps64
  go_wp2_with fail
  generalize w.alloc (.cells #[.slice A F.op.length c, .slice B F.di.length d] 29) = wb at *
  have ho0 := own_new0 wb (w.heap.size + 1) hs1
  rw [Nat.le_antisymm hs2 hs1] at ho0
  have hkn := (Kp.refl wb).alloc (.cells #[] 3)
  have CC := Lib.hid (served_any _ F A0 S n c0 _ (hFA.kp hkn) (hS0.kp hkn) Hn.out Hg.out Hs.out Hne.out)
  with_reducible refine Calls.mono CC.out ?_
  rintro e w1 ⟨v, rfl, hov, hk1⟩
  clear CC
  obtain ⟨Av, cv, rfl, hiv⟩ := hov.ints (by rw [mapTo_len]; omega)
  have hk2 := hkn.trans hk1
  have ho1 := ho0.kp hk1
  have hap : Apart (.slice (some ⟨w.heap.size + 1, 0, none⟩) 0 0) (.slice Av (mapTo (fun i => siteF F i S) F.di.length).length cv) := by
    intro g hg e
    have := (hov.lt g e).1
    simp [Value.ownBlock] at hg this
    omega
  have Hl := Lib.hid (mapTo_len (fun i => siteF F i S) F.di.length)
  obtain ⟨N, hN⟩ : ∃ N, N = (mapTo (fun i => siteF F i S) F.di.length).length := ⟨_, rfl⟩
  have HN : Hid (N = F.di.length) := by show N = _; rw [hN]; exact Hl.out
  rw [← hN] at hov hap ⊢
  have hNl : N ≤ F.di.length := by rw [HN.out]; exact Nat.le_refl _
  have hNg : F.di.length ≤ N := by rw [HN.out]; exact Nat.le_refl _
  clear hN hiv
  go_wp2_with fail
  go_loopw [5, 13] (fun ov ix wr => ∃ k : Nat, k ≤ N ∧ ix = .int .i64 k ∧ Own wr (w.heap.size + 1) ov (mapTo (fun i => nearF F i S) k) ∧ Kp wb wr ∧ Own wr (wb.alloc (.cells #[] 3)).heap.size (.slice Av N cv) (mapTo (fun i => siteF F i S) F.di.length) ∧ Apart ov (.slice Av N cv)) (fun _ ix _ => N - (intOf ix).toNat)
  case atStart => exact ⟨0, by omega, rfl, ho1, hk2, hov, hap⟩
  case round =>
    obtain ⟨k, hk, rfl, hown, hkp, hiw, hap⟩ := hrel
    have e0 := hkp.get d0; have e1 := hkp.get d1
    by_cases hlt : k < N
    · have hltd : k < F.di.length := by omega
      have lx : k < (mapTo (fun i => siteF F i S) F.di.length).length := by rw [mapTo_len]; exact hltd
      obtain ⟨ad, rfl, hc⟩ := (hiw.intsOf (by rw [mapTo_len]; omega)).at_ lx
      rw [mapTo_get hltd] at hc
      obtain ⟨bd, A2, c2, rfl, hcr, hr⟩ := (hB0.kp hkp).at_ hltd
      obtain ⟨s0, s1⟩ := siteF_bd Hs.out Hne.out k
      have hrl := goodRow Hg.out hltd
      rw [← hrl] at s1
      clear hrl
      have hpl : 0 < F.di[k].length := by omega
      obtain ⟨rd, rfl, _⟩ := hr.at_ hpl
      have hdc := dCell hltd hr s0 s1
      have hbl : w.heap.size + 1 ≤ wr.heap.size := Nat.le_trans hs1 hkp.le
      have hlen := Lib.hid (mapTo_len (fun i => nearF F i S) k)
      have hlen2 : (mapTo (fun i => nearF F i S) k).length < 1048576 := by rw [hlen.out]; omega
      go_wp2_with (at_builtin; refine wpl_app rfl (.tmp 18) (.tmp 27) rfl (w.heap.size + 1) _ (mapTo (fun i => nearF F i S) k) (dAt F k (siteF F k S)) rfl rfl hown hbl hlen2 ?_; intro v' w' ho' ht' h4'; have hk4 := hown.kp_turn hkp hs2 ht'; have hi4 := hiw.apart_turn hap ht'; have ha4 := hap.grow hiw h4')
      go_roundw
      case rel => exact ⟨k + 1, by omega, by go_num, by rw [mapTo_succ]; exact ho', hk4, hi4, ha4⟩
      case measure => simp [intOf]; omega
    · obtain rfl : k = N := by omega
      go_wp2_with fail
      go_ret
      exact ⟨_, rfl, by rw [← HN.out]; exact hown.mono (Nat.le_succ _), hk0.trans hkp⟩

theorem gainAt_if {F : Fld} {worth : Int} {S : List Int} {i : Nat} : (if nearF F i S < worth then worth - nearF F i S else 0) = gainAt F worth S i := by
  unfold gainAt; split <;> omega
theorem gainAt_bd {F : Fld} {worth : Int} {S : List Int} (hw0 : 0 ≤ worth) (hw : worth ≤ 999) (hn : ∀ i, 0 ≤ nearF F i S) (i : Nat) : 0 ≤ gainAt F worth S i ∧ gainAt F worth S i ≤ 999 := by
  have := hn i
  unfold gainAt; omega
theorem nearF_bd {F : Fld} (hg : goodF F = true) (S : List Int) (i : Nat) : 0 ≤ nearF F i S ∧ nearF F i S ≤ 99 := by
  by_cases hi : i < F.di.length
  · exact dAt_bd hg hi _
  · have e : F.di.getD i [] = [] := by simp [List.getD, List.getElem?_eq_none (by omega : F.di.length ≤ i)]
    rw [nearF, dAt, e]; simp

def worthB (worth : Int) : Bool := inB worth 0 999
def gainOk (F : Fld) (worth : Int) (S : List Int) : Bool := goodF F && worthB worth && setB F S
def gainR (F : Fld) (worth : Int) (S : List Int) : Int := if gainOk F worth S = true then gainF F worth S else 0
theorem gainR_no {F : Fld} {worth : Int} {S : List Int} (h : gainOk F worth S = false) : Ending.returned (.tuple #[.int .i64 (gainR F worth S), .bool (gainOk F worth S)]) = .returned (.tuple #[.int .i64 0, .bool false]) := by
  simp [gainR, h]
theorem gainR_yes {F : Fld} {worth : Int} {S : List Int} (h : gainOk F worth S = true) : Ending.returned (.tuple #[.int .i64 (gainR F worth S), .bool (gainOk F worth S)]) = .returned (.tuple #[.int .i64 (gainF F worth S), .bool true]) := by
  simp [gainR, h]
theorem gainOk_parts {F : Fld} {worth : Int} {S : List Int} (h : gainOk F worth S = true) : goodF F = true ∧ setB F S = true ∧ 0 ≤ worth ∧ worth ≤ 999 := by
  simp only [gainOk, Bool.and_eq_true, worthB, inB_iff] at h
  exact ⟨h.1.1, h.2, h.1.2.1, h.1.2.2⟩

end Go.Proofs.Ytggkhieepjnmdaa

namespace Go.Proofs.Ytggkhieepjnmdaa
theorem sumTo_addf (g h : Nat → Int) : ∀ k, sumTo (fun i => g i + h i) k = sumTo g k + sumTo h k
  | 0 => by simp [sumTo_zero]
  | k + 1 => by rw [sumTo_succ, sumTo_succ, sumTo_succ, sumTo_addf g h k]; omega
theorem sumTo_congr {g h : Nat → Int} : ∀ {k : Nat}, (∀ i, i < k → g i = h i) → sumTo g k = sumTo h k
  | 0, _ => rfl
  | k + 1, e => by rw [sumTo_succ, sumTo_succ, sumTo_congr (fun i hi => e i (by omega)), e k (by omega)]
theorem sumTo_mono' {g h : Nat → Int} : ∀ {k : Nat}, (∀ i, i < k → g i ≤ h i) → sumTo g k ≤ sumTo h k
  | 0, _ => Int.le_refl _
  | k + 1, e => by rw [sumTo_succ, sumTo_succ]; have := sumTo_mono' (fun i hi => e i (by omega) : ∀ i, i < k → g i ≤ h i); have := e k (by omega); omega
theorem sumTo_lt {g h : Nat → Int} {a : Nat} : ∀ {k : Nat}, (∀ i, i < k → g i ≤ h i) → a < k → g a < h a → sumTo g k < sumTo h k
  | 0, _, ha, _ => by omega
  | k + 1, e, ha, hl => by
    rw [sumTo_succ, sumTo_succ]
    by_cases h1 : a = k
    · subst h1; have := sumTo_mono' (fun i hi => e i (by omega) : ∀ i, i < a → g i ≤ h i); omega
    · have := sumTo_lt (fun i hi => e i (by omega) : ∀ i, i < k → g i ≤ h i) (by omega) hl; have := e k (by omega); omega
theorem sumTo_c0 (k : Nat) : sumTo (fun _ => 0) k = 0 := by
  induction k with
  | zero => rfl
  | succ k ih => rw [sumTo_succ, ih]; rfl
theorem sumTo_sub (g h : Nat → Int) : ∀ k, sumTo (fun i => g i - h i) k = sumTo g k - sumTo h k
  | 0 => by simp [sumTo_zero]
  | k + 1 => by rw [sumTo_succ, sumTo_succ, sumTo_succ, sumTo_sub g h k]; omega
theorem sumTo_mulc (g : Nat → Int) (c : Int) : ∀ k, sumTo (fun i => g i * c) k = sumTo g k * c
  | 0 => by simp [sumTo_zero]
  | k + 1 => by rw [sumTo_succ, sumTo_succ, sumTo_mulc g c k, Int.add_mul]
theorem sumTo_swap (g : Nat → Nat → Int) (k : Nat) : ∀ m, sumTo (fun i => sumTo (g i) k) m = sumTo (fun j => sumTo (fun i => g i j) m) k
  | 0 => by simp only [sumTo_zero]; rw [sumTo_c0]
  | m + 1 => by
    rw [sumTo_succ, sumTo_swap g k m, ← sumTo_addf]
    exact sumTo_congr (fun j _ => (sumTo_succ _ _).symm)
theorem sumTo_nn {g : Nat → Int} {k : Nat} (h : ∀ i, i < k → 0 ≤ g i) : 0 ≤ sumTo g k := by
  have := sumTo_mono' (g := fun _ => 0) h
  rwa [sumTo_c0] at this
theorem sumTo_ge {g : Nat → Int} {a : Nat} : ∀ {k : Nat}, (∀ i, i < k → 0 ≤ g i) → a < k → g a ≤ sumTo g k
  | 0, _, ha => by omega
  | k + 1, h, ha => by
    rw [sumTo_succ]
    by_cases h1 : a = k
    · subst h1; have := sumTo_nn (fun i hi => h i (by omega) : ∀ i, i < a → 0 ≤ g i); omega
    · have := sumTo_ge (fun i hi => h i (by omega) : ∀ i, i < k → 0 ≤ g i) (show a < k by omega); have := h k (by omega); omega
theorem sumTo_pos' {g : Nat → Int} {k : Nat} (h : ∀ i, i < k → 0 ≤ g i) (hs : 0 < sumTo g k) : ∃ i, i < k ∧ 0 < g i := by
  by_cases hh : ∃ i, i < k ∧ 0 < g i
  · exact hh
  · exfalso
    have : ∀ i, i < k → g i ≤ (fun _ => (0 : Int)) i := fun i hi => by
      have := h i hi
      by_cases h2 : 0 < g i
      · exact absurd ⟨i, hi, h2⟩ hh
      · show g i ≤ 0; omega
    have := sumTo_mono' this
    rw [sumTo_c0] at this; omega
/-- Change at one place. -/
def upd {α : Type} (g : Nat → α) (j : Nat) (x : α) (i : Nat) : α := if i = j then x else g i
theorem upd_at {α : Type} {g : Nat → α} {j : Nat} {x : α} : upd g j x j = x := if_pos rfl
theorem upd_ne {α : Type} {g : Nat → α} {j i : Nat} {x : α} (h : i ≠ j) : upd g j x i = g i := if_neg h
theorem sumTo_ones (n : Nat) : sumTo (fun _ => 1) n = (n : Int) := by
  induction n with
  | zero => rfl
  | succ n ih => rw [sumTo_succ, ih]; omega
theorem sumTo_single {g : Nat → Int} {p : Nat} : ∀ {n : Nat}, p < n → (∀ i, i < n → i ≠ p → g i = 0) → sumTo g n = g p
  | 0, h, _ => by omega
  | n + 1, h, h0 => by
    rw [sumTo_succ]
    by_cases e : p = n
    · subst e
      rw [sumTo_congr (h := fun _ => 0) (fun i hi => h0 i (by omega) (by omega)), sumTo_c0]; omega
    · rw [sumTo_single (show p < n by omega) (fun i hi hn => h0 i (by omega) hn), h0 n (by omega) (by omega)]; omega
theorem sumTo_one {p n : Nat} (h : p < n) : sumTo (fun i => if i = p then 1 else 0) n = 1 := by
  rw [sumTo_single h (fun i _ hn => if_neg hn), if_pos rfl]
end Go.Proofs.Ytggkhieepjnmdaa

namespace Go.Proofs.Ytggkhieepjnmdaa
open Go.RowKit Go.Sort

/-- The members below n of the set with the number b, rising. -/
def bitsN (n b : Nat) : List Nat := (List.range n).filter (fun x => b.testBit x)
def bitsL (n b : Nat) : List Int := (bitsN n b).map fun (x : Nat) => (x : Int)
theorem bitsN_succ (n b : Nat) : bitsN (n + 1) b = bitsN n b ++ if b.testBit n then [n] else [] := by
  unfold bitsN
  rw [List.range_succ, List.filter_append]
  by_cases h : b.testBit n = true <;> simp [h]
theorem bitsL_yes {n b : Nat} (h : b.testBit n = true) : bitsL (n + 1) b = bitsL n b ++ [(n : Int)] := by simp [bitsL, bitsN_succ, h]
theorem bitsL_no {n b : Nat} (h : b.testBit n = false) : bitsL (n + 1) b = bitsL n b := by simp [bitsL, bitsN_succ, h]
theorem bitsL_len (n b : Nat) : (bitsL n b).length ≤ n := by
  unfold bitsL bitsN
  rw [List.length_map]
  exact Nat.le_trans (List.length_filter_le _ _) (by simp)
theorem mem_bitsL {n b : Nat} {x : Int} : x ∈ bitsL n b ↔ 0 ≤ x ∧ x < n ∧ b.testBit x.toNat = true := by
  simp only [bitsL, bitsN, List.mem_map, List.mem_filter, List.mem_range]
  constructor
  · rintro ⟨k, ⟨h1, h2⟩, rfl⟩
    exact ⟨by omega, by omega, by simpa using h2⟩
  · rintro ⟨h0, h1, h2⟩
    exact ⟨x.toNat, ⟨by omega, h2⟩, by omega⟩
theorem bitsL_more {n m b : Nat} (h : b < 2 ^ n) (hm : n ≤ m) : bitsL m b = bitsL n b := by
  obtain ⟨d, rfl⟩ := Nat.le.dest hm
  clear hm
  induction d with
  | zero => rfl
  | succ d ih =>
    have hb : b.testBit (n + d) = false := Nat.testBit_lt_two_pow (Nat.lt_of_lt_of_le h (Nat.pow_le_pow_right (by omega) (by omega)))
    rw [show n + (d + 1) = n + d + 1 from rfl, bitsL_no hb]
    exact ih
/-- Strictly rising. -/
theorem bitsN_sorted (n b : Nat) : (bitsN n b).Pairwise (· < ·) := List.Pairwise.filter _ List.pairwise_lt_range
theorem bitsL_sorted (n b : Nat) : (bitsL n b).Pairwise (· < ·) := by
  unfold bitsL
  rw [List.pairwise_map]
  exact (bitsN_sorted n b).imp (fun h => by omega)
/-- A rising list within bounds is a set, and the other way round. -/
theorem ris_iff {xs : List Int} {lo hi : Int} : risB xs lo hi = true ↔ xs.Pairwise (· < ·) ∧ ∀ x ∈ xs, lo ≤ x ∧ x ≤ hi := by
  constructor
  · intro h
    have hk : ∀ k, k < xs.length → okR xs lo hi k = true := fun k hk => List.all_eq_true.1 h k (by simpa using hk)
    refine ⟨?_, fun x hx => ?_⟩
    · rw [List.pairwise_iff_getElem]
      intro i j hi' hj hij
      have adj : ∀ k, (hd : k + 1 < xs.length) → xs[k] < xs[k + 1] := fun k hd => by
        have h1 := hk (k + 1) hd
        have hb : inB xs[k + 1] lo hi = true := by simp only [okR, Bool.and_eq_true] at h1; simpa [List.getD, hd] using h1.1
        rw [okR_succ hd (by omega) hb] at h1
        simpa using h1
      have step : ∀ d, (hd : i + d + 1 < xs.length) → xs[i] < xs[i + d + 1] := by
        intro d
        induction d with
        | zero => intro hd; exact adj i hd
        | succ d ih => intro hd; exact Int.lt_trans (ih (by omega)) (adj (i + d + 1) hd)
      obtain ⟨d, rfl⟩ : ∃ d, j = i + d + 1 := ⟨j - i - 1, by omega⟩
      exact step d hj
    · obtain ⟨k, hk', rfl⟩ := List.getElem_of_mem hx
      have h1 := hk k hk'
      simp only [okR, Bool.and_eq_true] at h1
      simpa [List.getD, hk', inB_iff] using h1.1
  · rintro ⟨h1, h2⟩
    rw [risB, List.all_eq_true]
    intro k hk
    have hk' : k < xs.length := by simpa using hk
    have hb := inB_iff.2 (h2 _ (List.getElem_mem hk'))
    by_cases h0 : 0 < k
    · rw [okR_succ hk' h0 hb]
      simpa using List.pairwise_iff_getElem.1 h1 (k - 1) k (by omega) hk' (by omega)
    · exact okR_zero hk' h0 hb
theorem bitsL_ris (n b : Nat) (hi : Int) (h : (n : Int) - 1 ≤ hi) : risB (bitsL n b) 0 hi = true := by
  rw [ris_iff]
  refine ⟨bitsL_sorted n b, fun x hx => ?_⟩
  obtain ⟨h0, h1, _⟩ := mem_bitsL.1 hx
  omega
theorem bitsL_set {F : Fld} (b : Nat) : setB F (bitsL F.op.length b) = true := bitsL_ris _ _ _ (Int.le_refl _)
/-- Two rising lists with the same members are the same. -/
theorem rising_ext : ∀ {xs ys : List Int}, xs.Pairwise (· < ·) → ys.Pairwise (· < ·) → (∀ x, x ∈ xs ↔ x ∈ ys) → xs = ys
  | [], [], _, _, _ => rfl
  | [], y :: ys, _, _, h => by have := (h y).2 (by simp); cases this
  | x :: xs, [], _, _, h => by have := (h x).1 (by simp); cases this
  | x :: xs, y :: ys, hx, hy, h => by
    rw [List.pairwise_cons] at hx hy
    have e : x = y := by
      have h1 := (h x).1 (by simp)
      have h2 := (h y).2 (by simp)
      rcases List.mem_cons.1 h1 with e | h1
      · exact e
      rcases List.mem_cons.1 h2 with e | h2
      · exact e.symm
      have := hx.1 y h2
      have := hy.1 x h1
      omega
    subst e
    refine congrArg (x :: ·) (rising_ext hx.2 hy.2 (fun z => ?_))
    constructor
    · intro hz
      rcases List.mem_cons.1 ((h z).1 (by simp [hz])) with e | hz'
      · subst e; have := hx.1 z hz; omega
      · exact hz'
    · intro hz
      rcases List.mem_cons.1 ((h z).2 (by simp [hz])) with e | hz'
      · subst e; have := hy.1 z hz; omega
      · exact hz'
/-- The number of a list. -/
def bagTo (b : Nat) (S : List Int) : Nat := S.foldl (fun b x => b ||| 2 ^ x.toNat) b
def bagN (S : List Int) : Nat := bagTo 0 S
theorem bagTo_bit (x : Nat) : ∀ (S : List Int) (b : Nat), (∀ y ∈ S, 0 ≤ y) → (bagTo b S).testBit x = (b.testBit x || decide ((x : Int) ∈ S))
  | [], b, _ => by simp [bagTo]
  | y :: S, b, h => by
    have ih := bagTo_bit x S (b ||| 2 ^ y.toNat) (fun z hz => h z (by simp [hz]))
    have h0 := h y (by simp)
    simp only [bagTo, List.foldl_cons] at ih ⊢
    rw [ih, Nat.testBit_or, Nat.testBit_two_pow]
    by_cases e : y.toNat = x
    · have : (x : Int) = y := by omega
      simp [e, this]
    · have : ¬ (x : Int) = y := by omega
      simp [e, this]
theorem bagN_bit {S : List Int} (h : ∀ y ∈ S, 0 ≤ y) (x : Nat) : (bagN S).testBit x = decide ((x : Int) ∈ S) := by
  rw [bagN, bagTo_bit x S 0 h]; simp
theorem bagTo_lt {n : Nat} : ∀ (S : List Int) (b : Nat), b < 2 ^ n → (∀ y ∈ S, 0 ≤ y ∧ y < n) → bagTo b S < 2 ^ n
  | [], b, hb, _ => hb
  | y :: S, b, hb, h => by
    have h0 := h y (by simp)
    exact bagTo_lt S _ (Nat.or_lt_two_pow hb (Nat.pow_lt_pow_right (by omega) (by omega))) (fun z hz => h z (by simp [hz]))
theorem bagN_lt {n : Nat} {S : List Int} (h : ∀ y ∈ S, 0 ≤ y ∧ y < n) : bagN S < 2 ^ n := bagTo_lt S 0 (Nat.two_pow_pos n) h
/-- A set's number leads back to it. -/
theorem bits_bag {n : Nat} {S : List Int} (hs : S.Pairwise (· < ·)) (h : ∀ y ∈ S, 0 ≤ y ∧ y < n) : bitsL n (bagN S) = S := by
  refine rising_ext (bitsL_sorted _ _) hs (fun x => ?_)
  rw [mem_bitsL]
  constructor
  · rintro ⟨h0, h1, h2⟩
    rw [bagN_bit (fun y hy => (h y hy).1)] at h2
    have e : ((x.toNat : Nat) : Int) = x := by omega
    rw [e] at h2
    simpa using h2
  · intro hx
    obtain ⟨h0, h1⟩ := h x hx
    refine ⟨h0, h1, ?_⟩
    rw [bagN_bit (fun y hy => (h y hy).1)]
    have e : ((x.toNat : Nat) : Int) = x := by omega
    rw [e]; simpa using hx
theorem set_bits {F : Fld} {S : List Int} (h : setB F S = true) : bitsL F.op.length (bagN S) = S := bits_bag (ris_iff.1 h).1 (set_mem h)

/-- A number put into a rising list. -/
def putL (S : List Int) (a : Int) : List Int := if a ∈ S then S else S.takeWhile (· < a) ++ a :: S.dropWhile (· < a)
end Go.Proofs.Ytggkhieepjnmdaa

namespace Go.Proofs.Ytggkhieepjnmdaa
open Go.RowKit Go.Sort

theorem getD_snoc_lt {O : List Int} {a : Int} {i : Nat} (h : i < O.length) : (O ++ [a]).getD i 0 = O.getD i 0 := by
  simp [List.getD, List.getElem?_append_left h]
theorem getD_snoc_eq {O : List Int} {a : Int} : (O ++ [a]).getD O.length 0 = a := by simp [List.getD]
theorem nd_len : ∀ (xs ys : List Int), xs.Nodup → (∀ x ∈ xs, x ∈ ys) → xs.length ≤ ys.length
  | [], _, _, _ => Nat.zero_le _
  | x :: t, ys, hn, hs => by
    rw [List.nodup_cons] at hn
    have hx : x ∈ ys := hs x List.mem_cons_self
    have h1 := nd_len t (ys.erase x) hn.2 (fun y hy => (List.mem_erase_of_ne (show y ≠ x from fun e => hn.1 (by rw [← e]; exact hy))).2 (hs y (List.mem_cons_of_mem _ hy)))
    rw [List.length_erase_of_mem hx] at h1
    have := List.length_pos_of_mem hx
    rw [List.length_cons]; omega
end Go.Proofs.Ytggkhieepjnmdaa

namespace Go.Proofs.Ytggkhieepjnmdaa
open Go.RowKit Go.Sort

/-- What a client adds behind the first t ones of an order, summed over the places where it stands. -/
def mgT (ct : Nat → Int) (O : List Int) (j : Nat) : Nat → Int
  | 0 => 0
  | t + 1 => mgT ct O j t + (if O.getD t 0 = (j : Int) then ct (bagN (O.take (t + 1))) - ct (bagN (O.take t)) else 0)
theorem mgT_snoc (ct : Nat → Int) (O : List Int) (a : Int) (j : Nat) : ∀ t, t ≤ O.length → mgT ct (O ++ [a]) j t = mgT ct O j t
  | 0, _ => rfl
  | t + 1, h => by
    unfold mgT
    rw [mgT_snoc ct O a j t (by omega), getD_snoc_lt (by omega), List.take_append_of_le_length (by omega), List.take_append_of_le_length (by omega)]
theorem mgT_top (ct : Nat → Int) (O : List Int) (a : Int) (j : Nat) : mgT ct (O ++ [a]) j (O.length + 1) = mgT ct O j O.length + (if a = (j : Int) then ct (bagN (O ++ [a])) - ct (bagN O) else 0) := by
  show mgT ct (O ++ [a]) j O.length + _ = _
  rw [mgT_snoc ct O a j _ (Nat.le_refl _), getD_snoc_eq, List.take_of_length_le (by simp), List.take_append_of_le_length (Nat.le_refl _), List.take_length]
theorem mgT_none (ct : Nat → Int) (O : List Int) (j : Nat) (h : (j : Int) ∉ O) : ∀ t, t ≤ O.length → mgT ct O j t = 0
  | 0, _ => rfl
  | t + 1, ht => by
    unfold mgT
    rw [mgT_none ct O j h t (by omega), if_neg]
    · rfl
    · intro e
      have : O.getD t 0 = O[t] := by simp [List.getD, show t < O.length by omega]
      exact h (by rw [← e, this]; exact List.getElem_mem _)
/-- The sum of what all orders add that begin so. -/
def fsT (ct : Nat → Int) (n j : Nat) : Nat → List Int → Int
  | 0, O => mgT ct O j O.length
  | r + 1, O => sumTo (fun i => if (i : Int) ∈ O then 0 else fsT ct n j r (O ++ [(i : Int)])) n
def facT : Nat → Int
  | 0 => 1
  | r + 1 => (r + 1 : Nat) * facT r
/-- The number of these orders. -/
def cnT (n : Nat) : Nat → List Int → Int
  | 0, _ => 1
  | r + 1, O => sumTo (fun i => if (i : Int) ∈ O then 0 else cnT n r (O ++ [(i : Int)])) n
/-- An order of some of n. -/
structure Ord (n : Nat) (O : List Int) : Prop where
  nd : O.Nodup
  rg : ∀ x ∈ O, 0 ≤ x ∧ x < (n : Int)
theorem Ord.nil (n : Nat) : Ord n [] := ⟨List.nodup_nil, by simp⟩
theorem Ord.snoc {n : Nat} {O : List Int} (h : Ord n O) {i : Nat} (hi : i < n) (hn : (i : Int) ∉ O) : Ord n (O ++ [(i : Int)]) := by
  refine ⟨?_, fun x hx => ?_⟩
  · rw [List.nodup_append]
    refine ⟨h.nd, by simp, fun x hx y hy => ?_⟩
    rw [List.mem_singleton] at hy
    subst hy
    intro e; subst e; exact hn hx
  · rw [List.mem_append, List.mem_singleton] at hx
    rcases hx with h1 | rfl
    · exact h.rg x h1
    · omega
theorem Ord.len {n : Nat} {O : List Int} (h : Ord n O) : O.length ≤ n := by
  have hp := nd_len O ((List.range n).map (fun (i : Nat) => (i : Int))) h.nd (fun x hx => by
    have := h.rg x hx
    exact List.mem_map.2 ⟨x.toNat, List.mem_range.2 (by omega), by omega⟩)
  simpa using hp
theorem Ord.full {n : Nat} {O : List Int} (h : Ord n O) (hl : O.length = n) {j : Nat} (hj : j < n) : (j : Int) ∈ O := Classical.byContradiction (fun hn => by
  have := (h.snoc hj hn).len
  rw [List.length_append, List.length_singleton] at this
  omega)
/-- How many of the first n are so. -/
theorem cnt_mem {n : Nat} {O : List Int} (h : Ord n O) : sumTo (fun i => if (i : Int) ∈ O then 1 else 0) n = (O.length : Int) := by
  have key : ∀ (O : List Int), O.Nodup → (∀ x ∈ O, 0 ≤ x ∧ x < (n : Int)) → sumTo (fun i => if (i : Int) ∈ O then 1 else 0) n = (O.length : Int) := by
    intro O
    induction O with
    | nil => intro _ _; simp only [List.not_mem_nil, if_false]; rw [sumTo_c0]; rfl
    | cons x t ih =>
      intro hn hr
      rw [List.nodup_cons] at hn
      have hx := hr x List.mem_cons_self
      have e : ∀ i, i < n → (if (i : Int) ∈ x :: t then (1 : Int) else 0) = (if (i : Int) ∈ t then 1 else 0) + (if i = x.toNat then 1 else 0) := fun i hi => by
        by_cases e1 : (i : Int) = x
        · rw [if_pos (by rw [e1]; exact List.mem_cons_self), if_neg (by rw [e1]; exact hn.1), if_pos (by omega)]; rfl
        · rw [if_neg (show ¬ i = x.toNat by omega)]
          by_cases e2 : (i : Int) ∈ t
          · rw [if_pos (List.mem_cons_of_mem _ e2), if_pos e2]; rfl
          · rw [if_neg (by rw [List.mem_cons]; exact fun h => h.elim e1 e2), if_neg e2]; rfl
      rw [sumTo_congr e, sumTo_addf, ih hn.2 (fun y hy => hr y (List.mem_cons_of_mem _ hy)), sumTo_one (by omega)]
      rw [List.length_cons]; omega
  exact key O h.nd h.rg
theorem cnt_out {n : Nat} {O : List Int} (h : Ord n O) : sumTo (fun i => if (i : Int) ∈ O then 0 else 1) n = (n : Int) - (O.length : Int) := by
  have h1 := cnt_mem h
  have e : sumTo (fun i => (if (i : Int) ∈ O then (0 : Int) else 1) + (if (i : Int) ∈ O then 1 else 0)) n = (n : Int) := by
    rw [sumTo_congr (h := fun _ => 1) (fun i _ => by split <;> rfl)]
    exact sumTo_ones n
  rw [sumTo_addf, h1] at e
  omega
theorem cnT_eq {n : Nat} : ∀ (r : Nat) (O : List Int), Ord n O → O.length + r = n → cnT n r O = facT r
  | 0, _, _, _ => rfl
  | r + 1, O, h, hl => by
    unfold cnT
    have e : ∀ i, i < n → (if (i : Int) ∈ O then (0 : Int) else cnT n r (O ++ [(i : Int)])) = (if (i : Int) ∈ O then 0 else 1) * facT r := fun i hi => by
      by_cases hO : (i : Int) ∈ O
      · rw [if_pos hO, if_pos hO]; simp
      · rw [if_neg hO, if_neg hO, cnT_eq r _ (h.snoc hi hO) (by rw [List.length_append, List.length_singleton]; omega)]; simp
    rw [sumTo_congr e, sumTo_mulc, cnt_out h]
    show ((n : Int) - O.length) * facT r = ((r + 1 : Nat) : Int) * facT r
    congr 1; omega
/-- All of P is in C. -/
def subT (n P C : Nat) : Bool := (List.range n).all fun i => !P.testBit i || C.testBit i
theorem subT_iff {n P C : Nat} : subT n P C = true ↔ ∀ i, i < n → P.testBit i = true → C.testBit i = true := by
  unfold subT
  rw [List.all_eq_true]
  constructor
  · intro h i hi hp
    have := h i (List.mem_range.2 hi)
    rw [hp] at this
    simpa using this
  · intro h i hi
    have := h i (List.mem_range.1 hi)
    cases hp : P.testBit i
    · rfl
    · rw [this hp]; rfl
/-- How many are in C. -/
def pcT (n C : Nat) : Int := sumTo (fun i => if C.testBit i = true then 1 else 0) n
theorem pc_len (n C : Nat) : pcT n C = ((bitsL n C).length : Int) := by
  unfold pcT
  induction n with
  | zero => simp [sumTo_zero, bitsL, bitsN]
  | succ n ih =>
    rw [sumTo_succ, ih]
    by_cases h : C.testBit n = true
    · rw [if_pos h, bitsL_yes h, List.length_append]; simp
    · have h' : C.testBit n = false := by simpa using h
      rw [if_neg h, bitsL_no h']; simp
theorem pc_bag {n : Nat} {O : List Int} (h : Ord n O) : pcT n (bagN O) = (O.length : Int) := by
  rw [← cnt_mem h]
  exact sumTo_congr (fun i _ => by
    rw [bagN_bit (fun y hy => (h.rg y hy).1)]
    by_cases hO : (i : Int) ∈ O
    · rw [decide_eq_true hO, if_pos rfl, if_pos hO]
    · rw [decide_eq_false hO, if_neg (by decide), if_neg hO])
theorem pc_nn (n C : Nat) : 0 ≤ pcT n C := sumTo_nn (fun i _ => by split <;> omega)
theorem pc_le (n C : Nat) : pcT n C ≤ n := by
  have := sumTo_mono' (k := n) (g := fun i => if C.testBit i = true then 1 else 0) (h := fun _ => 1) (fun i _ => by split <;> omega)
  rw [sumTo_ones] at this
  exact this
theorem pc_diff {n P C : Nat} (h : subT n P C = true) : sumTo (fun i => if C.testBit i = true ∧ P.testBit i = false then 1 else 0) n = pcT n C - pcT n P := by
  unfold pcT
  rw [← sumTo_sub]
  refine sumTo_congr (fun i hi => ?_)
  have := subT_iff.1 h i hi
  cases hp : P.testBit i
  · cases hc : C.testBit i <;> simp
  · rw [this hp]; simp
theorem pc_eq {n P C : Nat} (h : subT n P C = true) (hP : P < 2 ^ n) (hC : C < 2 ^ n) (he : pcT n C = pcT n P) : C = P := by
  have hd := pc_diff h
  rw [he, Int.sub_self] at hd
  refine Nat.eq_of_testBit_eq (fun i => ?_)
  by_cases hi : i < n
  · cases hp : P.testBit i
    · cases hc : C.testBit i
      · rfl
      · have := sumTo_ge (g := fun i => if C.testBit i = true ∧ P.testBit i = false then (1 : Int) else 0) (a := i) (k := n) (fun i _ => by split <;> omega) hi
        rw [hd, if_pos ⟨hc, hp⟩] at this
        omega
    · exact subT_iff.1 h i hi hp
  · rw [Nat.testBit_lt_two_pow (Nat.lt_of_lt_of_le hC (Nat.pow_le_pow_right (by omega) (by omega))), Nat.testBit_lt_two_pow (Nat.lt_of_lt_of_le hP (Nat.pow_le_pow_right (by omega) (by omega)))]
/-- What client j adds to the set C. -/
def dlT (ct : Nat → Int) (j C : Nat) : Int := ct (C + 2 ^ j) - ct C
/-- The sum over all sets that hold P and not j. -/
def stT (ct : Nat → Int) (n j P : Nat) (p : Nat) : Int := sumTo (fun C => if subT n P C = true ∧ C.testBit j = false then facT ((bitsL n C).length - p) * facT (n - 1 - (bitsL n C).length) * dlT ct j C else 0) (2 ^ n)
theorem add_or {C j : Nat} (h : C.testBit j = false) : C + 2 ^ j = C ||| 2 ^ j := by
  have hp : 0 < 2 ^ j := Nat.two_pow_pos j
  obtain ⟨q, hq⟩ : ∃ q, q = C / 2 ^ j := ⟨_, rfl⟩
  obtain ⟨r, hr⟩ : ∃ r, r = C % 2 ^ j := ⟨_, rfl⟩
  have hC : C = 2 ^ j * q + r := by rw [hq, hr]; exact (Nat.div_add_mod C (2 ^ j)).symm
  have hrl : r < 2 ^ j := by rw [hr]; exact Nat.mod_lt _ hp
  have hq2 : q % 2 = 0 := by
    rw [Nat.testBit_eq_decide_div_mod_eq, decide_eq_false_iff_not, ← hq] at h
    omega
  obtain ⟨m, hm⟩ : ∃ m, q = 2 * m := ⟨q / 2, by omega⟩
  have e1 : 2 ^ j * q = 2 ^ (j + 1) * m := by rw [hm, Nat.pow_succ, Nat.mul_assoc]
  have e2 : 2 ^ j * (q + 1) = 2 ^ j * q ||| 2 ^ j := by
    rw [Nat.mul_add, Nat.mul_one, e1]
    exact Nat.two_pow_add_eq_or_of_lt (by rw [Nat.pow_succ]; omega) m
  have e3 : C + 2 ^ j = 2 ^ j * (q + 1) + r := by rw [hC, Nat.mul_add, Nat.mul_one]; omega
  rw [e3, Nat.two_pow_add_eq_or_of_lt hrl, e2, hC, Nat.two_pow_add_eq_or_of_lt hrl, Nat.or_assoc, Nat.or_assoc, Nat.or_comm r]
theorem bag_snoc {O : List Int} (a : Nat) : bagN (O ++ [(a : Int)]) = bagN O ||| 2 ^ a := by
  unfold bagN bagTo
  rw [List.foldl_append]
  simp
theorem sub_snoc {n C : Nat} {O : List Int} {i : Nat} (hi : i < n) : subT n (bagN (O ++ [(i : Int)])) C = true ↔ subT n (bagN O) C = true ∧ C.testBit i = true := by
  rw [subT_iff, subT_iff]
  constructor
  · intro h
    refine ⟨fun k hk hb => h k hk (by rw [bag_snoc, Nat.testBit_or, hb]; rfl), h i hi (by rw [bag_snoc, Nat.testBit_or, Nat.testBit_two_pow]; simp)⟩
  · rintro ⟨h1, h2⟩ k hk hb
    rw [bag_snoc, Nat.testBit_or, Nat.testBit_two_pow, Bool.or_eq_true, decide_eq_true_eq] at hb
    rcases hb with hb | rfl
    · exact h1 k hk hb
    · exact h2
theorem Ord.bag {n : Nat} {O : List Int} (h : Ord n O) : bagN O < 2 ^ n := bagN_lt (fun y hy => h.rg y hy)
theorem Ord.bit {n : Nat} {O : List Int} (h : Ord n O) (i : Nat) : (bagN O).testBit i = decide ((i : Int) ∈ O) := bagN_bit (fun y hy => (h.rg y hy).1) i
theorem fs_eq {ct : Nat → Int} {n j : Nat} (hj : j < n) : ∀ (r : Nat) (O : List Int), Ord n O → O.length + r = n → fsT ct n j r O = if (j : Int) ∈ O then facT r * mgT ct O j O.length else stT ct n j (bagN O) O.length
  | 0, O, h, hl => by rw [if_pos (h.full hl hj)]; show mgT ct O j O.length = 1 * _; omega
  | r + 1, O, h, hl => by
    unfold fsT
    have ih := fun (i : Nat) (hi : i < n) (hO : (i : Int) ∉ O) => fs_eq (ct := ct) hj r (O ++ [(i : Int)]) (h.snoc hi hO) (by rw [List.length_append, List.length_singleton]; omega)
    by_cases hjO : (j : Int) ∈ O
    · rw [if_pos hjO]
      have e : ∀ i, i < n → (if (i : Int) ∈ O then (0 : Int) else fsT ct n j r (O ++ [(i : Int)])) = (if (i : Int) ∈ O then 0 else 1) * (facT r * mgT ct O j O.length) := fun i hi => by
        by_cases hO : (i : Int) ∈ O
        · rw [if_pos hO, if_pos hO]; simp
        · rw [if_neg hO, if_neg hO, ih i hi hO, if_pos (List.mem_append_left _ hjO), List.length_append, List.length_singleton, mgT_top, if_neg (fun e => hO (by rw [e]; exact hjO))]; simp
      rw [sumTo_congr e, sumTo_mulc, cnt_out h]
      show ((n : Int) - O.length) * (facT r * _) = ((r + 1 : Nat) : Int) * facT r * _
      rw [Int.mul_assoc]
      congr 1; omega
    · rw [if_neg hjO]
      have hjb : (bagN O).testBit j = false := by rw [h.bit, decide_eq_false hjO]
      -- the client itself comes next, or another one
      have e : ∀ i, i < n → (if (i : Int) ∈ O then (0 : Int) else fsT ct n j r (O ++ [(i : Int)])) = (if i = j then facT r * dlT ct j (bagN O) else 0) + sumTo (fun C => if subT n (bagN O) C = true ∧ C.testBit j = false then (if C.testBit i = true ∧ (bagN O).testBit i = false then 1 else 0) * (facT ((bitsL n C).length - (O.length + 1)) * facT (n - 1 - (bitsL n C).length) * dlT ct j C) else 0) (2 ^ n) := fun i hi => by
        by_cases hO : (i : Int) ∈ O
        · rw [if_pos hO, if_neg (fun e => hjO (by rw [← e]; exact hO))]
          rw [sumTo_congr (h := fun _ => 0) (fun C _ => by
            rw [h.bit i, decide_eq_true hO]; simp), sumTo_c0]; rfl
        · rw [if_neg hO, ih i hi hO]
          have hib : (bagN O).testBit i = false := by rw [h.bit, decide_eq_false hO]
          by_cases hij : i = j
          · subst hij
            rw [if_pos (List.mem_append_right _ (List.mem_singleton.2 rfl)), if_pos rfl, List.length_append, List.length_singleton, mgT_top, if_pos rfl, mgT_none ct O i hO _ (Nat.le_refl _), bag_snoc, ← add_or hjb]
            rw [sumTo_congr (h := fun _ => 0) (fun C _ => by
              by_cases hc : C.testBit i = true
              · rw [if_neg (fun hh => by rw [hc] at hh; cases hh.2)]
              · by_cases h2 : subT n (bagN O) C = true ∧ C.testBit i = false
                · rw [if_pos h2, if_neg (fun hh => hc hh.1), Int.zero_mul]
                · rw [if_neg h2]), sumTo_c0]
            show facT r * (0 + dlT ct i (bagN O)) = _
            rw [Int.zero_add]; omega
          · have hjn : (j : Int) ∉ O ++ [(i : Int)] := fun hh => by
              rw [List.mem_append, List.mem_singleton] at hh
              rcases hh with hh | hh
              · exact hjO hh
              · omega
            rw [if_neg hjn, if_neg hij, Int.zero_add]
            unfold stT
            refine sumTo_congr (fun C _ => ?_)
            rw [List.length_append, List.length_singleton, hib]
            by_cases h1 : subT n (bagN O) C = true ∧ C.testBit j = false
            · rw [if_pos h1]
              by_cases h2 : C.testBit i = true
              · rw [if_pos ⟨(sub_snoc hi).2 ⟨h1.1, h2⟩, h1.2⟩, if_pos ⟨h2, rfl⟩, Int.one_mul]
              · rw [if_neg (fun hh => h2 ((sub_snoc hi).1 hh.1).2), if_neg (fun hh => h2 hh.1), Int.zero_mul]
            · rw [if_neg h1, if_neg (fun hh => h1 ⟨((sub_snoc hi).1 hh.1).1, hh.2⟩)]
      rw [sumTo_congr e, sumTo_addf, sumTo_swap]
      rw [sumTo_single (g := fun i => if i = j then facT r * dlT ct j (bagN O) else 0) hj (fun i _ hn => if_neg hn), if_pos rfl]
      -- every set is met once for each of its clients that is not in P
      have e2 : ∀ C, C < 2 ^ n → sumTo (fun i => if subT n (bagN O) C = true ∧ C.testBit j = false then (if C.testBit i = true ∧ (bagN O).testBit i = false then 1 else 0) * (facT ((bitsL n C).length - (O.length + 1)) * facT (n - 1 - (bitsL n C).length) * dlT ct j C) else 0) n = (if subT n (bagN O) C = true ∧ C.testBit j = false then facT ((bitsL n C).length - O.length) * facT (n - 1 - (bitsL n C).length) * dlT ct j C else 0) - (if C = bagN O then facT r * dlT ct j (bagN O) else 0) := fun C hC => by
        by_cases h1 : subT n (bagN O) C = true ∧ C.testBit j = false
        · have hd := pc_diff h1.1
          rw [pc_bag h, pc_len] at hd
          rw [sumTo_congr (h := fun i => (if C.testBit i = true ∧ (bagN O).testBit i = false then 1 else 0) * (facT ((bitsL n C).length - (O.length + 1)) * facT (n - 1 - (bitsL n C).length) * dlT ct j C)) (fun i _ => if_pos h1), sumTo_mulc, hd, if_pos h1]
          have hnn := sumTo_nn (g := fun i => if C.testBit i = true ∧ (bagN O).testBit i = false then (1 : Int) else 0) (k := n) (fun i _ => by split <;> omega)
          rw [hd] at hnn
          by_cases hCe : C = bagN O
          · have hlc : ((bitsL n C).length : Int) = O.length := by rw [← pc_len, hCe, pc_bag h]
            have hl2 : (bitsL n C).length = O.length := by omega
            rw [if_pos hCe, hl2, hCe, Nat.sub_self, show n - 1 - O.length = r by omega]
            show ((O.length : Int) - O.length) * _ = 1 * facT r * _ - _
            rw [Int.sub_self, Int.zero_mul, Int.one_mul, Int.sub_self]
          · have hne : (bitsL n C).length ≠ O.length := fun hh => hCe (pc_eq h1.1 h.bag hC (by rw [pc_bag h, pc_len, hh]))
            rw [if_neg hCe, Int.sub_zero]
            obtain ⟨d, hd2⟩ : ∃ d, (bitsL n C).length = O.length + (d + 1) := ⟨(bitsL n C).length - O.length - 1, by omega⟩
            rw [hd2, show O.length + (d + 1) - O.length = d + 1 by omega, show O.length + (d + 1) - (O.length + 1) = d by omega]
            show (((O.length + (d + 1) : Nat) : Int) - O.length) * (facT d * _ * _) = ((d + 1 : Nat) : Int) * facT d * _ * _
            rw [show ((O.length + (d + 1) : Nat) : Int) - O.length = ((d + 1 : Nat) : Int) by omega, Int.mul_assoc, Int.mul_assoc, Int.mul_assoc]
        · rw [if_neg h1, sumTo_congr (h := fun _ => 0) (fun i _ => if_neg h1), sumTo_c0, if_neg (fun hh => h1 ⟨by rw [hh]; exact subT_iff.2 (fun _ _ hb => hb), by rw [hh]; exact hjb⟩)]; rfl
      rw [sumTo_congr e2, sumTo_sub, sumTo_single (g := fun C => if C = bagN O then facT r * dlT ct j (bagN O) else 0) h.bag (fun i _ hn => if_neg hn), if_pos rfl]
      unfold stT
      omega
end Go.Proofs.Ytggkhieepjnmdaa

namespace Go.Proofs.Ytggkhieepjnmdaa
open Go.RowKit

theorem step_app {ops : Array Oper} {o : Oper} {a : Act} {K : Act → World → Prop} {Q : Exit → Act → World → Prop} {E : Prop} {W : World} (hgd : o.guard = none) (s x : Operand)
    (ho : o.op = .call { callee := .builtin .append, args := #[s, x], argTypes := #[22, 22] }) (base : Nat) (v : Value) (xs : List Int) (z : Int) (H : Nat) (hH : W.heap.size = H)
    (hs : a.eval s = v) (hx : a.eval x = .slice (some ⟨H, 0, none⟩) 1 1) (hown : Own W base v xs) (hbase : base ≤ W.heap.size) (hlen : xs.length < 1048576)
    (h : ∀ v' w', Own w' base v' (xs ++ [z]) → Turn (fun i => v.ownBlock = some i) W w' → (v'.ownBlock = v.ownBlock ∨ ∀ g, v'.ownBlock = some g → W.heap.size ≤ g) → K (a.put o.dst v') w') :
    if Region.wanted o (yielded ops a.tmps) = true then Oper.wp Try.prog o a (W.alloc (.cells #[.int .i64 z] 3)) K Q else E := by
  subst hH
  obtain ⟨i0, hi, hz0, hz1, hz2⟩ := info_parts infoInt
  have hal : Own (W.alloc (.cells #[.int .i64 z] 3)) base v xs := hown.kp ((Kp.refl W).alloc _)
  refine step_append_lies _ hgd s x 22 ho base 3 i0 (.int .i64 0) 1 8 Try.underlying22 hi hz0 hz1 hz2 rfl (by decide) v xs.length (xs.map (Value.int .i64)) hs hal ⟨W.heap.size, 0, none⟩ 1 1 [.int .i64 z] hx rfl ?_ ?_ (by decide) ?_ ?_ ?_ (W.heap.size + 1) (by simp) ?_
  · intro j u hj
    cases j with
    | zero =>
      simp at hj; subst hj
      rw [add0, World.cell?_alloc_at _ _ _ _ rfl]; rfl
    | succ j => simp at hj
  · intro u hu; simp at hu; subst hu; rfl
  · unfold maxLen; omega
  · omega
  · simp; omega
  · intro g cap w' h2 h3 h4 _
    refine h _ w' ?_ ((Turn.of_kp ((Kp.refl W).alloc _)).trans (Turn.of_grown h3)) ?_
    · unfold Own
      rw [List.length_append, List.map_append]
      exact h2
    · rcases h4 with e | e
      · left; rw [e]; rfl
      · refine .inr (fun g' hg => ?_)
        simp [Value.ownBlock] at hg
        omega
theorem keep2 {wv w' : World} {p q : Addr} {a b : Value} (h1 : wv.cell? p = some a) (h2 : wv.cell? q = some b) (h : Kp wv w') : w'.cell? p = some a ∧ w'.cell? q = some b ∧ Kp wv w' := ⟨h.get h1, h.get h2, h⟩
end Go.Proofs.Ytggkhieepjnmdaa

/- The payment and the total of a set: reference and program. No condition. -/
import Derived.Test.YtbefnhagmejpcaaService
import Derived.Deep.RegionHeld3
import Derived.Test.YtbefnhagmejpcaaKeep
namespace Go.Proofs.Ytbefnhagmejpcaa
open Go.RowKit Go.Sort

def opAt (F : Fld) (a : Int) : Int := F.op.getD a.toNat 0
def payTo (F : Fld) (S : List Int) (k : Nat) : Int := ((S.take k).map (opAt F)).sum
def payF (F : Fld) (S : List Int) : Int := (S.map (opAt F)).sum
theorem payTo_succ {F : Fld} {S : List Int} {k : Nat} (hk : k < S.length) : payTo F S (k + 1) = payTo F S k + opAt F S[k] := by
  unfold payTo
  rw [List.take_succ_eq_append_getElem hk, List.map_append, List.sum_append]; simp
theorem payTo_all {F : Fld} {S : List Int} {k : Nat} (hk : S.length ≤ k) : payTo F S k = payF F S := by
  unfold payTo payF
  rw [List.take_of_length_le hk]
theorem opAt_bd {F : Fld} (h : goodF F = true) (a : Int) : 0 ≤ opAt F a ∧ opAt F a ≤ 99 := by
  unfold opAt
  by_cases hk : a.toNat < F.op.length
  · have e : F.op.getD a.toNat 0 = F.op[a.toNat] := by simp [List.getD, hk]
    rw [e]; exact (goodF_iff.1 h).2.1 _ (List.getElem_mem hk)
  · rw [List.getD_eq_getElem?_getD, List.getElem?_eq_none (by omega)]; simp
theorem payTo_bd {F : Fld} (h : goodF F = true) (S : List Int) : ∀ k, k ≤ S.length → 0 ≤ payTo F S k ∧ payTo F S k ≤ k * 99
  | 0, _ => by simp [payTo]
  | k + 1, hk => by
    have h1 := payTo_bd h S k (by omega)
    have h2 := opAt_bd h (S[k]'(by omega))
    rw [payTo_succ (by omega)]; omega
theorem set_len {F : Fld} {S : List Int} (h : setB F S = true) : S.length ≤ F.op.length := by
  have hr := ris_iff.1 h
  have hm := set_mem h
  have := bitsL_len F.op.length (bagN S)
  rwa [set_bits h] at this
theorem payF_bd {F : Fld} (h : goodF F = true) {S : List Int} (hs : setB F S = true) : 0 ≤ payF F S ∧ payF F S ≤ 693 := by
  have h1 := payTo_bd h S S.length (Nat.le_refl _)
  rw [payTo_all (Nat.le_refl _)] at h1
  have := set_len hs
  have := (goodF_iff.1 h).1.2
  omega
theorem opCell {w : World} {ad : Addr} {F : Fld} {a : Int} (h : IntsAt w (some ad) F.op) (h0 : 0 ≤ a) (h1 : a < F.op.length) : w.cell? (ad.add a.toNat) = some (.int .i64 (opAt F a)) := by
  have hk : a.toNat < F.op.length := by omega
  rw [h.some_ hk]
  simp [opAt, List.getD, hk]
set_option maxRecDepth 100000 in
set_option maxHeartbeats 400000 in
theorem payment_any (f : Value) (F : Fld) (A0 : Option Addr) (S : List Int) (n c0 : Nat) (w : World) (hf : FldAt w f F) (hS : IntsAt w A0 S) (hn : S.length = n) (hg : goodF F = true) (hs : setB F S = true) :
    Calls Try.prog 75 #[f, .slice A0 n c0] w fun e w' => e = .returned (.int .i64 (payF F S)) ∧ Kp w w' := by
  have hl1 : 0 < F.op.length := by have := (goodF_iff.1 hg).1.1; omega
  have h7 := (goodF_iff.1 hg).1.2
  obtain ⟨A, c, B, d, rfl, hA, hB⟩ := hf
  obtain ⟨od, rfl, _⟩ := hA.at_ (k := 0) hl1
  have hk0 : Kp w (w.alloc (.cells #[.slice (some od) F.op.length c, .slice B F.di.length d] 29)) := (Kp.refl w).alloc _
  obtain ⟨d0, d1⟩ := box2 w (.slice (some od) F.op.length c) (.slice B F.di.length d) 29
  replace hA := hA.kp hk0
  replace hS := hS.kp hk0
  have hm : n ≤ 9223372036854775807 := hn ▸ hS.1
  have hn7 : n ≤ 7 := by have := set_len hs; omega
  have Hn := Lib.hid hn; clear hn
  have Hm := Lib.hid (set_mem hs)
  have HG := Lib.hid hg
  have HB := Lib.hid (fun k (hk : k ≤ S.length) => payTo_bd hg S k hk)
  clear hs hg hB
  go_enter Try.func75, Try.ntmps75
  go_wp2_with fail
  generalize w.alloc (.cells #[.slice (some od) F.op.length c, .slice B F.di.length d] 29) = wb at *
  go_loopw [5, 10] (fun sv iv wr => ∃ k : Nat, k ≤ n ∧ iv = .int .i64 k ∧ sv = .int .i64 (payTo F S k) ∧ Dr wb wr) (fun _ iv _ => n - (intOf iv).toNat)
  case atStart => exact ⟨0, by omega, rfl, rfl, Dr.refl _⟩
  case round =>
    obtain ⟨k, hk, rfl, rfl, hdr⟩ := hrel
    have e0 := hdr.kp.get d0
    by_cases hlt : k < n
    · have lx : k < S.length := by rw [Hn.out]; exact hlt
      obtain ⟨sd, rfl, hck⟩ := (hS.kp hdr.kp).at_ lx
      obtain ⟨ha0, ha1⟩ := Hm.out _ (List.getElem_mem lx)
      have hoc := opCell (hA.kp hdr.kp) ha0 ha1
      have hsu := Lib.hid (payTo_succ (F := F) lx)
      obtain ⟨b1, b2⟩ := HB.out k (Nat.le_of_lt lx)
      obtain ⟨b3, b4⟩ := opAt_bd HG.out S[k]
      go_wp2_with fail
      go_roundw
      case rel => exact ⟨k + 1, by omega, by go_num, by rw [hsu.out] <;> go_num, hdr⟩
      case measure => simp [intOf]; omega
    · go_wp2_with fail
      go_ret
      exact ⟨ret_int (by rw [payTo_all (by rw [Hn.out]; omega)]), hk0.trans hdr.kp⟩
set_option maxRecDepth 100000 in
set_option maxHeartbeats 400000 in
theorem l2Pay_any (f : Value) (F : Fld) (A0 : Option Addr) (S : List Int) (n c0 : Nat) (w : World) (hf : FldAt w f F) (hS : IntsAt w A0 S) (hn : S.length = n) (hg : goodF F = true) (hs : setB F S = true) :
    Calls Try.prog 44 #[f, .slice A0 n c0] w fun e w' => e = .returned (.int .i64 (payF F S)) ∧ Kp w w' := by
  have hl1 : 0 < F.op.length := by have := (goodF_iff.1 hg).1.1; omega
  have h7 := (goodF_iff.1 hg).1.2
  obtain ⟨A, c, B, d, rfl, hA, hB⟩ := hf
  obtain ⟨od, rfl, _⟩ := hA.at_ (k := 0) hl1
  have hk0 : Kp w (w.alloc (.cells #[.slice (some od) F.op.length c, .slice B F.di.length d] 29)) := (Kp.refl w).alloc _
  obtain ⟨d0, d1⟩ := box2 w (.slice (some od) F.op.length c) (.slice B F.di.length d) 29
  replace hA := hA.kp hk0
  replace hS := hS.kp hk0
  have hm : n ≤ 9223372036854775807 := hn ▸ hS.1
  have hn7 : n ≤ 7 := by have := set_len hs; omega
  have Hn := Lib.hid hn; clear hn
  have Hm := Lib.hid (set_mem hs)
  have HG := Lib.hid hg
  have HB := Lib.hid (fun k (hk : k ≤ S.length) => payTo_bd hg S k hk)
  clear hs hg hB
  go_enter Try.func44, Try.ntmps44
  go_wp2_with fail
  generalize w.alloc (.cells #[.slice (some od) F.op.length c, .slice B F.di.length d] 29) = wb at *
  go_loopw [5, 6] (fun sv iv wr => ∃ k : Nat, k ≤ n ∧ iv = .int .i64 k ∧ sv = .int .i64 (payTo F S k) ∧ Dr wb wr) (fun _ iv _ => n - (intOf iv).toNat)
  case atStart => exact ⟨0, by omega, rfl, rfl, Dr.refl _⟩
  case round =>
    obtain ⟨k, hk, rfl, rfl, hdr⟩ := hrel
    have e0 := hdr.kp.get d0
    by_cases hlt : k < n
    · have lx : k < S.length := by rw [Hn.out]; exact hlt
      obtain ⟨sd, rfl, hck⟩ := (hS.kp hdr.kp).at_ lx
      obtain ⟨ha0, ha1⟩ := Hm.out _ (List.getElem_mem lx)
      have hoc := opCell (hA.kp hdr.kp) ha0 ha1
      have hsu := Lib.hid (payTo_succ (F := F) lx)
      obtain ⟨b1, b2⟩ := HB.out k (Nat.le_of_lt lx)
      obtain ⟨b3, b4⟩ := opAt_bd HG.out S[k]
      go_wp2_with fail
      go_quiet (fail)
      go_wp2_with fail
      go_roundw
      case rel => exact ⟨k + 1, by omega, by go_num, by rw [hsu.out] <;> go_num, hdr.drewN nq⟩
      case measure => simp [intOf]; omega
    · go_wp2_with fail
      go_ret
      exact ⟨ret_int (by rw [payTo_all (by rw [Hn.out]; omega)]), hk0.trans hdr.kp⟩
def totF (F : Fld) (S : List Int) : Int := serveF F S + payF F S
end Go.Proofs.Ytbefnhagmejpcaa

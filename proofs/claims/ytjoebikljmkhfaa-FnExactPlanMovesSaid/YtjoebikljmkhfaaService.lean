/- The service of a set: reference and program. No condition. -/
import Derived.Test.YtjoebikljmkhfaaGain
import Derived.Test.YtjoebikljmkhfaaBits
import Derived.Test.YtjoebikljmkhfaaLget
import Derived.IntWalk
import Derived.Test.YtjoebikljmkhfaaSumI
namespace Go.Proofs.Ytjoebikljmkhfaa
open Go.RowKit Go.Sort

/-- The service of a set. -/
def serveF (F : Fld) (T : List Int) : Int := sumTo (fun i => nearF F i T) F.di.length
theorem serveF_bd {F : Fld} (h : goodF F = true) (T : List Int) : 0 ≤ serveF F T ∧ serveF F T ≤ 693 := by
  have h1 := sumTo_bd (g := fun i => nearF F i T) (b := 99) (fun i => nearF_bd h T i) F.di.length
  have h7 := (goodF_iff.1 h).2.2.1
  unfold serveF; omega
set_option maxRecDepth 100000 in
set_option maxHeartbeats 400000 in
theorem l2Serve_any (f : Value) (F : Fld) (A0 : Option Addr) (T : List Int) (n c0 : Nat) (w : World) (hf : FldAt w f F) (hT : IntsAt w A0 T) (hn : T.length = n) (hg : goodF F = true) (hs : setB F T = true) (hne : T ≠ [] ∨ F.di.length = 0) :
    Calls Try.prog 36 #[f, .slice A0 n c0] w fun e w' => e = .returned (.int .i64 (serveF F T)) ∧ Kp w w' := by
  have h7 := (goodF_iff.1 hg).2.2.1
  obtain ⟨A, c, B, d, rfl, hA, hB⟩ := hf
  have hk0 : Kp w (w.alloc (.cells #[.slice A F.op.length c, .slice B F.di.length d] 58)) := (Kp.refl w).alloc _
  obtain ⟨d0, d1⟩ := box2 w (.slice A F.op.length c) (.slice B F.di.length d) 58
  have hFA := FldAt.kp (show FldAt w (.agg #[.slice A F.op.length c, .slice B F.di.length d]) F from ⟨A, c, B, d, rfl, hA, hB⟩) hk0
  replace hT := hT.kp hk0
  have HG := Lib.hid hg; have HS := Lib.hid hs; have HE := Lib.hid hne; have Hn := Lib.hid hn
  clear hA hB hg hs hne hn
  go_enter Try.func36, Try.ntmps36
  go_wp2_with fail
  have hsz : Hid ((w.alloc (.cells #[.slice A F.op.length c, .slice B F.di.length d] 58)).heap.size = w.heap.size + 1) := by show _ = _; simp
  generalize w.alloc (.cells #[.slice A F.op.length c, .slice B F.di.length d] 58) = wb at *
  have hkb : Kp wb wb := Kp.refl _
  have hkw := hk0
  go_loopw [5, 6] (fun sv iv wr => ∃ k : Nat, k ≤ F.di.length ∧ iv = .int .i64 k ∧ sv = .int .i64 (sumTo (fun i => nearF F i T) k) ∧ Kp wb wr) (fun _ iv _ => F.di.length - (intOf iv).toNat)
  case atStart => exact ⟨0, by omega, rfl, rfl, Kp.refl _⟩
  case round =>
    obtain ⟨k, hk, rfl, rfl, hkb⟩ := hrel
    by_cases hlt : k < F.di.length
    · have hne : T ≠ [] := by
        rcases HE.out with h | h
        · exact h
        · omega
      have HN := Lib.hid hne
      clear hne
      have hs1 := sumTo_bd (g := fun i => nearF F i T) (b := 99) (fun i => nearF_bd HG.out T i) k
      obtain ⟨b1, b2⟩ := hs1
      obtain ⟨b3, b4⟩ := nearF_bd HG.out T k
      have b5 : (k : Int) * 99 ≤ 693 := by omega
      have hsu := Lib.hid (sumTo_succ (fun i => nearF F i T) k)
      have q_d0 := hkb.get d0
      have q_d1 := hkb.get d1
      go_wp2_with fail
      have CC := Lib.hid (l2Nearest_any _ F k A0 T n c0 _ (hFA.kp hkb) (hT.kp hkb) Hn.out HG.out HS.out HN.out hlt)
      with_reducible refine Calls.mono CC.out ?_
      rintro e w1 ⟨rfl, hk1⟩
      clear CC q_d0 q_d1
      replace hkb := hkb.trans hk1
      have q_d0 := hkb.get d0
      have q_d1 := hkb.get d1
      go_wp2_with fail
      go_roundw
      case rel => exact ⟨k + 1, by omega, by go_num, by rw [hsu.out], hkb⟩
      case measure => simp [intOf]; omega
    · obtain rfl : k = F.di.length := by omega
      have q_d0 := hkb.get d0
      have q_d1 := hkb.get d1
      go_wp2_with fail
      go_ret
      exact ⟨rfl, hkw.trans hkb⟩
theorem mapTo_take (g : Nat → Int) (n k : Nat) (h : k ≤ n) : (mapTo g n).take k = mapTo g k := by
  induction n with
  | zero => obtain rfl : k = 0 := by omega
            rfl
  | succ n ih =>
    by_cases e : k = n + 1
    · subst e; rw [List.take_of_length_le (by rw [mapTo_len]; omega)]
    · rw [mapTo_succ, List.take_append_of_le_length (by rw [mapTo_len]; omega)]
      exact ih (by omega)
theorem mem_mapTo {g : Nat → Int} {x : Int} : ∀ {n : Nat}, x ∈ mapTo g n → ∃ i, i < n ∧ x = g i
  | 0, h => by cases h
  | n + 1, h => by
    rw [mapTo_succ, List.mem_append] at h
    rcases h with h | h
    · obtain ⟨i, hi, e⟩ := mem_mapTo h
      exact ⟨i, by omega, e⟩
    · exact ⟨n, by omega, by simpa using h⟩
set_option maxHeartbeats 400000 in
theorem service_any (f : Value) (F : Fld) (A0 : Option Addr) (T : List Int) (n c0 : Nat) (w : World) (hf : FldAt w f F) (hT : IntsAt w A0 T) (hn : T.length = n) (hg : goodF F = true) (hs : setB F T = true) (hne : T ≠ []) :
    Calls Try.prog 48 #[f, .slice A0 n c0] w fun e w' => e = .returned (.int .i64 (serveF F T)) ∧ Kp w w' := by
  have h7 := (goodF_iff.1 hg).2.2.1
  obtain ⟨A, c, B, d, rfl, hA, hB⟩ := hf
  have hk0 : Kp w (w.alloc (.cells #[.slice A F.op.length c, .slice B F.di.length d] 58)) := (Kp.refl w).alloc _
  obtain ⟨d0, d1⟩ := box2 w (.slice A F.op.length c) (.slice B F.di.length d) 58
  have hFA := FldAt.kp (show FldAt w (.agg #[.slice A F.op.length c, .slice B F.di.length d]) F from ⟨A, c, B, d, rfl, hA, hB⟩) hk0
  replace hT := hT.kp hk0
  have HG := Lib.hid hg; have HS := Lib.hid hs; have HE := Lib.hid hne; have Hn := Lib.hid hn
  clear hA hB hg hs hne hn
  go_enter Try.func48, Try.ntmps48
  go_wp2_with fail
  have hsz : Hid ((w.alloc (.cells #[.slice A F.op.length c, .slice B F.di.length d] 58)).heap.size = w.heap.size + 1) := by show _ = _; simp
  generalize w.alloc (.cells #[.slice A F.op.length c, .slice B F.di.length d] 58) = wb at *
  have hkb : Kp wb wb := Kp.refl _
  have hkw := hk0
  have CC := Lib.hid (lengths_any _ F A0 T n c0 _ (hFA.kp hkb) (hT.kp hkb) Hn.out HG.out HS.out HE.out)
  with_reducible refine Calls.mono CC.out ?_
  rintro e w1 ⟨v, rfl, ho, hk1⟩
  clear CC
  replace hkb := hkb.trans hk1
  obtain ⟨Av, cv, hve, hiv⟩ := ho.ints (by rw [mapTo_len]; omega)
  subst hve
  have CC := Lib.hid (sumL_any Av _ _ cv w1 hiv rfl (fun k hk => by
    rw [mapTo_len] at hk
    rw [mapTo_take _ _ _ hk]
    have h1 := sumTo_bd (g := fun i => nearF F i T) (b := 99) (fun i => nearF_bd HG.out T i) k
    unfold sumTo at h1
    omega) (fun x hx => by
    obtain ⟨i, _, rfl⟩ := mem_mapTo hx
    have := nearF_bd HG.out T i
    omega))
  have q_d0 := hkb.get d0
  have q_d1 := hkb.get d1
  go_wp2_with fail
  with_reducible refine Calls.mono CC.out ?_
  rintro e w2 ⟨rfl, hw⟩
  obtain rfl := hw
  clear CC
  go_wp2_with fail
  go_ret
  exact ⟨rfl, hkw.trans hkb⟩

end Go.Proofs.Ytjoebikljmkhfaa

/- Core shares: the reference's search. No condition. -/
import Derived.Test.YtcifdadieaccdaaCore
namespace Go.Proofs.Ytcifdadieaccdaa
open Go.RowKit Go.Sort

/-- What the reference holds after k codes. -/
def overI (n : Nat) (p : List Int → Bool) (k : Nat) (best : List Int) : Prop :=
  (best = [] ∧ ∀ S ∈ rowsTo n k, p S = false) ∨ (best ∈ rowsTo n k ∧ p best = true ∧ ∀ S ∈ rowsTo n k, p S = true → S = best ∨ befB best S = true)
theorem mem_rows_succ {n k : Nat} {S : List Int} : S ∈ rowsTo n (k + 1) ↔ S ∈ rowsTo n k ∨ S = bitsL n (k + 1) := by rw [rowsTo_succ]; simp
theorem over_zero (n : Nat) (p : List Int → Bool) : overI n p 0 [] := .inl ⟨rfl, fun S h => by simp [rowsTo] at h⟩
theorem over_no {n : Nat} {p : List Int → Bool} {k : Nat} {best : List Int} (h : overI n p k best) (hp : p (bitsL n (k + 1)) = false) : overI n p (k + 1) best := by
  rcases h with ⟨h1, h2⟩ | ⟨h1, h2, h3⟩
  · refine .inl ⟨h1, fun S hS => ?_⟩
    rcases mem_rows_succ.1 hS with hS | rfl
    · exact h2 S hS
    · exact hp
  · refine .inr ⟨mem_rows_succ.2 (.inl h1), h2, fun S hS hpS => ?_⟩
    rcases mem_rows_succ.1 hS with hS | rfl
    · exact h3 S hS hpS
    · rw [hp] at hpS; cases hpS
theorem over_first {n : Nat} {p : List Int → Bool} {k : Nat} (h : overI n p k []) (hne : [] ∉ rowsTo n k) (hp : p (bitsL n (k + 1)) = true) : overI n p (k + 1) (bitsL n (k + 1)) := by
  rcases h with ⟨_, h2⟩ | ⟨h1, _, _⟩
  · refine .inr ⟨mem_rows_succ.2 (.inr rfl), hp, fun S hS hpS => ?_⟩
    rcases mem_rows_succ.1 hS with hS | rfl
    · rw [h2 S hS] at hpS; cases hpS
    · exact .inl rfl
  · exact absurd h1 hne
theorem over_take {n : Nat} {p : List Int → Bool} {k : Nat} {best : List Int} (h : overI n p k best) (hne : best ≠ []) (hp : p (bitsL n (k + 1)) = true) (hb : befB (bitsL n (k + 1)) best = true) : overI n p (k + 1) (bitsL n (k + 1)) := by
  rcases h with ⟨h1, _⟩ | ⟨h1, h2, h3⟩
  · exact absurd h1 hne
  · refine .inr ⟨mem_rows_succ.2 (.inr rfl), hp, fun S hS hpS => ?_⟩
    rcases mem_rows_succ.1 hS with hS | rfl
    · rcases h3 S hS hpS with rfl | h4
      · exact .inr hb
      · exact .inr (befB_trans hb h4)
    · exact .inl rfl
theorem over_keep {n : Nat} {p : List Int → Bool} {k : Nat} {best : List Int} (h : overI n p k best) (hne : best ≠ []) (hb : befB (bitsL n (k + 1)) best = false) : overI n p (k + 1) best := by
  rcases h with ⟨h1, _⟩ | ⟨h1, h2, h3⟩
  · exact absurd h1 hne
  · refine .inr ⟨mem_rows_succ.2 (.inl h1), h2, fun S hS hpS => ?_⟩
    rcases mem_rows_succ.1 hS with hS | rfl
    · exact h3 S hS hpS
    · cases h : befB best (bitsL n (k + 1)) with
      | true => exact .inr rfl
      | false => exact .inl (befB_total hb h)
theorem over_end {n : Nat} {p : List Int → Bool} {best : List Int} (h : overI n p (2 ^ n - 1) best) : best = ((setsL n).find? p).getD [] := by
  rw [overI, ← codesL_to] at h
  have hm := fun S => (setsL_perm n).mem_iff (a := S)
  rcases h with ⟨rfl, h2⟩ | ⟨h1, h2, h3⟩
  · rw [find_no (fun x hx => h2 x ((hm x).1 hx))]; rfl
  · obtain ⟨k, hk, e⟩ := List.getElem_of_mem ((hm best).2 h1)
    rw [find_at hk (fun x hx => ?_) (by rw [e]; exact h2)]
    · exact e.symm
    · cases hpx : p x with
      | false => rfl
      | true =>
        obtain ⟨i, hi, rfl⟩ := List.getElem_of_mem hx
        have hik : i < k := by simp at hi; omega
        rw [List.getElem_take] at hpx
        have hil : i < (setsL n).length := by omega
        have h4 := List.pairwise_iff_getElem.1 (setsL_sorted n) i k hil hk hik
        rcases h3 _ ((hm _).1 (List.getElem_mem hil)) hpx with h5 | h5
        · rw [h5, e, befB_irrefl] at h4; cases h4
        · rw [e] at h4
          have := befB_asymm h4
          rw [h5] at this; cases this
theorem nil_rows {n k : Nat} (hk : k < 2 ^ n) : [] ∉ rowsTo n k := by
  intro h
  obtain ⟨c, hc, e⟩ := rowsTo_mem h
  have h0 : bitsL n 0 = [] := by simp [bitsL, bitsN]
  have := bitsL_inj (by omega) (Nat.two_pow_pos n) (e.symm.trans h0.symm)
  omega
theorem over_no' {n : Nat} {p : List Int → Bool} {b : Nat} {best : List Int} (h1 : 1 ≤ b) (h : overI n p (b - 1) best) (hp : p (bitsL n b) = false) : overI n p (b + 1 - 1) best := by
  have := over_no h (by rw [Nat.sub_add_cancel h1]; exact hp)
  rwa [Nat.sub_add_cancel h1] at this
theorem over_first' {n : Nat} {p : List Int → Bool} {b : Nat} (h1 : 1 ≤ b) (hlt : b < 2 ^ n) (h : overI n p (b - 1) []) (hp : p (bitsL n b) = true) : overI n p (b + 1 - 1) (bitsL n b) := by
  have := over_first h (nil_rows (by omega)) (by rw [Nat.sub_add_cancel h1]; exact hp)
  rwa [Nat.sub_add_cancel h1] at this
theorem over_take' {n : Nat} {p : List Int → Bool} {b : Nat} {best : List Int} (h1 : 1 ≤ b) (h : overI n p (b - 1) best) (hne : best ≠ []) (hp : p (bitsL n b) = true) (hb : befB (bitsL n b) best = true) : overI n p (b + 1 - 1) (bitsL n b) := by
  have := over_take h hne (by rw [Nat.sub_add_cancel h1]; exact hp) (by rw [Nat.sub_add_cancel h1]; exact hb)
  rwa [Nat.sub_add_cancel h1] at this
theorem over_keep' {n : Nat} {p : List Int → Bool} {b : Nat} {best : List Int} (h1 : 1 ≤ b) (h : overI n p (b - 1) best) (hne : best ≠ []) (hb : befB (bitsL n b) best = false) : overI n p (b + 1 - 1) best := by
  have := over_keep h hne (by rw [Nat.sub_add_cancel h1]; exact hb)
  rwa [Nat.sub_add_cancel h1] at this
set_option maxRecDepth 100000 in
set_option maxHeartbeats 2000000 in
theorem l9Over_any (f : Value) (F : Fld) (A1 : Option Addr) (xs : List Int) (n1 c1 : Nat) (w : World) (hf : FldAt w f F) (h1 : IntsAt w A1 xs) (hn1 : xs.length = n1) (hs : sharesB F xs = true) :
    Calls Try.prog 43 #[f, .slice A1 n1 c1] w fun e w' => ∃ A c, e = .returned (.slice A (ovL F xs).length c) ∧ Own w' w.heap.size (.slice A (ovL F xs).length c) (ovL F xs) ∧ Kp w w' := by
  obtain ⟨A, c, B, d, rfl, hA, hB⟩ := hf
  have hk0 : Kp w (w.alloc (.cells #[.slice A F.op.length c, .slice B F.di.length d] 29)) := (Kp.refl w).alloc _
  obtain ⟨d0, d1⟩ := box2 w (.slice A F.op.length c) (.slice B F.di.length d) 29
  have hFA := FldAt.kp (show FldAt w (.agg #[.slice A F.op.length c, .slice B F.di.length d]) F from ⟨A, c, B, d, rfl, hA, hB⟩) hk0
  replace h1 := h1.kp hk0
  have Hn1 := Lib.hid hn1
  have Hs := Lib.hid hs
  have HP := Lib.hid (sharesB_iff.1 hs)
  have hd7 := (goodF_iff.1 HP.out.1).2.2.1
  have hP128 : 2 ^ F.di.length ≤ 128 := Nat.pow_le_pow_right (by omega) hd7
  obtain ⟨P, hPe⟩ : ∃ P, P = 2 ^ F.di.length := ⟨_, rfl⟩
  rw [← hPe] at hP128
  replace hPe := Lib.hid hPe
  have hP1 : 1 ≤ P := by rw [hPe.out]; exact Nat.one_le_two_pow
  clear hA hB hn1 hs
  go_enter Try.func43, Try.ntmps43
  go_wp2_with fail
  have hsz : Hid ((w.alloc (.cells #[.slice A F.op.length c, .slice B F.di.length d] 29)).heap.size = w.heap.size + 1) := by show _ = _; simp
  generalize w.alloc (.cells #[.slice A F.op.length c, .slice B F.di.length d] 29) = wb at *
  have hkb : Kp wb wb := Kp.refl _
  have hkw := hk0
  have ho0 := own_new0 wb w.heap.size (by rw [hsz.out]; exact Nat.le_succ _)
  have hkn := (Kp.refl wb).alloc (.cells #[] 3)
  rw [hsz.out] at ho0
  have CC := Lib.hid (l9Table_any _ F _ (hFA.kp hkn) HP.out.1)
  with_reducible refine Calls.mono CC.out ?_
  rintro e wl ⟨v, rfl, hot, hk1⟩
  clear CC
  rw [← hPe.out] at hot
  obtain ⟨At, ct, hve, hit⟩ := hot.ints (by rw [mapTo_len]; omega)
  subst hve
  have hkl0 := hkn.trans hk1
  have ho1 := RowP.of_own (ho0.kp hk1) (by simp)
  have hFl := hFA.kp hkl0
  have h1l := h1.kp hkl0
  have g0 := hkl0.get d0
  have g1 := hkl0.get d1
  have hkl := hkw.trans hkl0
  have htl := Lib.hid (mapTo_len (ctF F) P)
  obtain ⟨td, rfl, _⟩ := hit.at_ (k := 0) (by rw [htl.out]; omega)
  rw [htl.out]
  clear hot ho0 hkn hk1 hkl0 hFA h1 d0 d1 hkb
  go_wp2_with fail
  go_loopw [5, 7] (fun bv iv wr => ∃ (b : Nat) (best : List Int) (Ab : Option Addr) (cb : Nat), 1 ≤ b ∧ b ≤ P ∧ iv = .int .i64 b ∧ bv = .slice Ab best.length cb ∧ RowP wr (some w.heap.size) (.slice Ab best.length cb) best ∧ Hid (overI F.di.length (posB F xs) (b - 1) best) ∧ Kp wl wr) (fun _ iv _ => P - (intOf iv).toNat)
  case atStart => exact ⟨1, [], _, _, by omega, by omega, rfl, rfl, ho1, over_zero _ _, Kp.refl _⟩
  case round =>
    clear ho1
    obtain ⟨b, best, Ab, cb, hb1, hbP, rfl, rfl, hb, Hov, hkr⟩ := hrel
    by_cases hlt : b < P
    · have hlt2 : b < 2 ^ F.di.length := by rw [← hPe.out]; exact hlt
      have Hlt2 := Lib.hid hlt2
      clear hlt2
      have z1 := hkr.get g1
      have hwr := (hkl.trans hkr).le
      go_wp2_with fail
      have CC := Lib.hid (l2Bits_any F.di.length b wr (by omega) (by omega))
      with_reducible refine Calls.mono CC.out ?_
      rintro e wq ⟨v, rfl, hov, hkq⟩
      clear CC z1
      obtain ⟨As, cs, hve, his⟩ := hov.ints (by have := bitsL_len F.di.length b; omega)
      have hro := Lib.hid ((RowP.of_own hov (by have := bitsL_len F.di.length b; omega)).mono (b' := w.heap.size) hwr)
      subst hve
      have hbl := bitsL_len F.di.length b
      have hbl7 : (bitsL F.di.length b).length ≤ 7 := by omega
      have Hcr := Lib.hid (bitsL_crowd F b)
      have hkq2 := hkr.trans hkq
      have hbq := hb.kp hkq
      obtain ⟨Ab', cb', eb, hcb, hbi⟩ := hbq.read
      simp only [Value.slice.injEq] at eb
      obtain ⟨rfl, _, rfl⟩ := eb
      have hct := (hit.kp hkq2).some_ (k := b) (by rw [htl.out]; exact hlt)
      have e7 : (mapTo (ctF F) P)[b]'(by rw [htl.out]; exact hlt) = costF F (bitsL F.di.length b) := by simp [mapTo, ctF]
      rw [e7] at hct
      have hex : Hid (excS F xs (bitsL F.di.length b) = roomS xs (bitsL F.di.length b) - costF F (bitsL F.di.length b)) := rfl
      have C1 := Lib.hid (fun n => Calls.same_quiet (l7Room_any A1 xs n1 c1 As (bitsL F.di.length b) _ cs 1400 (wq.drewN n) ((h1l.kp hkq2).drewN n) Hn1.out (his.drewN n) rfl (fun x hx => by have := crowd_mem Hcr.out x hx; have := HP.out.2.1; have := Hn1.out; omega) hbl7 (by omega) (by omega) HP.out.2.2))
      have C2 := Lib.hid (fun n => Calls.dr_quiet (l2Before_any As Ab (bitsL F.di.length b) best _ _ cs cb (wq.drewN n) (his.drewN n) rfl (hbi.drewN n) rfl))
      clear hov e7 hbl
      by_cases hgt : costF F (bitsL F.di.length b) < roomS xs (bitsL F.di.length b)
      · have hdec : decide (costF F (bitsL F.di.length b) < roomS xs (bitsL F.di.length b)) = true := by simpa using hgt
        have Hpos : Hid (posB F xs (bitsL F.di.length b) = true) := by show _ = _; simp [posB]; have := hex.out; omega
        by_cases hbe : best = []
        · subst hbe
          have Hy := Lib.hid (over_first' hb1 Hlt2.out Hov.out Hpos.out)
          go_wp2_with fail
          go_quiet (first | exact C1.out _ | exact C2.out _)
          go_wp2_with fail
          go_roundw
          case rel => exact ⟨b + 1, _, As, cs, by omega, by omega, by go_num, rfl, hro.out.kp ((Kp.refl _).drewN nq), Hy, hkq2.drewN nq⟩
          case measure => simp [intOf]; omega
        · have hl0 : ((best.length : Int) == 0) = false := by
            simp only [beq_eq_false_iff_ne, ne_eq]
            intro e
            exact hbe (List.eq_nil_of_length_eq_zero (by omega))
          cases hbf : befB (bitsL F.di.length b) best
          · have Hy := Lib.hid (over_keep' hb1 Hov.out hbe hbf)
            rw [hbf] at C2
            go_wp2_with fail
            go_quiet (first | exact C1.out _ | exact C2.out _)
            go_wp2_with fail
            go_roundw
            case rel => exact ⟨b + 1, best, Ab, cb, by omega, by omega, by go_num, rfl, hbq.kp ((Kp.refl _).drewN nq), Hy, hkq2.drewN nq⟩
            case measure => simp [intOf]; omega
          · have Hy := Lib.hid (over_take' hb1 Hov.out hbe Hpos.out hbf)
            rw [hbf] at C2
            go_wp2_with fail
            go_quiet (first | exact C1.out _ | exact C2.out _)
            go_wp2_with fail
            go_roundw
            case rel => exact ⟨b + 1, _, As, cs, by omega, by omega, by go_num, rfl, hro.out.kp ((Kp.refl _).drewN nq), Hy, hkq2.drewN nq⟩
            case measure => simp [intOf]; omega
      · have hdec : decide (costF F (bitsL F.di.length b) < roomS xs (bitsL F.di.length b)) = false := by simpa using hgt
        have Hy := Lib.hid (over_no' hb1 Hov.out (show posB F xs (bitsL F.di.length b) = false from by simp [posB]; have := hex.out; omega))
        go_wp2_with fail
        go_quiet (first | exact C1.out _ | exact C2.out _)
        go_wp2_with fail
        go_roundw
        case rel => exact ⟨b + 1, best, Ab, cb, by omega, by omega, by go_num, rfl, hbq.kp ((Kp.refl _).drewN nq), Hy, hkq2.drewN nq⟩
        case measure => simp [intOf]; omega
    · have hov := Hov.out
      rw [show b = P by omega, hPe.out] at hov
      have He : Hid (best = ovL F xs) := over_end hov
      go_wp2_with fail
      go_ret
      exact ⟨Ab, cb, by rw [← He.out]; rfl, by rw [← He.out]; exact hb.2 _ rfl, hkl.trans hkr⟩
end Go.Proofs.Ytcifdadieaccdaa

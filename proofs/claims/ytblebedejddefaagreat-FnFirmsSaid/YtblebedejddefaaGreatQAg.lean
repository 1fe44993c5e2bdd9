/- The play of two firms: the program. No condition. -/
import Derived.Test.YtblebedejddefaaGreatQAf
import Derived.Test.YtblebedejddefaaGreatQAe
namespace Go.Proofs.YtblebedejddefaaGreat
open Go.RowKit Go.Sort

theorem clone_non (c : Nat) (w : World) :
    Calls Tryz.prog 59 #[.slice none 0 c] w fun e w' => ∃ v, e = .returned v ∧ Own w' w.heap.size v [] ∧ Kp w w' := by
  have hq := fun (w : World) (a : Option Addr) (n c : Nat) => Lib.run_eql_slice_nil (P := Tryz.prog) w 24 3 a n c 0 0 Tryz.underlying24
  go_enter Tryz.func59, Tryz.ntmps59
  go_wp2_with fail
  go_ret
  exact ⟨_, rfl, Own.nil _ _, Kp.refl _⟩
theorem clone_al (A : Option Addr) (xs : List Int) (n c : Nat) (w : World) (hx : IntsAt w A xs) (hn : xs.length = n) (hb : n ≤ 1048576) :
    Calls Tryz.prog 59 #[.slice A n c] w fun e w' => ∃ bA bc, e = .returned (.slice bA n bc) ∧ Own w' w.heap.size (.slice bA n bc) xs ∧ Kp w w' := by
  have key : Calls Tryz.prog 59 #[.slice A n c] w fun e w' => ∃ v, e = .returned v ∧ Own w' w.heap.size v xs ∧ Kp w w' := by
    cases A with
    | some ad => exact clone_some ad xs n c w hx hn hb
    | none =>
      have e : xs = [] := by
        cases xs with
        | nil => rfl
        | cons x t =>
          obtain ⟨ad, e, _⟩ := hx.at_ (k := 0) (by simp)
          cases e
      subst e
      subst hn
      exact clone_non c w
  refine key.mono ?_
  rintro e w' ⟨v, rfl, ho, hk⟩
  obtain ⟨bA, bc, rfl⟩ := ho.shape
  rw [hn] at ho ⊢
  exact ⟨bA, bc, rfl, ho, hk⟩
set_option maxRecDepth 100000 in
set_option maxHeartbeats 2000000 in
theorem play_any (F : Fld) (k : Nat) (hg : goodF F = true) (hk1 : 1 ≤ k) (hk2 : 2 * k ≤ F.op.length) : ∀ (n : Nat) (f : Value) (A0 : Option Addr) (O : List Int) (n0 c0 : Nat) (w : World), FldAt w f F → IntsAt w A0 O → O.length = n0 → n0 + n = 2 * k → (∃ X Y, Duel F.op.length O X Y) →
    Calls Tryz.prog 25 #[f, .int .i64 (k : Int), .slice A0 n0 c0] w fun e w' => e = .returned (.tuple #[.int .i64 (playN F n O).1, .int .i64 (playN F n O).2]) ∧ Kp w w'
  | 0, f, A0, O, n0, c0, w, hf, hO, hn, hnk, hd => by
    obtain ⟨A, c, B, d, rfl, hA, hB⟩ := hf
    have hk0 : Kp w (w.alloc (.cells #[.slice A F.op.length c, .slice B F.di.length d] 27)) := (Kp.refl w).alloc _
    obtain ⟨d0, d1⟩ := box2 w (.slice A F.op.length c) (.slice B F.di.length d) 27
    have hFA := FldAt.kp (show FldAt w (.agg #[.slice A F.op.length c, .slice B F.di.length d]) F from ⟨A, c, B, d, rfl, hA, hB⟩) hk0
    obtain ⟨X, Y, hd⟩ := hd
    have hOk := hO.kp hk0
    have Hn := Lib.hid hn
    have HD := Lib.hid hd
    have HG := Lib.hid hg
    have h7 := (goodF_iff.1 hg).1.2
    have HE : Hid (O ≠ []) := fun e => by rw [e] at hn; simp at hn; omega
    have hwr : IntKind.i64.wrap (2 * (k : Int)) = 2 * (k : Int) := IntWalk.i64_in _ (by omega)
    have hdec : ((n0 : Int) == 2 * (k : Int)) = true := by simp; omega
    clear hA hB hO hn hd hg
    go_enter Tryz.func25, Tryz.ntmps25
    go_wp2_with fail
    have hsz : Hid ((w.alloc (.cells #[.slice A F.op.length c, .slice B F.di.length d] 27)).heap.size = w.heap.size + 1) := by show _ = _; simp
    generalize w.alloc (.cells #[.slice A F.op.length c, .slice B F.di.length d] 27) = wb at *
    have hkb : Kp wb wb := Kp.refl _
    have hkw := hk0
    have q_d0 := hkb.get d0
    have q_d1 := hkb.get d1
    go_wp2_with fail
    have CC := Lib.hid (won_any _ F A0 O X Y n0 c0 wb (hFA.kp hkb) (hOk.kp hkb) Hn.out HG.out HD.out HE.out)
    with_reducible refine Calls.mono CC.out ?_
    rintro e w1 ⟨rfl, hk1⟩
    clear CC q_d0 q_d1
    replace hkb := hkb.trans hk1
    have q_d0 := hkb.get d0
    have q_d1 := hkb.get d1
    go_wp2_with fail
    go_ret2
    exact ⟨rfl, hkw.trans hkb⟩
  | n + 1, f, A0, O, n0, c0, w, hf, hO, hn, hnk, hd => by
    have IH := Lib.hid (play_any F k hg hk1 hk2 n)
    obtain ⟨A, c, B, d, rfl, hA, hB⟩ := hf
    have hk0 : Kp w (w.alloc (.cells #[.slice A F.op.length c, .slice B F.di.length d] 27)) := (Kp.refl w).alloc _
    obtain ⟨d0, d1⟩ := box2 w (.slice A F.op.length c) (.slice B F.di.length d) 27
    have hFA := FldAt.kp (show FldAt w (.agg #[.slice A F.op.length c, .slice B F.di.length d]) F from ⟨A, c, B, d, rfl, hA, hB⟩) hk0
    have hOk := hO.kp hk0
    have Hn := Lib.hid hn
    have HD := Lib.hid hd
    have HG := Lib.hid hg
    have h7 := (goodF_iff.1 hg).1.2
    have h8 := (goodF_iff.1 hg).2.2.1
    have hwr : IntKind.i64.wrap (2 * (k : Int)) = 2 * (k : Int) := IntWalk.i64_in _ (by omega)
    have hdec : ((n0 : Int) == 2 * (k : Int)) = false := by simp; omega
    have Hlen : Hid (O.length < F.op.length) := by show _ < _; omega
    have htm : (n0 : Int).tmod 2 = (n0 : Int) % 2 := Int.tmod_eq_emod_of_nonneg (by omega)
    have hev : (((n0 : Int) % 2) == 0) = evL O := by
      unfold evL
      rw [Bool.eq_iff_iff, beq_iff_eq, decide_eq_true_eq, hn]
      omega
    clear hA hB hO hn hd hg
    go_enter Tryz.func25, Tryz.ntmps25
    go_wp2_with fail
    have hsz : Hid ((w.alloc (.cells #[.slice A F.op.length c, .slice B F.di.length d] 27)).heap.size = w.heap.size + 1) := by show _ = _; simp
    generalize w.alloc (.cells #[.slice A F.op.length c, .slice B F.di.length d] 27) = wb at *
    have hkb : Kp wb wb := Kp.refl _
    have hkw := hk0
    have q_d0 := hkb.get d0
    have q_d1 := hkb.get d1
    go_wp2_with fail
    obtain ⟨wl, rfl⟩ : ∃ wl : World, wl = wb := ⟨_, rfl⟩
    go_loopw [8, 9, 25] (fun bv sv iv wr => ∃ (j : Nat) (bz sz : Int), j ≤ F.op.length ∧ iv = .int .i64 j ∧ bv = .int .i64 bz ∧ sv = .int .i64 sz ∧ Hid (playTo F n O j = (bz, sz)) ∧ Kp wl wr) (fun _ _ iv _ => F.op.length - (intOf iv).toNat)
    case atStart => exact ⟨0, 0, -1, by omega, rfl, rfl, rfl, rfl, Kp.refl _⟩
    case round =>
      obtain ⟨j, bz, sz, hj, rfl, rfl, rfl, Hst, hkr⟩ := hrel
      obtain ⟨wx, rfl⟩ : ∃ wx : World, wx = wr := ⟨_, rfl⟩
      by_cases hlt : j < F.op.length
      · have CC := Lib.hid (contains_any A0 O n0 c0 (j : Int) wx (hOk.kp hkr) Hn.out)
        go_wp2_with fail
        with_reducible refine Calls.mono CC.out ?_
        rintro e w5 ⟨rfl, hw5⟩
        obtain rfl := hw5
        clear CC
        have hany : (O.any fun x => x == (j : Int)) = decide ((j : Int) ∈ O) := by
          rw [Bool.eq_iff_iff, List.any_eq_true, decide_eq_true_eq]
          exact ⟨fun ⟨x, hx, e⟩ => (eq_of_beq e) ▸ hx, fun h => ⟨_, h, by simp⟩⟩
        rw [hany]
        clear hany
        by_cases hin : (j : Int) ∈ O
        · rw [decide_eq_true hin]
          have Hy : Hid (playTo F n O (j + 1) = (bz, sz)) := by show _ = _; rw [playTo_succ, if_pos hin]; exact Hst.out
          clear hin
          go_wp2_with fail
          go_roundw
          case rel => exact ⟨j + 1, bz, sz, by omega, by go_num, rfl, rfl, Hy, hkr⟩
          case measure => simp [intOf]; omega
        · rw [decide_eq_false hin]
          have Hin := Lib.hid hin
          clear hin
          have Hsucc : Hid (playTo F n O (j + 1) = pstep (evL O) (bz, sz) j (pval F n O j)) := by show _ = _; rw [playTo_succ, if_neg Hin.out, Hst.out]
          have C2 := Lib.hid (fun (w' : World) (hx : Kp wx w') => clone_al A0 O n0 c0 w' (hOk.kp (hkr.trans hx)) Hn.out (by omega))
          have C3 := Lib.hid (fun (w' : World) (hx : Kp wx w') (vb : Value) (ho : Own w' wx.heap.size vb (O ++ [(j : Int)])) => (show Calls Tryz.prog 25 #[.agg #[.slice A F.op.length c, .slice B F.di.length d], .int .i64 (k : Int), vb] w' (fun e w'' => e = .returned (.tuple #[.int .i64 (pval F n O j), .int .i64 (playN F n (O ++ [(j : Int)])).2]) ∧ Kp w' w'') from by
            obtain ⟨Ab, cb, rfl⟩ := ho.shape
            have hl : (O ++ [(j : Int)]).length = n0 + 1 := by rw [List.length_append, Hn.out]; rfl
            rw [hl]
            obtain ⟨X, Y, hd⟩ := HD.out
            refine IH.out _ Ab (O ++ [(j : Int)]) (n0 + 1) cb w' (hFA.kp (hkr.trans hx)) (ho.intsOf (by rw [hl]; omega)) hl (by omega) ?_
            rcases Nat.mod_two_eq_zero_or_one O.length with h0 | h0
            · exact ⟨_, _, hd.one hlt Hin.out h0⟩
            · exact ⟨_, _, hd.two hlt Hin.out h0⟩))
          have hpb := play_bd F n (O ++ [(j : Int)])
          have hpv : pval F n O j = (playN F n (O ++ [(j : Int)])).1 := rfl
          rw [← hpv] at hpb
          obtain ⟨vz, Hvz⟩ : ∃ z, Hid (pval F n O j = z) := ⟨_, Lib.hid rfl⟩
          rw [Hvz.out] at Hsucc C3 hpb
          obtain ⟨uz, Huz⟩ : ∃ z, Hid ((playN F n (O ++ [(j : Int)])).2 = z) := ⟨_, Lib.hid rfl⟩
          rw [Huz.out] at C3
          clear hpv
          obtain ⟨ez, Hez⟩ : ∃ z, Hid (evL O = z) := ⟨_, Lib.hid rfl⟩
          rw [Hez.out] at hev Hsucc
          have hlO : O.length + 1 ≤ 4194304 := by rw [Hn.out]; omega
          have hlO2 : O.length < 1048576 := by rw [Hn.out]; omega
          have hkz : Kp wx wx := Kp.refl _
          have z0 := hkr.get d0
          have z1 := hkr.get d1
          clear q_d0 q_d1
          have q_z0 := hkz.get z0
          have q_z1 := hkz.get z1
          go_wp2_with fail
          clear q_z0 q_z1
          have q_z0 := hkz.get z0
          have q_z1 := hkz.get z1
          have tok1 : True := trivial
          go_wp2_with fail
          go_region_held3 (fun w' => w'.cell? ⟨w.heap.size, 0, none⟩ = some (.slice A F.op.length c) ∧ w'.cell? ⟨w.heap.size, 1, none⟩ = some (.slice B F.di.length d) ∧ Kp wx w')
            (first | (refine keepc2 z0 z1 ?_; exact (by repeat (first | with_reducible assumption | with_reducible exact Kp.refl _ | with_reducible refine Kp.drew ?_ | with_reducible refine Kp.alloc ?_ _ | with_reducible refine Kp.drewN ?_ _ | refine Kp.setCell ?_ (by dsimp only; omega) _))) | fail)
            (first
              | (have _t := tok1; go_at_call 59; with_reducible refine Calls.mono (C2.out _ (by repeat (first | with_reducible assumption | with_reducible exact Kp.refl _ | with_reducible refine Kp.drew ?_ | with_reducible refine Kp.alloc ?_ _ | with_reducible refine Kp.drewN ?_ _ | refine Kp.setCell ?_ (by dsimp only; omega) _))) ?_; rintro e wr1 ⟨bA, bc, rfl, hbo, hka⟩; have hr1 : Kp wx wr1 := Kp.trans (by repeat (first | with_reducible assumption | with_reducible exact Kp.refl _ | with_reducible refine Kp.drew ?_ | with_reducible refine Kp.alloc ?_ _ | with_reducible refine Kp.drewN ?_ _ | refine Kp.setCell ?_ (by dsimp only; omega) _)) hka; have hob := Own.mono hbo (show wx.heap.size ≤ _ from Kp.le (by first | with_reducible assumption | exact (by repeat (first | with_reducible assumption | with_reducible exact Kp.refl _ | with_reducible refine Kp.drew ?_ | with_reducible refine Kp.alloc ?_ _ | with_reducible refine Kp.drewN ?_ _ | refine Kp.setCell ?_ (by dsimp only; omega) _)))); have tok2 : True := trivial; clear tok1 _t)
              | (have _t := tok2; (first | (refine step_app_all (by rfl) (.tmp 35) (.tmp 37) (by rfl) wx.heap.size _ O [(j : Int)] (some ⟨wx.heap.size, 0, none⟩) 1 1 (by rfl) (by rfl) (hob.kp (by repeat (first | with_reducible assumption | with_reducible exact Kp.refl _ | with_reducible refine Kp.drew ?_ | with_reducible refine Kp.alloc ?_ _ | with_reducible refine Kp.drewN ?_ _ | refine Kp.setCell ?_ (by dsimp only; omega) _))) ((one_new wx (j : Int)).kp (Kp.trans (by repeat (first | with_reducible assumption | with_reducible exact Kp.refl _ | with_reducible refine Kp.drew ?_ | with_reducible refine Kp.alloc ?_ _ | with_reducible refine Kp.drewN ?_ _ | refine Kp.setCell ?_ (by dsimp only; omega) _)) hka)) rfl hr1.le hlO ?_; intro v' w' ho' ht' _; have hk4 : Kp wx w' := Own.kp_turn (hob.kp (by repeat (first | with_reducible assumption | with_reducible exact Kp.refl _ | with_reducible refine Kp.drew ?_ | with_reducible refine Kp.alloc ?_ _ | with_reducible refine Kp.drewN ?_ _ | refine Kp.setCell ?_ (by dsimp only; omega) _))) (by repeat (first | with_reducible assumption | with_reducible exact Kp.refl _ | with_reducible refine Kp.drew ?_ | with_reducible refine Kp.alloc ?_ _ | with_reducible refine Kp.drewN ?_ _ | refine Kp.setCell ?_ (by dsimp only; omega) _)) (Nat.le_refl _) ht') | (refine step_app (by rfl) (.tmp 35) (.tmp 37) (by rfl) wx.heap.size _ O (j : Int) _ (by rfl) (by rfl) (by rfl) (hob.kp (by repeat (first | with_reducible assumption | with_reducible exact Kp.refl _ | with_reducible refine Kp.drew ?_ | with_reducible refine Kp.alloc ?_ _ | with_reducible refine Kp.drewN ?_ _ | refine Kp.setCell ?_ (by dsimp only; omega) _))) (Kp.le (by repeat (first | with_reducible assumption | with_reducible exact Kp.refl _ | with_reducible refine Kp.drew ?_ | with_reducible refine Kp.alloc ?_ _ | with_reducible refine Kp.drewN ?_ _ | refine Kp.setCell ?_ (by dsimp only; omega) _))) hlO2 ?_; intro v' w' ho' ht' _; have hk4 : Kp wx w' := Own.kp_turn (hob.kp (by repeat (first | with_reducible assumption | with_reducible exact Kp.refl _ | with_reducible refine Kp.drew ?_ | with_reducible refine Kp.alloc ?_ _ | with_reducible refine Kp.drewN ?_ _ | refine Kp.setCell ?_ (by dsimp only; omega) _))) (by repeat (first | with_reducible assumption | with_reducible exact Kp.refl _ | with_reducible refine Kp.drew ?_ | with_reducible refine Kp.alloc ?_ _ | with_reducible refine Kp.drewN ?_ _ | refine Kp.setCell ?_ (by dsimp only; omega) _)) (Nat.le_refl _) ht')); have tok3 : True := trivial; clear tok2 _t)
              | (have _t := tok3; go_at_call 25; with_reducible refine Calls.mono (C3.out _ (by repeat (first | with_reducible assumption | with_reducible exact Kp.refl _ | with_reducible refine Kp.drew ?_ | with_reducible refine Kp.alloc ?_ _ | with_reducible refine Kp.drewN ?_ _ | refine Kp.setCell ?_ (by dsimp only; omega) _)) _ ho') ?_; rintro e wr3 ⟨rfl, hka⟩; have hr3 : Kp wx wr3 := Kp.trans (by repeat (first | with_reducible assumption | with_reducible exact Kp.refl _ | with_reducible refine Kp.drew ?_ | with_reducible refine Kp.alloc ?_ _ | with_reducible refine Kp.drewN ?_ _ | refine Kp.setCell ?_ (by dsimp only; omega) _)) hka; have tok4 : True := trivial; clear tok3 _t)
              | fail)
          all_goals
            have hkf := hkr.trans hr3
            clear C2 C3 hr1 hbo hob ho' ht' hk4
            by_cases h0 : sz < 0
            · have Hy : Hid (playTo F n O (j + 1) = (vz, (j : Int))) := by show _ = _; rw [Hsucc.out]; exact pstep_yes (.inl h0)
              go_wp2_with fail
              go_roundw
              case rel => exact ⟨j + 1, vz, (j : Int), by omega, by go_num, rfl, rfl, Hy, hkf⟩
              case measure => simp [intOf]; omega
            · cases ez
              · by_cases h1 : vz < bz
                · have Hy : Hid (playTo F n O (j + 1) = (vz, (j : Int))) := by show _ = _; rw [Hsucc.out]; exact pstep_yes (.inr (.inr ⟨rfl, h1⟩))
                  go_wp2_with fail
                  go_roundw
                  case rel => exact ⟨j + 1, vz, (j : Int), by omega, by go_num, rfl, rfl, Hy, hkf⟩
                  case measure => simp [intOf]; omega
                · have Hy : Hid (playTo F n O (j + 1) = (bz, sz)) := by show _ = _; rw [Hsucc.out]; exact pstep_no (fun h => h.elim h0 (fun h => h.elim (fun h => absurd h.1 (by decide)) (fun h => h1 h.2)))
                  go_wp2_with fail
                  go_roundw
                  case rel => exact ⟨j + 1, bz, sz, by omega, by go_num, rfl, rfl, Hy, hkf⟩
                  case measure => simp [intOf]; omega
              · by_cases h1 : bz < vz
                · have Hy : Hid (playTo F n O (j + 1) = (vz, (j : Int))) := by show _ = _; rw [Hsucc.out]; exact pstep_yes (.inr (.inl ⟨rfl, h1⟩))
                  go_wp2_with fail
                  go_roundw
                  case rel => exact ⟨j + 1, vz, (j : Int), by omega, by go_num, rfl, rfl, Hy, hkf⟩
                  case measure => simp [intOf]; omega
                · have Hy : Hid (playTo F n O (j + 1) = (bz, sz)) := by show _ = _; rw [Hsucc.out]; exact pstep_no (fun h => h.elim h0 (fun h => h.elim (fun h => h1 h.2) (fun h => absurd h.1 (by decide))))
                  go_wp2_with fail
                  go_roundw
                  case rel => exact ⟨j + 1, bz, sz, by omega, by go_num, rfl, rfl, Hy, hkf⟩
                  case measure => simp [intOf]; omega
      · obtain rfl : j = F.op.length := by omega
        have Hy : Hid (playN F (n + 1) O = (bz, sz)) := by show _ = _; rw [playN_succ]; exact Hst.out
        go_wp2_with fail
        go_ret2
        exact ⟨by rw [Hy.out]; rfl, hkw.trans hkr⟩
end Go.Proofs.YtblebedejddefaaGreat

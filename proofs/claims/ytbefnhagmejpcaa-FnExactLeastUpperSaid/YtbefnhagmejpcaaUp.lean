/- UpperGain: the reference's upper gain. No condition. -/
import Derived.Test.YtbefnhagmejpcaaUpP
import Derived.Test.YtbefnhagmejpcaaPut3
import Derived.Test.YtbefnhagmejpcaaMore
import Derived.Test.YtbefnhagmejpcaaSlot
namespace Go.Proofs.Ytbefnhagmejpcaa
open Go.RowKit Go.Sort

set_option maxRecDepth 100000 in
set_option maxHeartbeats 2000000 in
theorem l8Upper_any (f : Value) (F : Fld) (worth : Int) (A0 : Option Addr) (S : List Int) (n c0 K : Nat) (w : World) (hf : FldAt w f F) (hS : IntsAt w A0 S) (hn : S.length = n) (hc : n ≤ c0) (hg : goodF F = true) (hs : setB F S = true) (hw0 : 0 ≤ worth) (hw1 : worth ≤ 999) (hK : K ≤ 7) :
    Calls Try.prog 58 #[f, .int .i64 worth, .slice A0 n c0, .int .i64 K] w fun e w' => e = .returned (.int .i64 (upF F worth S K)) ∧ Kp w w' := by
  have h7 := (goodF_iff.1 hg).1.2
  have hAM := Lib.hid (allM_facts hg hw0 hw1 S)
  have hgb := gainF_bd hg hw0 hw1 S
  have hub := Lib.hid (upF_bd hg hw0 hw1 S K)
  obtain ⟨A, c, B, d, rfl, hA, hB⟩ := hf
  have hk0 : Kp w (w.alloc (.cells #[.slice A F.op.length c, .slice B F.di.length d] 29)) := (Kp.refl w).alloc _
  obtain ⟨d0, d1⟩ := box2 w (.slice A F.op.length c) (.slice B F.di.length d) 29
  have hFA := FldAt.kp (show FldAt w (.agg #[.slice A F.op.length c, .slice B F.di.length d]) F from ⟨A, c, B, d, rfl, hA, hB⟩) hk0
  have hS0 := hS.kp hk0
  have HG := Lib.hid hg
  have HS := Lib.hid hs
  have Hn := Lib.hid hn
  clear hS hA hB hg hs hn
  go_enter Try.func58, Try.ntmps58
  go_wp2_with fail
  have hsz : Hid ((w.alloc (.cells #[.slice A F.op.length c, .slice B F.di.length d] 29)).heap.size = w.heap.size + 1) := by show _ = _; simp
  generalize w.alloc (.cells #[.slice A F.op.length c, .slice B F.di.length d] 29) = wb at *
  have hkb : Kp wb wb := Kp.refl _
  have hkw := hk0
  have ho : Own (wb.alloc (.cells #[] 3)) wb.heap.size (.slice (some ⟨w.heap.size + 1, 0, none⟩) 0 0) [] := by
    rw [← hsz.out]; exact own_new0 wb wb.heap.size (Nat.le_refl _)
  have hka : Kp wb (wb.alloc (.cells #[] 3)) := (Kp.refl _).alloc _
  replace hkb := hkb.trans hka
  have CC := Lib.hid (l8Gain_any _ F worth A0 S n c0 _ (hFA.kp hka) (hS0.kp hka) Hn.out HG.out HS.out hw0 hw1)
  with_reducible refine Calls.mono CC.out ?_
  rintro e w1 ⟨rfl, hk1⟩
  clear CC
  replace hkb := hkb.trans hk1
  replace ho := ho.kp hk1
  have q_d0 := hkb.get d0
  have q_d1 := hkb.get d1
  go_wp2_with fail
  go_loopw [9, 11] (fun lv iv wr => ∃ (a : Nat) (L : List Int) (n9 c9 g9 : Nat), a ≤ F.op.length ∧ n9 ≤ a ∧ iv = .int .i64 a ∧ lv = .slice (some ⟨g9, 0, none⟩) n9 c9 ∧ L.length = n9 ∧ Hid (L = desc (margsTo F worth S a)) ∧ Own wr wb.heap.size lv L ∧ Kp wb wr) (fun _ iv _ => F.op.length - (intOf iv).toNat)
  case atStart => exact ⟨0, [], 0, 0, _, by omega, by omega, rfl, rfl, rfl, rfl, ho, hkb⟩
  case round =>
    obtain ⟨a, L, n9, c9, g9, ha, hna, rfl, rfl, hn9, HL, hown, hkb⟩ := hrel
    have Hn9 := Lib.hid hn9
    by_cases hlt : a < F.op.length
    · clear q_d0 q_d1
      have q_d0 := hkb.get d0
      have q_d1 := hkb.get d1
      go_wp2_with fail
      have CC := Lib.hid (l1Has_any A0 S n c0 (a : Int) _ (hS0.kp hkb) Hn.out)
      with_reducible refine Calls.mono CC.out ?_
      rintro e w2 ⟨rfl, hw⟩
      obtain rfl := hw
      clear CC q_d0 q_d1
      cases hh : (S.any fun x => x == (a : Int))
      · have HL2 : Hid (desc (margsTo F worth S (a + 1)) = insD (moreF F worth S a) (desc (margsTo F worth S a))) := by show _ = _; rw [margs_yes hh, desc_snoc]
        clear hh
        have q_d0 := hkb.get d0
        have q_d1 := hkb.get d1
        go_wp2_with fail
        have CC := Lib.hid (l8More_any _ F worth A0 S n c0 (a : Int) _ (hFA.kp hkb) (hS0.kp hkb) Hn.out hc HG.out HS.out hw0 hw1 (by omega) (by omega))
        with_reducible refine Calls.mono CC.out ?_
        rintro e w3 ⟨rfl, hk3⟩
        clear CC q_d0 q_d1
        replace hkb := hkb.trans hk3
        replace hown := hown.kp hk3
        have hmb := moreF_bd HG.out hw0 hw1 S a
        obtain ⟨m, Hm⟩ : ∃ m, Hid (m = moreF F worth S a) := ⟨_, rfl⟩
        rw [← Hm.out] at hmb ⊢
        have Hmy : Hid (insD m L = desc (margsTo F worth S (a + 1))) := by show _ = _; rw [HL2.out, Hm.out, HL.out]
        have Hil : Hid ((insD m L).length = n9 + 1) := by show _ = _; rw [insD_len, Hn9.out]
        obtain ⟨wr, rfl⟩ : ∃ wr : World, wr = w3 := ⟨_, rfl⟩
        have hS := hown.intsOf (by omega)
        have hnc : L.length ≤ c9 := hown.cap rfl
        obtain ⟨ad, had⟩ : ∃ ad : Addr, Hid (ad = ⟨g9, 0, none⟩) := ⟨_, rfl⟩
        rw [← had.out] at hown hS ⊢
        have q_d0 := hkb.get d0
        have q_d1 := hkb.get d1
        go_wp2_with fail
        go_loop [13] (fun iv => ∃ k : Nat, k ≤ n9 ∧ iv = .int .i64 k ∧ Hid (∀ x ∈ L.take k, m ≤ x)) (fun iv => n9 - (intOf iv).toNat)
        case atStart => exact ⟨0, by omega, rfl, by show ∀ x ∈ L.take 0, m ≤ x; simp⟩
        case round =>
          obtain ⟨k, hk, rfl, Hp⟩ := hrel
          have hkc : k ≤ c9 := by omega
          by_cases hltk : k < n9
          · have lx : k < L.length := by rw [Hn9.out]; exact hltk
            have hck := hS.some_ lx
            by_cases h1 : m ≤ L[k]
            · clear q_d0 q_d1
              have q_d0 := hkb.get d0
              have q_d1 := hkb.get d1
              go_wp2_with fail
              go_round
              case rel =>
                refine ⟨k + 1, by omega, by go_num, ?_⟩
                show ∀ x ∈ L.take (k + 1), m ≤ x
                intro x hx
                rw [List.take_succ_eq_append_getElem lx, List.mem_append] at hx
                rcases hx with hx | hx
                · exact Hp.out x hx
                · have : x = L[k] := by simpa using hx
                  omega
              case measure => simp [intOf]; omega
            · have hput := Lib.hid (insD_at (m := m) Hp.out (fun _ => by omega))
              have hlk : (L.take k).length = k := by rw [List.length_take, Hn9.out]; omega
              have hld : (L.drop k).length = n9 - k := by rw [List.length_drop, Hn9.out]
              have hl1 : ([] : List Int).length + (L.take k).length ≤ 4194304 := by rw [hlk]; simp; omega
              have hl2 : (([] : List Int) ++ L.take k).length + [m].length ≤ 4194304 := by rw [List.length_append, hlk]; simp; omega
              have hl3 : (([] : List Int) ++ L.take k).length < 1048576 := by rw [List.length_append, hlk]; simp; omega
              have hl4 : (([] : List Int) ++ L.take k ++ [m]).length + (L.drop k).length ≤ 4194304 := by rw [List.length_append, List.length_append, hlk, hld]; simp; omega
              have hA := Lib.hid ((own_new0 wr _ (Nat.le_refl _)).drew)
              have hAB := Lib.hid ((own_ab wr m).drew)
              have hBA := Lib.hid ((own_ba wr m).drew)
              go_wp2_with fail
              go_region_held3 (fun w' => Kp wr w')
                (first | exact (by repeat (first | with_reducible assumption | with_reducible exact Kp.refl _ | with_reducible refine Kp.drew ?_ | with_reducible refine Kp.alloc ?_ _ | with_reducible refine Kp.drewN ?_ _)) | exact hkA | exact hkA.alloc _ | exact hkB | exact hkC)
                (first
                  | (refine step_app_all (by rfl) (.tmp 49) (.tmp 52) (by rfl) wr.heap.size _ [] (L.take k) (some ad) k c9 (by rfl) (by rfl) hA.out ((hS.take k).kp (by repeat (first | with_reducible assumption | with_reducible exact Kp.refl _ | with_reducible refine Kp.drew ?_ | with_reducible refine Kp.alloc ?_ _ | with_reducible refine Kp.drewN ?_ _))) hlk (by simp) hl1 ?_; intro v1 w1 ho1 ht1 h41; have hkA : Kp wr w1 := hA.out.kp_turn (by repeat (first | with_reducible assumption | with_reducible exact Kp.refl _ | with_reducible refine Kp.drew ?_ | with_reducible refine Kp.alloc ?_ _ | with_reducible refine Kp.drewN ?_ _)) (Nat.le_refl _) ht1)
                  | (refine step_app_all (by rfl) (.tmp 49) (.tmp 52) (by rfl) wr.heap.size _ [] (L.take k) (some ad) k c9 (by rfl) (by rfl) hAB.out ((hS.take k).kp (by repeat (first | with_reducible assumption | with_reducible exact Kp.refl _ | with_reducible refine Kp.drew ?_ | with_reducible refine Kp.alloc ?_ _ | with_reducible refine Kp.drewN ?_ _))) hlk (by simp; omega) hl1 ?_; intro v1 w1 ho1 ht1 h41; have hkA : Kp wr w1 := hAB.out.kp_turn (by repeat (first | with_reducible assumption | with_reducible exact Kp.refl _ | with_reducible refine Kp.drew ?_ | with_reducible refine Kp.alloc ?_ _ | with_reducible refine Kp.drewN ?_ _)) (Nat.le_refl _) ht1; have h1n := one_turn (g := wr.heap.size + 1) ((one_ab wr m).kp (Kp.refl _).drew) ht1 (by simp [Value.ownBlock]) (by simp; try omega))
                  | (refine step_app_all (by rfl) (.tmp 49) (.tmp 52) (by rfl) wr.heap.size _ [] (L.take k) (some ad) k c9 (by rfl) (by rfl) hBA.out ((hS.take k).kp (by repeat (first | with_reducible assumption | with_reducible exact Kp.refl _ | with_reducible refine Kp.drew ?_ | with_reducible refine Kp.alloc ?_ _ | with_reducible refine Kp.drewN ?_ _))) hlk (by simp; omega) hl1 ?_; intro v1 w1 ho1 ht1 h41; have hkA : Kp wr w1 := hBA.out.kp_turn (by repeat (first | with_reducible assumption | with_reducible exact Kp.refl _ | with_reducible refine Kp.drew ?_ | with_reducible refine Kp.alloc ?_ _ | with_reducible refine Kp.drewN ?_ _)) (Nat.le_refl _) ht1; have h1n := one_turn (g := wr.heap.size) ((one_ba wr m).kp (Kp.refl _).drew) ht1 (by simp [Value.ownBlock]) (by simp; try omega))
                  | (refine step_app_all (by rfl) (.tmp 53) (.tmp 55) (by rfl) wr.heap.size v1 ([] ++ L.take k) [m] (some ⟨wr.heap.size + 1, 0, none⟩) 1 1 (by rfl) (by rfl) ho1 h1n rfl hkA.le hl2 ?_; intro v2 w2 ho2 ht2 h42; have hkB : Kp wr w2 := ho1.kp_turn hkA (Nat.le_refl _) ht2)
                  | (refine step_app_all (by rfl) (.tmp 53) (.tmp 55) (by rfl) wr.heap.size v1 ([] ++ L.take k) [m] (some ⟨wr.heap.size, 0, none⟩) 1 1 (by rfl) (by rfl) ho1 h1n rfl hkA.le hl2 ?_; intro v2 w2 ho2 ht2 h42; have hkB : Kp wr w2 := ho1.kp_turn hkA (Nat.le_refl _) ht2)
                  | (refine step_app (by rfl) (.tmp 53) (.tmp 55) (by rfl) wr.heap.size v1 ([] ++ L.take k) m _ (by rfl) (by rfl) (by rfl) ho1 hkA.le hl3 ?_; intro v2 w2 ho2 ht2 h42; have hkB : Kp wr w2 := ho1.kp_turn hkA (Nat.le_refl _) ht2)
                  | (refine step_app_all (by rfl) (.tmp 56) (.tmp 59) (by rfl) wr.heap.size v2 ([] ++ L.take k ++ [m]) (L.drop k) (if c9 = k then some ad else some (ad.add k)) (n9 - k) (c9 - k) (by rfl) (by rfl) ho2 ((hS.tail hnc k).kp hkB) hld hkB.le hl4 ?_; intro v3 w3 ho3 ht3 h43; have hkC : Kp wr w3 := ho2.kp_turn hkB (Nat.le_refl _) ht3))
              all_goals
                have e4 : [] ++ L.take k ++ [m] ++ L.drop k = insD m L := by rw [hput.out]; simp
                rw [e4] at ho3
                obtain ⟨g3, c3, e3⟩ := ho3.at0 (Hil.out ▸ rfl) (Nat.succ_pos n9)
                subst e3
                go_wp2_with fail
                go_roundw
                case rel => exact ⟨a + 1, insD m L, n9 + 1, c3, g3, by omega, by omega, by go_num, rfl, Hil.out, Hmy, ho3.mono hkb.le, hkb.trans hkC⟩
                case measure => simp [intOf]; omega
          · have hput := Lib.hid (insD_at (m := m) Hp.out (fun h => absurd h (by rw [Hn9.out]; omega)))
            have hlk : (L.take k).length = k := by rw [List.length_take, Hn9.out]; omega
            have hld : (L.drop k).length = n9 - k := by rw [List.length_drop, Hn9.out]
            have hl1 : ([] : List Int).length + (L.take k).length ≤ 4194304 := by rw [hlk]; simp; omega
            have hl2 : (([] : List Int) ++ L.take k).length + [m].length ≤ 4194304 := by rw [List.length_append, hlk]; simp; omega
            have hl3 : (([] : List Int) ++ L.take k).length < 1048576 := by rw [List.length_append, hlk]; simp; omega
            have hl4 : (([] : List Int) ++ L.take k ++ [m]).length + (L.drop k).length ≤ 4194304 := by rw [List.length_append, List.length_append, hlk, hld]; simp; omega
            have hA := Lib.hid ((own_new0 wr _ (Nat.le_refl _)).drew)
            have hAB := Lib.hid ((own_ab wr m).drew)
            have hBA := Lib.hid ((own_ba wr m).drew)
            go_wp2_with fail
            go_region_held3 (fun w' => Kp wr w')
              (first | exact (by repeat (first | with_reducible assumption | with_reducible exact Kp.refl _ | with_reducible refine Kp.drew ?_ | with_reducible refine Kp.alloc ?_ _ | with_reducible refine Kp.drewN ?_ _)) | exact hkA | exact hkA.alloc _ | exact hkB | exact hkC)
              (first
                | (refine step_app_all (by rfl) (.tmp 49) (.tmp 52) (by rfl) wr.heap.size _ [] (L.take k) (some ad) k c9 (by rfl) (by rfl) hA.out ((hS.take k).kp (by repeat (first | with_reducible assumption | with_reducible exact Kp.refl _ | with_reducible refine Kp.drew ?_ | with_reducible refine Kp.alloc ?_ _ | with_reducible refine Kp.drewN ?_ _))) hlk (by simp) hl1 ?_; intro v1 w1 ho1 ht1 h41; have hkA : Kp wr w1 := hA.out.kp_turn (by repeat (first | with_reducible assumption | with_reducible exact Kp.refl _ | with_reducible refine Kp.drew ?_ | with_reducible refine Kp.alloc ?_ _ | with_reducible refine Kp.drewN ?_ _)) (Nat.le_refl _) ht1)
                | (refine step_app_all (by rfl) (.tmp 49) (.tmp 52) (by rfl) wr.heap.size _ [] (L.take k) (some ad) k c9 (by rfl) (by rfl) hAB.out ((hS.take k).kp (by repeat (first | with_reducible assumption | with_reducible exact Kp.refl _ | with_reducible refine Kp.drew ?_ | with_reducible refine Kp.alloc ?_ _ | with_reducible refine Kp.drewN ?_ _))) hlk (by simp; omega) hl1 ?_; intro v1 w1 ho1 ht1 h41; have hkA : Kp wr w1 := hAB.out.kp_turn (by repeat (first | with_reducible assumption | with_reducible exact Kp.refl _ | with_reducible refine Kp.drew ?_ | with_reducible refine Kp.alloc ?_ _ | with_reducible refine Kp.drewN ?_ _)) (Nat.le_refl _) ht1; have h1n := one_turn (g := wr.heap.size + 1) ((one_ab wr m).kp (Kp.refl _).drew) ht1 (by simp [Value.ownBlock]) (by simp; try omega))
                | (refine step_app_all (by rfl) (.tmp 49) (.tmp 52) (by rfl) wr.heap.size _ [] (L.take k) (some ad) k c9 (by rfl) (by rfl) hBA.out ((hS.take k).kp (by repeat (first | with_reducible assumption | with_reducible exact Kp.refl _ | with_reducible refine Kp.drew ?_ | with_reducible refine Kp.alloc ?_ _ | with_reducible refine Kp.drewN ?_ _))) hlk (by simp; omega) hl1 ?_; intro v1 w1 ho1 ht1 h41; have hkA : Kp wr w1 := hBA.out.kp_turn (by repeat (first | with_reducible assumption | with_reducible exact Kp.refl _ | with_reducible refine Kp.drew ?_ | with_reducible refine Kp.alloc ?_ _ | with_reducible refine Kp.drewN ?_ _)) (Nat.le_refl _) ht1; have h1n := one_turn (g := wr.heap.size) ((one_ba wr m).kp (Kp.refl _).drew) ht1 (by simp [Value.ownBlock]) (by simp; try omega))
                | (refine step_app_all (by rfl) (.tmp 53) (.tmp 55) (by rfl) wr.heap.size v1 ([] ++ L.take k) [m] (some ⟨wr.heap.size + 1, 0, none⟩) 1 1 (by rfl) (by rfl) ho1 h1n rfl hkA.le hl2 ?_; intro v2 w2 ho2 ht2 h42; have hkB : Kp wr w2 := ho1.kp_turn hkA (Nat.le_refl _) ht2)
                | (refine step_app_all (by rfl) (.tmp 53) (.tmp 55) (by rfl) wr.heap.size v1 ([] ++ L.take k) [m] (some ⟨wr.heap.size, 0, none⟩) 1 1 (by rfl) (by rfl) ho1 h1n rfl hkA.le hl2 ?_; intro v2 w2 ho2 ht2 h42; have hkB : Kp wr w2 := ho1.kp_turn hkA (Nat.le_refl _) ht2)
                | (refine step_app (by rfl) (.tmp 53) (.tmp 55) (by rfl) wr.heap.size v1 ([] ++ L.take k) m _ (by rfl) (by rfl) (by rfl) ho1 hkA.le hl3 ?_; intro v2 w2 ho2 ht2 h42; have hkB : Kp wr w2 := ho1.kp_turn hkA (Nat.le_refl _) ht2)
                | (refine step_app_all (by rfl) (.tmp 56) (.tmp 59) (by rfl) wr.heap.size v2 ([] ++ L.take k ++ [m]) (L.drop k) (if c9 = k then some ad else some (ad.add k)) (n9 - k) (c9 - k) (by rfl) (by rfl) ho2 ((hS.tail hnc k).kp hkB) hld hkB.le hl4 ?_; intro v3 w3 ho3 ht3 h43; have hkC : Kp wr w3 := ho2.kp_turn hkB (Nat.le_refl _) ht3))
            all_goals
              have e4 : [] ++ L.take k ++ [m] ++ L.drop k = insD m L := by rw [hput.out]; simp
              rw [e4] at ho3
              obtain ⟨g3, c3, e3⟩ := ho3.at0 (Hil.out ▸ rfl) (Nat.succ_pos n9)
              subst e3
              go_wp2_with fail
              go_roundw
              case rel => exact ⟨a + 1, insD m L, n9 + 1, c3, g3, by omega, by omega, by go_num, rfl, Hil.out, Hmy, ho3.mono hkb.le, hkb.trans hkC⟩
              case measure => simp [intOf]; omega
      · have HL2 := Lib.hid (margs_no (F := F) (worth := worth) hh)
        clear hh
        have q_d0 := hkb.get d0
        have q_d1 := hkb.get d1
        go_wp2_with fail
        go_roundw
        case rel => exact ⟨a + 1, L, n9, c9, g9, by omega, by omega, by go_num, rfl, hn9, by show _ = _; rw [HL2.out]; exact HL.out, hown, hkb⟩
        case measure => simp [intOf]; omega
    · obtain rfl : a = F.op.length := by omega
      have HL3 : Hid (L = allM F worth S) := HL.out
      have hS9 := hown.intsOf (by omega)
      have hAL := hAM.out
      rw [← HL3.out] at hAL
      have hAq := Lib.hid hAL.2.2
      have hAe := Lib.hid hAL.2.1
      clear hAL
      obtain ⟨ad, had⟩ : ∃ ad : Addr, Hid (ad = ⟨g9, 0, none⟩) := ⟨_, rfl⟩
      rw [← had.out] at hS9 ⊢
      clear q_d0 q_d1
      have q_d0 := hkb.get d0
      have q_d1 := hkb.get d1
      go_wp2_with fail
      go_loop [10, 14] (fun sv iv => ∃ q : Nat, q ≤ K ∧ q ≤ n9 ∧ iv = .int .i64 q ∧ sv = .int .i64 (gainF F worth S + (L.take q).sum)) (fun _ iv => n9 - (intOf iv).toNat)
      case atStart => exact ⟨0, by omega, by omega, rfl, by simp⟩
      case round =>
        obtain ⟨q, hq, hq2, rfl, rfl⟩ := hrel
        by_cases hlq : q < K ∧ q < n9
        · obtain ⟨hl1, hl2⟩ := hlq
          have lx : q < L.length := by rw [Hn9.out]; exact hl2
          have hck := hS9.some_ lx
          have b1 := hAq.out q
          have b2 := hAq.out (q + 1)
          have hsu : Hid ((L.take (q + 1)).sum = (L.take q).sum + L[q]) := by show _ = _; rw [List.take_succ_eq_append_getElem lx, List.sum_append]; simp
          rw [hsu.out] at b2
          have hsu2 : Hid (gainF F worth S + (L.take (q + 1)).sum = gainF F worth S + (L.take q).sum + L[q]) := by show _ = _; rw [hsu.out]; omega
          generalize (L.take q).sum = sq at *
          generalize gainF F worth S = gg at *
          clear q_d0 q_d1
          have q_d0 := hkb.get d0
          have q_d1 := hkb.get d1
          go_wp2_with fail
          go_round
          case rel => exact ⟨q + 1, by omega, by omega, by go_num, by rw [hsu2.out]⟩
          case measure => simp [intOf]; omega
        · have hfin : Hid (gainF F worth S + (L.take q).sum = upF F worth S K) := by
            show _ = _
            rw [upF, ← HL3.out]
            by_cases h : q < K
            · rw [show q = n9 from by omega, List.take_of_length_le (by rw [Hn9.out]; omega), List.take_of_length_le (by rw [Hn9.out]; omega)]
            · rw [show q = K from by omega]
          rw [hfin.out]
          by_cases hK2 : q < K
          · have hK3 : ¬ q < n9 := fun h => hlq ⟨hK2, h⟩
            clear q_d0 q_d1
            have q_d0 := hkb.get d0
            have q_d1 := hkb.get d1
            go_wp2_with fail
            go_ret
            exact ⟨rfl, hkw.trans hkb⟩
          · clear q_d0 q_d1
            have q_d0 := hkb.get d0
            have q_d1 := hkb.get d1
            go_wp2_with fail
            go_ret
            exact ⟨rfl, hkw.trans hkb⟩
end Go.Proofs.Ytbefnhagmejpcaa

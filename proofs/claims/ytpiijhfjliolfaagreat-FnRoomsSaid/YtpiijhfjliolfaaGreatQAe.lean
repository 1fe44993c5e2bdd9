/- All sets of some sites in their order, as the reference tells them; The first set of which something is so, as a loop over all codes finds it; Gains of sets: the program's answer and the reference's; Fields with a set of at least one site: the program's test and the reference's. No condition. -/
import Derived.Test.YtpiijhfjliolfaaGreatQAd
import Derived.Deep.RegionHeld3
import Derived.Test.YtpiijhfjliolfaaGreatQAc
namespace Go.Proofs.YtpiijhfjliolfaaGreat
open Go.RowKit Go.Sort Go.Shelf

theorem rowsTo_mem {n k : Nat} {S : List Int} (h : S ∈ rowsTo n k) : ∃ c, c < k ∧ S = bitsL n (c + 1) := by
  simp only [rowsTo, List.mem_map, List.mem_range] at h
  obtain ⟨c, hc, rfl⟩ := h
  exact ⟨c, hc, rfl⟩
/-- One more set, put where it belongs. -/
theorem ins_sorted {rows : List (List Int)} {S : List Int} {k : Nat} (hs : rows.Pairwise (fun a b => befB a b = true)) (hk : k ≤ rows.length) (h1 : ∀ j (hj : j < rows.length), k ≤ j → befB S rows[j] = true) (h2 : 0 < k → befB S (rows.getD (k - 1) []) = false) (hn : S ∉ rows) :
    (rows.take k ++ [S] ++ rows.drop k).Pairwise (fun a b => befB a b = true) := by
  have hb : ∀ x ∈ rows.take k, befB x S = true := by
    intro x hx
    obtain ⟨j, hj, rfl⟩ := List.getElem_of_mem hx
    have hj2 : j < k := by simp at hj; omega
    have hj3 : j < rows.length := by omega
    rw [List.getElem_take]
    have h3 := h2 (by omega)
    have e4 : rows.getD (k - 1) [] = rows[k - 1]'(by omega) := by simp [List.getD, show k - 1 < rows.length by omega]
    rw [e4] at h3
    have hlast : befB (rows[k - 1]'(by omega)) S = true := by
      cases hh : befB (rows[k - 1]'(by omega)) S with
      | true => rfl
      | false => exact absurd (befB_total h3 hh) (fun e => hn (e ▸ List.getElem_mem _))
    rcases Nat.lt_or_ge j (k - 1) with h | h
    · exact befB_trans (List.pairwise_iff_getElem.1 hs j (k - 1) hj3 (by omega) h) hlast
    · have e : j = k - 1 := by omega
      subst e; exact hlast
  have ha : ∀ x ∈ rows.drop k, befB S x = true := by
    intro x hx
    obtain ⟨j, hj, rfl⟩ := List.getElem_of_mem hx
    have hj2 : k + j < rows.length := by simp at hj; omega
    rw [List.getElem_drop]
    exact h1 _ hj2 (by omega)
  rw [List.append_assoc, List.pairwise_append]
  refine ⟨hs.sublist (List.take_sublist _ _), ?_, ?_⟩
  · rw [List.singleton_append, List.pairwise_cons]
    exact ⟨ha, hs.sublist (List.drop_sublist _ _)⟩
  · intro x hx y hy
    rcases List.mem_append.1 hy with hy | hy
    · have : y = S := by simpa using hy
      subst this; exact hb x hx
    · obtain ⟨i, hi, rfl⟩ := List.getElem_of_mem hx
      obtain ⟨j, hj, rfl⟩ := List.getElem_of_mem hy
      have hi2 : i < k := by simp at hi; omega
      have hj2 : k + j < rows.length := by simp at hj; omega
      rw [List.getElem_take, List.getElem_drop]
      exact List.pairwise_iff_getElem.1 hs i (k + j) (by omega) hj2 (by omega)
theorem ins_perm {rows l : List (List Int)} {S : List Int} (k : Nat) (h : rows.Perm l) : (rows.take k ++ [S] ++ rows.drop k).Perm (l ++ [S]) := by
  have h1 : (rows.take k ++ [S] ++ rows.drop k).Perm (S :: rows) := by
    rw [List.append_assoc, List.singleton_append]
    refine List.perm_middle.trans ?_
    rw [List.take_append_drop]
  exact h1.trans ((List.Perm.cons S h).trans (List.perm_append_singleton S l).symm)
theorem fresh_code {n c : Nat} {rows : List (List Int)} (hc : c + 1 < 2 ^ n) (hp : rows.Perm (rowsTo n c)) : bitsL n (c + 1) ∉ rows := by
  intro h
  obtain ⟨d, hd, e⟩ := rowsTo_mem (hp.mem_iff.1 h)
  have := bitsL_inj (by omega) (by omega) e
  omega
theorem gown_ab (w : World) (lo : Option Nat) (o : Obj) : GOwn ((w.alloc (.cells #[] 24)).alloc o) lo w.heap.size (.slice (some ⟨w.heap.size, 0, none⟩) 0 0) [] :=
  (gown_new w lo _ (Nat.le_refl _)).kp ((Kp.refl _).alloc _)
theorem gown_ba (w : World) (lo : Option Nat) (o : Obj) : GOwn ((w.alloc o).alloc (.cells #[] 24)) lo w.heap.size (.slice (some ⟨w.heap.size + 1, 0, none⟩) 0 0) [] := by
  have := gown_new (w.alloc o) lo w.heap.size (by simp)
  simpa using this
theorem hd_ab (w : World) (u : Value) : ((w.alloc (.cells #[] 24)).alloc (.cells #[u] 24)).cell? ⟨w.heap.size + 1, 0, none⟩ = some u := by
  rw [World.cell?_alloc_at _ _ _ _ (by simp)]; rfl
theorem hd_ba (w : World) (u : Value) : ((w.alloc (.cells #[u] 24)).alloc (.cells #[] 24)).cell? ⟨w.heap.size, 0, none⟩ = some u :=
  ((Kp.refl _).alloc _).get (by rw [World.cell?_alloc_at _ _ _ _ rfl]; rfl)
theorem cell_turn {T : Nat → Prop} {W w' : World} {p : Addr} {u : Value} (h : W.cell? p = some u) (ht : Turn T W w') (hg : ¬ T p.block) : w'.cell? p = some u := by
  have hb : p.block < W.heap.size := World.block_lt_of_cell? _ _ h
  rw [World.cell?_of_block (ht.block p.block hb hg)]; exact h
theorem Kp.turn_new {w0 W w' : World} {lo : Option Nat} {v : Value} {rows : List (List Int)} (_ : Kp w0 w0) (h : Kp w0 W) (ht : Turn (fun i => v.ownBlock = some i) W w') (ho : GOwn W lo w0.heap.size v rows) : Kp w0 w' :=
  ho.kp_turn h (Nat.le_refl _) ht
set_option maxRecDepth 100000 in
set_option maxHeartbeats 4000000 in
theorem l2Sets_any (n : Nat) (w : World) (hn : n ≤ 7) :
    Calls Tryz.prog 41 #[.int .i64 n] w fun e w' => ∃ v, e = .returned v ∧ v ≠ .slice none 0 0 ∧ GOwn w' (some w.heap.size) w.heap.size v (setsL n) ∧ Kp w w' := by
  obtain ⟨P, HP, hpw, hP⟩ := pow_wrap (n : Int) (by omega) (by omega)
  rw [Int.toNat_natCast] at hpw
  have HP' : Hid (P = 2 ^ n) := by show P = _; simpa using HP.out
  have hP1 : 1 ≤ P := by rw [HP'.out]; exact Nat.one_le_two_pow
  go_enter Tryz.func41, Tryz.ntmps41
  go_wp2_with fail
  go_loopw [3, 4] (fun ov bv wr => ∃ (b : Nat) (rows : List (List Int)), 1 ≤ b ∧ b ≤ P ∧ bv = .int .i64 (b : Nat) ∧ Hid (ov ≠ .slice none 0 0) ∧ GOwn wr (some w.heap.size) w.heap.size ov rows ∧ Hid (rows.length = b - 1) ∧ Hid (rows.Perm (rowsTo n (b - 1)) ∧ rows.Pairwise (fun x y => befB x y = true)) ∧ Kp w wr) (fun _ bv _ => P - (intOf bv).toNat)
  case atStart => exact ⟨1, [], by omega, by omega, rfl, by show _ ≠ _; simp, gown_new w _ w.heap.size (Nat.le_refl _), rfl, ⟨List.Perm.refl _, List.Pairwise.nil⟩, (Kp.refl _).alloc _⟩
  case round =>
    obtain ⟨b, rows, hb1, hk, rfl, Hv, hown, HL, HR, hkb⟩ := hrel
    obtain ⟨ad, cap, rfl, hcap, hrw⟩ := hown.rows_some (by rw [HL.out]; omega) Hv.out
    by_cases hlt : b < P
    · have hb : b < 2 ^ n := by rw [← HP'.out]; exact hlt
      have HF := Lib.hid (fresh_code (n := n) (c := b - 1) (by omega) HR.out.1)
      rw [Nat.sub_add_cancel hb1] at HF
      clear hb
      have hl7 : rows.length < 128 := by rw [HL.out]; omega
      have hkw0 := hkb
      go_wp2_with fail
      have CC := Lib.hid (l2Bits_any n b wr (by omega) (by omega))
      with_reducible refine Calls.mono CC.out ?_
      rintro e w1 ⟨v, rfl, ho, hk1⟩
      clear CC
      replace hkb := hkb.trans hk1
      replace hown := hown.kp hk1
      replace hrw := hrw.kp hk1
      obtain ⟨Av, cv, hve, hiv⟩ := ho.ints (by have := bitsL_len n b; omega)
      have hcv := ho.capL hve
      have hrp := (RowP.of_own ho (by have := bitsL_len n b; omega)).mono (b' := w.heap.size) hkw0.le
      subst hve
      generalize hrl : rows.length = m at *
      go_wp2_with fail
      obtain ⟨wo, rfl⟩ : ∃ wo : World, wo = wr := ⟨_, rfl⟩
      obtain ⟨w5, rfl⟩ : ∃ w5 : World, w5 = w1 := ⟨_, rfl⟩
      go_loopw [6] (fun kv wr => ∃ k : Nat, k ≤ m ∧ kv = .int .i64 k ∧ Hid (∀ j (hj : j < rows.length), k ≤ j → befB (bitsL n b) rows[j] = true) ∧ Dr w5 wr) (fun kv _ => (intOf kv).toNat)
      case atStart => exact ⟨m, Nat.le_refl _, rfl, by show ∀ j (hj : j < rows.length), _ → _; intro j hj h; omega, Dr.refl _⟩
      case round =>
        obtain ⟨k, hkm, rfl, Hbf, hdr⟩ := hrel
        have hrw' := hrw.kp hdr.kp
        have hiv' := hiv.kp hdr.kp
        by_cases h0 : 0 < k
        · obtain ⟨j, rfl⟩ : ∃ j, k = j + 1 := ⟨k - 1, by omega⟩
          have lx : j < rows.length := by omega
          obtain ⟨A2, c2, hcl, hc2, hri, _⟩ := hrw'.some_ lx
          go_wp2_with fail
          have CC := Lib.hid (l2Before_any Av A2 (bitsL n b) rows[j] _ _ cv c2 wr hiv' rfl hri rfl)
          with_reducible refine Calls.mono CC.out ?_
          rintro e w2 ⟨rfl, hd2⟩
          have hk2 := hd2.kp
          clear CC
          cases hbb : befB (bitsL n b) rows[j]
          · have Hb0 := Lib.hid hbb
            clear hbb
            have hrz := hrw'.kp hk2
            have hiz := (hrp.kp hdr.kp).kp hk2
            have hdz := hdr.trans hd2
            have hkc : j + 1 ≤ cap := by omega

            have Hj : Hid (0 < j + 1 → befB (bitsL n b) (rows.getD (j + 1 - 1) []) = false) := by
              show 0 < j + 1 → _
              intro _
              have e4 : rows.getD (j + 1 - 1) [] = rows[j] := by simp [List.getD, lx]
              rw [e4]
              exact Hb0.out
            clear hcl hc2 hri hrw' hiv'
            clear h0 Hb0
            generalize hjk : j + 1 = k at *
            clear hjk
            have hkw := hkb
            have hA := Lib.hid ((gown_new w2 (some w.heap.size) w2.heap.size (Nat.le_refl _)).drew)
            have hAB := Lib.hid ((gown_ab w2 (some w.heap.size) (.cells #[(.slice Av (bitsL n b).length cv)] 24)).drew)
            have hBA := Lib.hid ((gown_ba w2 (some w.heap.size) (.cells #[(.slice Av (bitsL n b).length cv)] 24)).drew)
            have cAB := Lib.hid (hd_ab w2 (.slice Av (bitsL n b).length cv))
            have cBA := Lib.hid (hd_ba w2 (.slice Av (bitsL n b).length cv))
            have hT1 := Lib.hid (hrz.take (k))
            have hT2 := Lib.hid (hrz.tail (c := cap) (by rw [hrl]; exact hcap) (k))
            have hkz : Kp w2 w2 := Kp.refl _
            have hlk : (rows.take (k)).length = k := by rw [List.length_take, hrl]; omega
            have hld : (rows.drop (k)).length = m - (k) := by rw [List.length_drop, hrl]
            have hl1 : ([] : List (List Int)).length + (rows.take (k)).length ≤ 4194304 := by rw [hlk]; simp <;> omega
            have hl2 : (([] : List (List Int)) ++ rows.take (k)).length < 1048576 := by rw [List.length_append, hlk]; simp <;> omega
            have hl4 : (([] : List (List Int)) ++ rows.take (k) ++ [bitsL n b]).length + (rows.drop (k)).length ≤ 4194304 := by rw [List.length_append, List.length_append, hlk, hld]; simp <;> omega
            go_wp2_with fail
            go_region_held3 (fun w' => Kp w2 w')
              (first | exact (by repeat (first | with_reducible assumption | with_reducible exact Kp.refl _ | with_reducible refine Kp.drew ?_ | with_reducible refine Kp.alloc ?_ _ | with_reducible refine Kp.drewN ?_ _ | refine Kp.setCell ?_ (by dsimp only; omega) _)) | exact hkA | exact hkA.alloc _ | exact hkB | exact hkC)
              (first
                | (refine step_appg_all (W0 := w2) (by rfl) (.tmp 32) (.tmp 35) (by rfl) w2.heap.size _ [] (rows.take (k)) (some ad) (k) cap (by rfl) (by rfl) hA.out hT1.out (by repeat (first | with_reducible assumption | with_reducible exact Kp.refl _ | with_reducible refine Kp.drew ?_ | with_reducible refine Kp.alloc ?_ _ | with_reducible refine Kp.drewN ?_ _ | refine Kp.setCell ?_ (by dsimp only; omega) _)) (Nat.le_refl _) hlk (by simp) hl1 ?_; intro v1 wx1 ho1 ht1 h41; have hkA : Kp w2 wx1 := hkz.turn_new (by repeat (first | with_reducible assumption | with_reducible exact Kp.refl _ | with_reducible refine Kp.drew ?_ | with_reducible refine Kp.alloc ?_ _ | with_reducible refine Kp.drewN ?_ _ | refine Kp.setCell ?_ (by dsimp only; omega) _)) ht1 hA.out)
                | (refine step_appg_all (W0 := w2) (by rfl) (.tmp 32) (.tmp 35) (by rfl) w2.heap.size _ [] (rows.take (k)) (some ad) (k) cap (by rfl) (by rfl) hAB.out hT1.out (by repeat (first | with_reducible assumption | with_reducible exact Kp.refl _ | with_reducible refine Kp.drew ?_ | with_reducible refine Kp.alloc ?_ _ | with_reducible refine Kp.drewN ?_ _ | refine Kp.setCell ?_ (by dsimp only; omega) _)) (Nat.le_refl _) hlk (by simp; omega) hl1 ?_; intro v1 wx1 ho1 ht1 h41; have hkA : Kp w2 wx1 := hkz.turn_new (by repeat (first | with_reducible assumption | with_reducible exact Kp.refl _ | with_reducible refine Kp.drew ?_ | with_reducible refine Kp.alloc ?_ _ | with_reducible refine Kp.drewN ?_ _ | refine Kp.setCell ?_ (by dsimp only; omega) _)) ht1 hAB.out; have h1n := cell_turn (p := ⟨w2.heap.size + 1, 0, none⟩) ((Kp.refl _).drew.get cAB.out) ht1 (by simp [Value.ownBlock]))
                | (refine step_appg_all (W0 := w2) (by rfl) (.tmp 32) (.tmp 35) (by rfl) w2.heap.size _ [] (rows.take (k)) (some ad) (k) cap (by rfl) (by rfl) hBA.out hT1.out (by repeat (first | with_reducible assumption | with_reducible exact Kp.refl _ | with_reducible refine Kp.drew ?_ | with_reducible refine Kp.alloc ?_ _ | with_reducible refine Kp.drewN ?_ _ | refine Kp.setCell ?_ (by dsimp only; omega) _)) (Nat.le_refl _) hlk (by simp; omega) hl1 ?_; intro v1 wx1 ho1 ht1 h41; have hkA : Kp w2 wx1 := hkz.turn_new (by repeat (first | with_reducible assumption | with_reducible exact Kp.refl _ | with_reducible refine Kp.drew ?_ | with_reducible refine Kp.alloc ?_ _ | with_reducible refine Kp.drewN ?_ _ | refine Kp.setCell ?_ (by dsimp only; omega) _)) ht1 hBA.out; have h1n := cell_turn (p := ⟨w2.heap.size, 0, none⟩) ((Kp.refl _).drew.get cBA.out) ht1 (by simp [Value.ownBlock]))
                | (refine step_appg_all (W0 := w2) (by rfl) (.tmp 39) (.tmp 42) (by rfl) w2.heap.size v2 ([] ++ rows.take (k) ++ [bitsL n b]) (rows.drop (k)) (if cap = k then some ad else some (ad.add (k))) (m - (k)) (cap - (k)) (by rfl) (by rfl) ho2 hT2.out hkB (Nat.le_refl _) hld hkB.le hl4 ?_; intro v3 wx3 ho3 ht3 h43; have hkC : Kp w2 wx3 := ho2.kp_turn hkB (Nat.le_refl _) ht3)
                | (refine step_appg (by rfl) (.tmp 36) (.tmp 38) (by rfl) w2.heap.size v1 ([] ++ rows.take (k)) (bitsL n b) (.slice Av (bitsL n b).length cv) ⟨w2.heap.size + 1, 0, none⟩ (by rfl) (by rfl) ho1 (hiz.kp hkA) h1n (apart_old hiz ho1 (Nat.le_refl _)) hkA.le hl2 ?_; intro v2 wx2 ho2 ht2 h42; have hkB : Kp w2 wx2 := ho1.kp_turn hkA (Nat.le_refl _) ht2)
                | (refine step_appg (by rfl) (.tmp 36) (.tmp 38) (by rfl) w2.heap.size v1 ([] ++ rows.take (k)) (bitsL n b) (.slice Av (bitsL n b).length cv) ⟨w2.heap.size, 0, none⟩ (by rfl) (by rfl) ho1 (hiz.kp hkA) h1n (apart_old hiz ho1 (Nat.le_refl _)) hkA.le hl2 ?_; intro v2 wx2 ho2 ht2 h42; have hkB : Kp w2 wx2 := ho1.kp_turn hkA (Nat.le_refl _) ht2)
                | (refine step_appg (by rfl) (.tmp 36) (.tmp 38) (by rfl) w2.heap.size v1 ([] ++ rows.take (k)) (bitsL n b) (.slice Av (bitsL n b).length cv) ⟨wx1.heap.size, 0, none⟩ (by rfl) (by rfl) ho1.one_kp (hiz.kp (hkA.alloc _)) (by rw [World.cell?_alloc_at _ _ _ _ rfl]; rfl) (apart_old hiz ho1 (Nat.le_refl _)) (hkA.alloc _).le hl2 ?_; intro v2 wx2 ho2 ht2 h42; have hkB : Kp w2 wx2 := ho1.one_kp.kp_turn (hkA.alloc _) (Nat.le_refl _) ht2))
            all_goals
              go_wp2_with fail
              go_roundw
              case rel =>
                have hst : rowsTo n (b + 1 - 1) = rowsTo n (b - 1) ++ [bitsL n b] := by
                  have := rowsTo_succ n (b - 1)
                  rw [show b - 1 + 1 = b by omega] at this
                  exact this
                have e0 : [] ++ rows.take (k) ++ [bitsL n b] ++ rows.drop (k) = rows.take (k) ++ [bitsL n b] ++ rows.drop (k) := by simp
                rw [e0] at ho3
                exact ⟨b + 1, _, by omega, by omega, by go_num, ho3.not_nil (by simp), ho3.mono (hkw.trans hdz.kp).le, by show _ = b + 1 - 1; rw [List.length_append, List.length_append, hlk, hld]; have := HL.out; simp; omega, ⟨by rw [hst]; exact ins_perm _ HR.out.1, ins_sorted HR.out.2 (by omega) (fun i hi h => Hbf.out i hi h) Hj.out HF.out⟩, (hkw.trans hdz.kp).trans hkC⟩
              case measure => simp [intOf]; omega
          · have Hb0 := Lib.hid hbb
            clear hbb
            go_wp2_with fail
            go_roundw
            case rel => exact ⟨j, by omega, by go_num, by show ∀ i (hi : i < rows.length), _ → _; intro i hi h; rcases Nat.eq_or_lt_of_le h with e | e; (subst e; exact Hb0.out); exact Hbf.out i hi e, hdr.trans hd2⟩
            case measure => simp [intOf] <;> omega
        · have hkw := hkb
          have hkc : k ≤ cap := by omega
          have hA := Lib.hid ((gown_new wr (some w.heap.size) wr.heap.size (Nat.le_refl _)).drew)
          have hAB := Lib.hid ((gown_ab wr (some w.heap.size) (.cells #[(.slice Av (bitsL n b).length cv)] 24)).drew)
          have hBA := Lib.hid ((gown_ba wr (some w.heap.size) (.cells #[(.slice Av (bitsL n b).length cv)] 24)).drew)
          have cAB := Lib.hid (hd_ab wr (.slice Av (bitsL n b).length cv))
          have cBA := Lib.hid (hd_ba wr (.slice Av (bitsL n b).length cv))
          have hT1 := Lib.hid (hrw'.take (k))
          have hT2 := Lib.hid (hrw'.tail (c := cap) (by rw [hrl]; exact hcap) (k))
          have hkz : Kp wr wr := Kp.refl _
          have hlk : (rows.take (k)).length = k := by rw [List.length_take, hrl]; omega
          have hld : (rows.drop (k)).length = m - (k) := by rw [List.length_drop, hrl]
          have hl1 : ([] : List (List Int)).length + (rows.take (k)).length ≤ 4194304 := by rw [hlk]; simp <;> omega
          have hl2 : (([] : List (List Int)) ++ rows.take (k)).length < 1048576 := by rw [List.length_append, hlk]; simp <;> omega
          have hl4 : (([] : List (List Int)) ++ rows.take (k) ++ [bitsL n b]).length + (rows.drop (k)).length ≤ 4194304 := by rw [List.length_append, List.length_append, hlk, hld]; simp <;> omega
          go_wp2_with fail
          go_region_held3 (fun w' => Kp wr w')
            (first | exact (by repeat (first | with_reducible assumption | with_reducible exact Kp.refl _ | with_reducible refine Kp.drew ?_ | with_reducible refine Kp.alloc ?_ _ | with_reducible refine Kp.drewN ?_ _ | refine Kp.setCell ?_ (by dsimp only; omega) _)) | exact hkA | exact hkA.alloc _ | exact hkB | exact hkC)
            (first
              | (refine step_appg_all (W0 := wr) (by rfl) (.tmp 32) (.tmp 35) (by rfl) wr.heap.size _ [] (rows.take (k)) (some ad) (k) cap (by rfl) (by rfl) hA.out hT1.out (by repeat (first | with_reducible assumption | with_reducible exact Kp.refl _ | with_reducible refine Kp.drew ?_ | with_reducible refine Kp.alloc ?_ _ | with_reducible refine Kp.drewN ?_ _ | refine Kp.setCell ?_ (by dsimp only; omega) _)) (Nat.le_refl _) hlk (by simp) hl1 ?_; intro v1 wx1 ho1 ht1 h41; have hkA : Kp wr wx1 := hkz.turn_new (by repeat (first | with_reducible assumption | with_reducible exact Kp.refl _ | with_reducible refine Kp.drew ?_ | with_reducible refine Kp.alloc ?_ _ | with_reducible refine Kp.drewN ?_ _ | refine Kp.setCell ?_ (by dsimp only; omega) _)) ht1 hA.out)
              | (refine step_appg_all (W0 := wr) (by rfl) (.tmp 32) (.tmp 35) (by rfl) wr.heap.size _ [] (rows.take (k)) (some ad) (k) cap (by rfl) (by rfl) hAB.out hT1.out (by repeat (first | with_reducible assumption | with_reducible exact Kp.refl _ | with_reducible refine Kp.drew ?_ | with_reducible refine Kp.alloc ?_ _ | with_reducible refine Kp.drewN ?_ _ | refine Kp.setCell ?_ (by dsimp only; omega) _)) (Nat.le_refl _) hlk (by simp; omega) hl1 ?_; intro v1 wx1 ho1 ht1 h41; have hkA : Kp wr wx1 := hkz.turn_new (by repeat (first | with_reducible assumption | with_reducible exact Kp.refl _ | with_reducible refine Kp.drew ?_ | with_reducible refine Kp.alloc ?_ _ | with_reducible refine Kp.drewN ?_ _ | refine Kp.setCell ?_ (by dsimp only; omega) _)) ht1 hAB.out; have h1n := cell_turn (p := ⟨wr.heap.size + 1, 0, none⟩) ((Kp.refl _).drew.get cAB.out) ht1 (by simp [Value.ownBlock]))
              | (refine step_appg_all (W0 := wr) (by rfl) (.tmp 32) (.tmp 35) (by rfl) wr.heap.size _ [] (rows.take (k)) (some ad) (k) cap (by rfl) (by rfl) hBA.out hT1.out (by repeat (first | with_reducible assumption | with_reducible exact Kp.refl _ | with_reducible refine Kp.drew ?_ | with_reducible refine Kp.alloc ?_ _ | with_reducible refine Kp.drewN ?_ _ | refine Kp.setCell ?_ (by dsimp only; omega) _)) (Nat.le_refl _) hlk (by simp; omega) hl1 ?_; intro v1 wx1 ho1 ht1 h41; have hkA : Kp wr wx1 := hkz.turn_new (by repeat (first | with_reducible assumption | with_reducible exact Kp.refl _ | with_reducible refine Kp.drew ?_ | with_reducible refine Kp.alloc ?_ _ | with_reducible refine Kp.drewN ?_ _ | refine Kp.setCell ?_ (by dsimp only; omega) _)) ht1 hBA.out; have h1n := cell_turn (p := ⟨wr.heap.size, 0, none⟩) ((Kp.refl _).drew.get cBA.out) ht1 (by simp [Value.ownBlock]))
              | (refine step_appg_all (W0 := wr) (by rfl) (.tmp 39) (.tmp 42) (by rfl) wr.heap.size v2 ([] ++ rows.take (k) ++ [bitsL n b]) (rows.drop (k)) (if cap = k then some ad else some (ad.add (k))) (m - (k)) (cap - (k)) (by rfl) (by rfl) ho2 hT2.out hkB (Nat.le_refl _) hld hkB.le hl4 ?_; intro v3 wx3 ho3 ht3 h43; have hkC : Kp wr wx3 := ho2.kp_turn hkB (Nat.le_refl _) ht3)
              | (refine step_appg (by rfl) (.tmp 36) (.tmp 38) (by rfl) wr.heap.size v1 ([] ++ rows.take (k)) (bitsL n b) (.slice Av (bitsL n b).length cv) ⟨wr.heap.size + 1, 0, none⟩ (by rfl) (by rfl) ho1 ((hrp.kp hdr.kp).kp hkA) h1n (apart_old (hrp.kp hdr.kp) ho1 (Nat.le_refl _)) hkA.le hl2 ?_; intro v2 wx2 ho2 ht2 h42; have hkB : Kp wr wx2 := ho1.kp_turn hkA (Nat.le_refl _) ht2)
              | (refine step_appg (by rfl) (.tmp 36) (.tmp 38) (by rfl) wr.heap.size v1 ([] ++ rows.take (k)) (bitsL n b) (.slice Av (bitsL n b).length cv) ⟨wr.heap.size, 0, none⟩ (by rfl) (by rfl) ho1 ((hrp.kp hdr.kp).kp hkA) h1n (apart_old (hrp.kp hdr.kp) ho1 (Nat.le_refl _)) hkA.le hl2 ?_; intro v2 wx2 ho2 ht2 h42; have hkB : Kp wr wx2 := ho1.kp_turn hkA (Nat.le_refl _) ht2)
              | (refine step_appg (by rfl) (.tmp 36) (.tmp 38) (by rfl) wr.heap.size v1 ([] ++ rows.take (k)) (bitsL n b) (.slice Av (bitsL n b).length cv) ⟨wx1.heap.size, 0, none⟩ (by rfl) (by rfl) ho1.one_kp ((hrp.kp hdr.kp).kp (hkA.alloc _)) (by rw [World.cell?_alloc_at _ _ _ _ rfl]; rfl) (apart_old (hrp.kp hdr.kp) ho1 (Nat.le_refl _)) (hkA.alloc _).le hl2 ?_; intro v2 wx2 ho2 ht2 h42; have hkB : Kp wr wx2 := ho1.one_kp.kp_turn (hkA.alloc _) (Nat.le_refl _) ht2))
          all_goals
            go_wp2_with fail
            go_roundw
            case rel =>
              have hst : rowsTo n (b + 1 - 1) = rowsTo n (b - 1) ++ [bitsL n b] := by
                have := rowsTo_succ n (b - 1)
                rw [show b - 1 + 1 = b by omega] at this
                exact this
              have e0 : [] ++ rows.take (k) ++ [bitsL n b] ++ rows.drop (k) = rows.take (k) ++ [bitsL n b] ++ rows.drop (k) := by simp
              rw [e0] at ho3
              exact ⟨b + 1, _, by omega, by omega, by go_num, ho3.not_nil (by simp), ho3.mono (hkw.trans hdr.kp).le, by show _ = b + 1 - 1; rw [List.length_append, List.length_append, hlk, hld]; have := HL.out; simp; omega, ⟨by rw [hst]; exact ins_perm _ HR.out.1, ins_sorted HR.out.2 (by omega) (fun i hi h => Hbf.out i hi h) (fun h => absurd h (by omega)) HF.out⟩, (hkw.trans hdr.kp).trans hkC⟩
            case measure => simp [intOf]; omega
    · have hkp : Hid (rows = setsL n) := by
        have h1 := HR.out.1
        rw [show b = P by omega, HP'.out] at h1
        exact setsL_uniq h1 HR.out.2
      go_wp2_with fail
      go_ret
      exact ⟨_, rfl, Hv.out, by rw [← hkp.out]; exact hown, hkb⟩
end Go.Proofs.YtpiijhfjliolfaaGreat

namespace Go.Proofs.YtpiijhfjliolfaaGreat
open Go.RowKit Go.Sort

theorem find_at {l : List (List Int)} {p : List Int → Bool} {k : Nat} (hk : k < l.length) (h1 : ∀ x ∈ l.take k, p x = false) (h2 : p l[k] = true) : l.find? p = some l[k] := by
  have e : l = l.take k ++ l[k] :: l.drop (k + 1) := by rw [List.getElem_cons_drop, List.take_append_drop]
  conv => lhs; rw [e]
  rw [List.find?_append]
  have : (l.take k).find? p = none := List.find?_eq_none.2 (fun x hx => by simp [h1 x hx])
  rw [this, Option.none_or, List.find?_cons_of_pos h2]
theorem find_no {l : List (List Int)} {p : List Int → Bool} (h1 : ∀ x ∈ l, p x = false) : l.find? p = none := List.find?_eq_none.2 (fun x hx => by simp [h1 x hx])
/-- What the reference holds after k codes. -/
def overI (n : Nat) (p : List Int → Bool) (k : Nat) (best : List Int) : Prop :=
  (best = [] ∧ ∀ S ∈ rowsTo n k, p S = false) ∨ (best ∈ rowsTo n k ∧ p best = true ∧ ∀ S ∈ rowsTo n k, p S = true → S = best ∨ befB best S = true)
theorem mem_rows_succ {n k : Nat} {S : List Int} : S ∈ rowsTo n (k + 1) ↔ S ∈ rowsTo n k ∨ S = bitsL n (k + 1) := by rw [rowsTo_succ]; simp
theorem over_zero (n : Nat) (p : List Int → Bool) : overI n p 0 [] := .inl ⟨rfl, fun S h => by simp [rowsTo] at h⟩
theorem over_no {n : Nat} {p : List Int → Bool} {k : Nat} {best : List Int} (h : overI n p k best) (hp : p (bitsL n (k + 1)) = false) : overI n p (k + 1) best := by
  rcases h with ⟨h1, h2⟩ | ⟨h1, h2, h3⟩
  · refine .inl ⟨h1, fun S hS => ?_⟩
    rcases mem_rows_succ.1 hS with hS | rfl
    · exact h2 S hS
    · exact hp
  · refine .inr ⟨mem_rows_succ.2 (.inl h1), h2, fun S hS hpS => ?_⟩
    rcases mem_rows_succ.1 hS with hS | rfl
    · exact h3 S hS hpS
    · rw [hp] at hpS; cases hpS
theorem over_first {n : Nat} {p : List Int → Bool} {k : Nat} (h : overI n p k []) (hne : [] ∉ rowsTo n k) (hp : p (bitsL n (k + 1)) = true) : overI n p (k + 1) (bitsL n (k + 1)) := by
  rcases h with ⟨_, h2⟩ | ⟨h1, _, _⟩
  · refine .inr ⟨mem_rows_succ.2 (.inr rfl), hp, fun S hS hpS => ?_⟩
    rcases mem_rows_succ.1 hS with hS | rfl
    · rw [h2 S hS] at hpS; cases hpS
    · exact .inl rfl
  · exact absurd h1 hne
theorem over_take {n : Nat} {p : List Int → Bool} {k : Nat} {best : List Int} (h : overI n p k best) (hne : best ≠ []) (hp : p (bitsL n (k + 1)) = true) (hb : befB (bitsL n (k + 1)) best = true) : overI n p (k + 1) (bitsL n (k + 1)) := by
  rcases h with ⟨h1, _⟩ | ⟨h1, h2, h3⟩
  · exact absurd h1 hne
  · refine .inr ⟨mem_rows_succ.2 (.inr rfl), hp, fun S hS hpS => ?_⟩
    rcases mem_rows_succ.1 hS with hS | rfl
    · rcases h3 S hS hpS with rfl | h4
      · exact .inr hb
      · exact .inr (befB_trans hb h4)
    · exact .inl rfl
theorem over_keep {n : Nat} {p : List Int → Bool} {k : Nat} {best : List Int} (h : overI n p k best) (hne : best ≠ []) (hb : befB (bitsL n (k + 1)) best = false) : overI n p (k + 1) best := by
  rcases h with ⟨h1, _⟩ | ⟨h1, h2, h3⟩
  · exact absurd h1 hne
  · refine .inr ⟨mem_rows_succ.2 (.inl h1), h2, fun S hS hpS => ?_⟩
    rcases mem_rows_succ.1 hS with hS | rfl
    · exact h3 S hS hpS
    · cases h : befB best (bitsL n (k + 1)) with
      | true => exact .inr rfl
      | false => exact .inl (befB_total hb h)
theorem over_end {n : Nat} {p : List Int → Bool} {best : List Int} (h : overI n p (2 ^ n - 1) best) : best = ((setsL n).find? p).getD [] := by
  rw [overI, ← codesL_to] at h
  have hm := fun S => (setsL_perm n).mem_iff (a := S)
  rcases h with ⟨rfl, h2⟩ | ⟨h1, h2, h3⟩
  · rw [find_no (fun x hx => h2 x ((hm x).1 hx))]; rfl
  · obtain ⟨k, hk, e⟩ := List.getElem_of_mem ((hm best).2 h1)
    rw [find_at hk (fun x hx => ?_) (by rw [e]; exact h2)]
    · exact e.symm
    · cases hpx : p x with
      | false => rfl
      | true =>
        obtain ⟨i, hi, rfl⟩ := List.getElem_of_mem hx
        have hik : i < k := by simp at hi; omega
        rw [List.getElem_take] at hpx
        have hil : i < (setsL n).length := by omega
        have h4 := List.pairwise_iff_getElem.1 (setsL_sorted n) i k hil hk hik
        rcases h3 _ ((hm _).1 (List.getElem_mem hil)) hpx with h5 | h5
        · rw [h5, e, befB_irrefl] at h4; cases h4
        · rw [e] at h4
          have := befB_asymm h4
          rw [h5] at this; cases this
theorem nil_rows {n k : Nat} (hk : k < 2 ^ n) : [] ∉ rowsTo n k := by
  intro h
  obtain ⟨c, hc, e⟩ := rowsTo_mem h
  have h0 : bitsL n 0 = [] := by simp [bitsL, bitsN]
  have := bitsL_inj (by omega) (Nat.two_pow_pos n) (e.symm.trans h0.symm)
  omega
theorem over_no' {n : Nat} {p : List Int → Bool} {b : Nat} {best : List Int} (h1 : 1 ≤ b) (h : overI n p (b - 1) best) (hp : p (bitsL n b) = false) : overI n p (b + 1 - 1) best := by
  have := over_no h (by rw [Nat.sub_add_cancel h1]; exact hp)
  rwa [Nat.sub_add_cancel h1] at this
theorem over_first' {n : Nat} {p : List Int → Bool} {b : Nat} (h1 : 1 ≤ b) (hlt : b < 2 ^ n) (h : overI n p (b - 1) []) (hp : p (bitsL n b) = true) : overI n p (b + 1 - 1) (bitsL n b) := by
  have := over_first h (nil_rows (by omega)) (by rw [Nat.sub_add_cancel h1]; exact hp)
  rwa [Nat.sub_add_cancel h1] at this
theorem over_take' {n : Nat} {p : List Int → Bool} {b : Nat} {best : List Int} (h1 : 1 ≤ b) (h : overI n p (b - 1) best) (hne : best ≠ []) (hp : p (bitsL n b) = true) (hb : befB (bitsL n b) best = true) : overI n p (b + 1 - 1) (bitsL n b) := by
  have := over_take h hne (by rw [Nat.sub_add_cancel h1]; exact hp) (by rw [Nat.sub_add_cancel h1]; exact hb)
  rwa [Nat.sub_add_cancel h1] at this
theorem over_keep' {n : Nat} {p : List Int → Bool} {b : Nat} {best : List Int} (h1 : 1 ≤ b) (h : overI n p (b - 1) best) (hne : best ≠ []) (hb : befB (bitsL n b) best = false) : overI n p (b + 1 - 1) best := by
  have := over_keep h hne (by rw [Nat.sub_add_cancel h1]; exact hb)
  rwa [Nat.sub_add_cancel h1] at this
end Go.Proofs.YtpiijhfjliolfaaGreat

namespace Go.Proofs.YtpiijhfjliolfaaGreat
open Go.RowKit Go.Sort

def mapTo (g : Nat → Int) (k : Nat) : List Int := (List.range k).map g
theorem mapTo_len (g : Nat → Int) (k : Nat) : (mapTo g k).length = k := by simp [mapTo]
theorem mapTo_succ (g : Nat → Int) (k : Nat) : mapTo g (k + 1) = mapTo g k ++ [g k] := by simp [mapTo, List.range_succ]
theorem mapTo_get {g : Nat → Int} {k i : Nat} (h : i < k) (h' : i < (mapTo g k).length) : (mapTo g k)[i] = g i := by simp [mapTo]
def sumTo (g : Nat → Int) (k : Nat) : Int := (mapTo g k).sum
theorem sumTo_zero (g : Nat → Int) : sumTo g 0 = 0 := rfl
theorem sumTo_succ (g : Nat → Int) (k : Nat) : sumTo g (k + 1) = sumTo g k + g k := by simp [sumTo, mapTo_succ]
theorem sumTo_bd {g : Nat → Int} {b : Int} (h : ∀ i, 0 ≤ g i ∧ g i ≤ b) : ∀ k : Nat, 0 ≤ sumTo g k ∧ sumTo g k ≤ k * b
  | 0 => by simp [sumTo_zero]
  | k + 1 => by
    have h1 := sumTo_bd h k
    have h2 := h k
    rw [sumTo_succ]
    have h3 : ((k + 1 : Nat) : Int) * b = k * b + b := by
      rw [Int.natCast_add, Int.add_mul]; simp
    omega

theorem dAt_bd {F : Fld} (h : goodF F = true) {i : Nat} (hi : i < F.di.length) (a : Int) : 0 ≤ dAt F i a ∧ dAt F i a ≤ 99 := by
  have e : F.di.getD i [] = F.di[i] := by simp [List.getD, hi]
  rw [dAt, e]
  by_cases ha : a.toNat < F.di[i].length
  · have := ((goodF_iff.1 h).2.2.2 _ (List.getElem_mem hi)).1 _ (List.getElem_mem ha)
    simpa [List.getD, ha] using this
  · simp [List.getD, ha]

/-- What client i brings. -/
def gainAt (F : Fld) (worth : Int) (S : List Int) (i : Nat) : Int := max 0 (worth - nearF F i S)
def gainF (F : Fld) (worth : Int) (S : List Int) : Int := if S = [] then 0 else sumTo (gainAt F worth S) F.di.length
theorem gainF_nil {F : Fld} {worth : Int} : gainF F worth [] = 0 := if_pos rfl
theorem gainF_cons {F : Fld} {worth : Int} {S : List Int} (h : S ≠ []) : gainF F worth S = sumTo (gainAt F worth S) F.di.length := if_neg h
theorem siteF_bd {F : Fld} {S : List Int} (hs : setB F S = true) (hne : S ≠ []) (i : Nat) : 0 ≤ siteF F i S ∧ siteF F i S < F.op.length := set_mem hs _ (siteF_mem hne)

set_option maxHeartbeats 1000000 in
theorem served_any (f : Value) (F : Fld) (A0 : Option Addr) (S : List Int) (n c0 : Nat) (w : World) (hf : FldAt w f F) (hS : IntsAt w A0 S) (hn : S.length = n) (hg : goodF F = true) (hs : setB F S = true) (hne : S ≠ []) :
    Calls Tryz.prog 120 #[f, .slice A0 n c0] w fun e w' => ∃ v, e = .returned v ∧ Own w' w.heap.size v (mapTo (fun i => siteF F i S) F.di.length) ∧ Kp w w' := by
  obtain ⟨A, c, B, d, rfl, hA, hB⟩ := hf
  have hk0 : Kp w (w.alloc (.cells #[.slice A F.op.length c, .slice B F.di.length d] 27)) := (Kp.refl w).alloc _
  obtain ⟨d0, d1⟩ := box2 w (.slice A F.op.length c) (.slice B F.di.length d) 27
  have hFA := FldAt.kp (show FldAt w (.agg #[.slice A F.op.length c, .slice B F.di.length d]) F from ⟨A, c, B, d, rfl, hA, hB⟩) hk0
  have hS0 := hS.kp hk0
  have Hn := Lib.hid hn; clear hn
  have hd7 := (goodF_iff.1 hg).2.2.1
  have Hg := Lib.hid hg; have Hs := Lib.hid hs; have Hne := Lib.hid hne
  clear hg hs hne hA hB hS
  have hs1 : w.heap.size + 1 ≤ (w.alloc (.cells #[.slice A F.op.length c, .slice B F.di.length d] 27)).heap.size := by simp
  have hs2 : (w.alloc (.cells #[.slice A F.op.length c, .slice B F.di.length d] 27)).heap.size ≤ w.heap.size + 1 := by simp
  go_enter Tryz.func120, Tryz.ntmps120
  go_wp2_with fail
  generalize w.alloc (.cells #[.slice A F.op.length c, .slice B F.di.length d] 27) = wb at *
  have ho0 := own_new0 wb (w.heap.size + 1) hs1
  rw [Nat.le_antisymm hs2 hs1] at ho0
  go_loopw [5, 11] (fun ov ix wr => ∃ k : Nat, k ≤ F.di.length ∧ ix = .int .i64 k ∧ Own wr (w.heap.size + 1) ov (mapTo (fun i => siteF F i S) k) ∧ Kp wb wr) (fun _ ix _ => F.di.length - (intOf ix).toNat)
  case atStart => exact ⟨0, by omega, rfl, ho0, (Kp.refl wb).alloc _⟩
  case round =>
    obtain ⟨k, hk, rfl, hown, hkp⟩ := hrel
    have e0 := hkp.get d0; have e1 := hkp.get d1
    by_cases hlt : k < F.di.length
    · go_wp2_with fail
      have CC := Lib.hid (server_any _ F k A0 S n c0 wr (hFA.kp hkp) (hS0.kp hkp) Hn.out Hg.out Hs.out Hne.out hlt)
      with_reducible refine Calls.mono CC.out ?_
      rintro e w1 ⟨rfl, hk1⟩
      clear CC
      have ho2 := hown.kp hk1
      have hk3 := hkp.trans hk1
      have hbl : w.heap.size + 1 ≤ w1.heap.size := Nat.le_trans hs1 hk3.le
      have hlen := Lib.hid (mapTo_len (fun i => siteF F i S) k)
      have hlen2 : (mapTo (fun i => siteF F i S) k).length < 1048576 := by rw [hlen.out]; omega
      go_wp2_with (at_builtin; refine wpl_app rfl (.tmp 14) (.tmp 19) rfl (w.heap.size + 1) _ (mapTo (fun i => siteF F i S) k) (siteF F k S) rfl rfl ho2 hbl hlen2 ?_; intro v' w' ho' ht' _; have hk4 := ho2.kp_turn hk3 hs2 ht')
      go_roundw
      case rel => exact ⟨k + 1, by omega, by go_num, by rw [mapTo_succ]; exact ho', hk4⟩
      case measure => simp [intOf]; omega
    · obtain rfl : k = F.di.length := by omega
      go_wp2_with fail
      go_ret
      exact ⟨_, rfl, hown.mono (Nat.le_succ _), hk0.trans hkp⟩

set_option maxHeartbeats 1000000 in
theorem lengths_any (f : Value) (F : Fld) (A0 : Option Addr) (S : List Int) (n c0 : Nat) (w : World) (hf : FldAt w f F) (hS : IntsAt w A0 S) (hn : S.length = n) (hg : goodF F = true) (hs : setB F S = true) (hne : S ≠ []) :
    Calls Tryz.prog 101 #[f, .slice A0 n c0] w fun e w' => ∃ v, e = .returned v ∧ Own w' w.heap.size v (mapTo (fun i => nearF F i S) F.di.length) ∧ Kp w w' := by
  obtain ⟨A, c, B, d, rfl, hA, hB⟩ := hf
  have hk0 : Kp w (w.alloc (.cells #[.slice A F.op.length c, .slice B F.di.length d] 27)) := (Kp.refl w).alloc _
  obtain ⟨d0, d1⟩ := box2 w (.slice A F.op.length c) (.slice B F.di.length d) 27
  have hFA := FldAt.kp (show FldAt w (.agg #[.slice A F.op.length c, .slice B F.di.length d]) F from ⟨A, c, B, d, rfl, hA, hB⟩) hk0
  have hS0 := hS.kp hk0
  have hB0 := hB.kp hk0
  have Hn := Lib.hid hn; clear hn
  have hd7 := (goodF_iff.1 hg).2.2.1
  have Hg := Lib.hid hg; have Hs := Lib.hid hs; have Hne := Lib.hid hne
  clear hg hs hne hA hB hS
  have hs1 : w.heap.size + 1 ≤ (w.alloc (.cells #[.slice A F.op.length c, .slice B F.di.length d] 27)).heap.size := by simp
  have hs2 : (w.alloc (.cells #[.slice A F.op.length c, .slice B F.di.length d] 27)).heap.size ≤ w.heap.size + 1 := by simp
  go_enter Tryz.func101, Tryz.ntmps101
  go_wp2_with fail
  generalize w.alloc (.cells #[.slice A F.op.length c, .slice B F.di.length d] 27) = wb at *
  have ho0 := own_new0 wb (w.heap.size + 1) hs1
  rw [Nat.le_antisymm hs2 hs1] at ho0
  have hkn := (Kp.refl wb).alloc (.cells #[] 3)
  have CC := Lib.hid (served_any _ F A0 S n c0 _ (hFA.kp hkn) (hS0.kp hkn) Hn.out Hg.out Hs.out Hne.out)
  with_reducible refine Calls.mono CC.out ?_
  rintro e w1 ⟨v, rfl, hov, hk1⟩
  clear CC
  obtain ⟨Av, cv, rfl, hiv⟩ := hov.ints (by rw [mapTo_len]; omega)
  have hk2 := hkn.trans hk1
  have ho1 := ho0.kp hk1
  have hap : Apart (.slice (some ⟨w.heap.size + 1, 0, none⟩) 0 0) (.slice Av (mapTo (fun i => siteF F i S) F.di.length).length cv) := by
    intro g hg e
    have := (hov.lt g e).1
    simp [Value.ownBlock] at hg this
    omega
  have Hl := Lib.hid (mapTo_len (fun i => siteF F i S) F.di.length)
  obtain ⟨N, hN⟩ : ∃ N, N = (mapTo (fun i => siteF F i S) F.di.length).length := ⟨_, rfl⟩
  have HN : Hid (N = F.di.length) := by show N = _; rw [hN]; exact Hl.out
  rw [← hN] at hov hap ⊢
  have hNl : N ≤ F.di.length := by rw [HN.out]; exact Nat.le_refl _
  have hNg : F.di.length ≤ N := by rw [HN.out]; exact Nat.le_refl _
  clear hN hiv
  go_wp2_with fail
  go_loopw [5, 13] (fun ov ix wr => ∃ k : Nat, k ≤ N ∧ ix = .int .i64 k ∧ Own wr (w.heap.size + 1) ov (mapTo (fun i => nearF F i S) k) ∧ Kp wb wr ∧ Own wr (wb.alloc (.cells #[] 3)).heap.size (.slice Av N cv) (mapTo (fun i => siteF F i S) F.di.length) ∧ Apart ov (.slice Av N cv)) (fun _ ix _ => N - (intOf ix).toNat)
  case atStart => exact ⟨0, by omega, rfl, ho1, hk2, hov, hap⟩
  case round =>
    obtain ⟨k, hk, rfl, hown, hkp, hiw, hap⟩ := hrel
    have e0 := hkp.get d0; have e1 := hkp.get d1
    by_cases hlt : k < N
    · have hltd : k < F.di.length := by omega
      have lx : k < (mapTo (fun i => siteF F i S) F.di.length).length := by rw [mapTo_len]; exact hltd
      obtain ⟨ad, rfl, hc⟩ := (hiw.intsOf (by rw [mapTo_len]; omega)).at_ lx
      rw [mapTo_get hltd] at hc
      obtain ⟨bd, A2, c2, rfl, hcr, hr⟩ := (hB0.kp hkp).at_ hltd
      obtain ⟨s0, s1⟩ := siteF_bd Hs.out Hne.out k
      have hrl := goodRow Hg.out hltd
      rw [← hrl] at s1
      clear hrl
      have hpl : 0 < F.di[k].length := by omega
      obtain ⟨rd, rfl, _⟩ := hr.at_ hpl
      have hdc := dCell hltd hr s0 s1
      have hbl : w.heap.size + 1 ≤ wr.heap.size := Nat.le_trans hs1 hkp.le
      have hlen := Lib.hid (mapTo_len (fun i => nearF F i S) k)
      have hlen2 : (mapTo (fun i => nearF F i S) k).length < 1048576 := by rw [hlen.out]; omega
      go_wp2_with (at_builtin; refine wpl_app rfl (.tmp 18) (.tmp 27) rfl (w.heap.size + 1) _ (mapTo (fun i => nearF F i S) k) (dAt F k (siteF F k S)) rfl rfl hown hbl hlen2 ?_; intro v' w' ho' ht' h4'; have hk4 := hown.kp_turn hkp hs2 ht'; have hi4 := hiw.apart_turn hap ht'; have ha4 := hap.grow hiw h4')
      go_roundw
      case rel => exact ⟨k + 1, by omega, by go_num, by rw [mapTo_succ]; exact ho', hk4, hi4, ha4⟩
      case measure => simp [intOf]; omega
    · obtain rfl : k = N := by omega
      go_wp2_with fail
      go_ret
      exact ⟨_, rfl, by rw [← HN.out]; exact hown.mono (Nat.le_succ _), hk0.trans hkp⟩

theorem l1Most_any (a b : Int) (w : World) :
    Calls Tryz.prog 89 #[.int .i64 a, .int .i64 b] w fun e w' => e = .returned (.int .i64 (max a b)) ∧ w = w' := by
  go_enter Tryz.func89, Tryz.ntmps89
  go_wp2
  all_goals go_ret
  all_goals exact ⟨ret_int (by omega), rfl⟩
theorem gainAt_if {F : Fld} {worth : Int} {S : List Int} {i : Nat} : (if nearF F i S < worth then worth - nearF F i S else 0) = gainAt F worth S i := by
  unfold gainAt; split <;> omega
theorem gainAt_bd {F : Fld} {worth : Int} {S : List Int} (hw0 : 0 ≤ worth) (hw : worth ≤ 999) (hn : ∀ i, 0 ≤ nearF F i S) (i : Nat) : 0 ≤ gainAt F worth S i ∧ gainAt F worth S i ≤ 999 := by
  have := hn i
  unfold gainAt; omega
theorem nearF_bd {F : Fld} (hg : goodF F = true) (S : List Int) (i : Nat) : 0 ≤ nearF F i S ∧ nearF F i S ≤ 99 := by
  by_cases hi : i < F.di.length
  · exact dAt_bd hg hi _
  · have e : F.di.getD i [] = [] := by simp [List.getD, List.getElem?_eq_none (by omega : F.di.length ≤ i)]
    rw [nearF, dAt, e]; simp

def worthB (worth : Int) : Bool := inB worth 0 999
def gainOk (F : Fld) (worth : Int) (S : List Int) : Bool := goodF F && worthB worth && setB F S
def gainR (F : Fld) (worth : Int) (S : List Int) : Int := if gainOk F worth S = true then gainF F worth S else 0
theorem gainR_no {F : Fld} {worth : Int} {S : List Int} (h : gainOk F worth S = false) : Ending.returned (.tuple #[.int .i64 (gainR F worth S), .bool (gainOk F worth S)]) = .returned (.tuple #[.int .i64 0, .bool false]) := by
  simp [gainR, h]
theorem gainR_yes {F : Fld} {worth : Int} {S : List Int} (h : gainOk F worth S = true) : Ending.returned (.tuple #[.int .i64 (gainR F worth S), .bool (gainOk F worth S)]) = .returned (.tuple #[.int .i64 (gainF F worth S), .bool true]) := by
  simp [gainR, h]
theorem gainOk_parts {F : Fld} {worth : Int} {S : List Int} (h : gainOk F worth S = true) : goodF F = true ∧ setB F S = true ∧ 0 ≤ worth ∧ worth ≤ 999 := by
  simp only [gainOk, Bool.and_eq_true, worthB, inB_iff] at h
  exact ⟨h.1.1, h.2, h.1.2.1, h.1.2.2⟩

end Go.Proofs.YtpiijhfjliolfaaGreat

namespace Go.Proofs.YtpiijhfjliolfaaGreat
open Go.RowKit Go.Sort

def openedB (F : Fld) (S : List Int) : Bool := goodF F && setB F S && decide (0 < S.length)
theorem openedB_parts {F : Fld} {S : List Int} (h : openedB F S = true) : goodF F = true ∧ setB F S = true ∧ S ≠ [] := by
  simp only [openedB, Bool.and_eq_true, decide_eq_true_eq] at h
  exact ⟨h.1.1, h.1.2, List.length_pos_iff.1 h.2⟩
theorem l2Two_any (f : Value) (F : Fld) (A0 : Option Addr) (S : List Int) (n c0 : Nat) (w : World) (hf : FldAt w f F) (hS : IntsAt w A0 S) (hn : S.length = n) :
    Calls Tryz.prog 73 #[f, .slice A0 n c0] w fun e w' => e = .returned (.bool (openedB F S)) ∧ Kp w w' := by
  obtain ⟨A, c, B, d, rfl, hA, hB⟩ := hf
  have hk0 : Kp w (w.alloc (.cells #[.slice A F.op.length c, .slice B F.di.length d] 27)) := (Kp.refl w).alloc _
  obtain ⟨d0, d1⟩ := box2 w (.slice A F.op.length c) (.slice B F.di.length d) 27
  have hFA := FldAt.kp (show FldAt w (.agg #[.slice A F.op.length c, .slice B F.di.length d]) F from ⟨A, c, B, d, rfl, hA, hB⟩) hk0
  have Hn := Lib.hid hn; clear hn
  go_enter Tryz.func73, Tryz.ntmps73
  go_wp2_with fail
  generalize w.alloc (.cells #[.slice A F.op.length c, .slice B F.di.length d] 27) = wb at *
  have CC := Lib.hid (l2Good_any _ F _ hFA)
  with_reducible refine Calls.mono CC.out ?_
  rintro e w1 ⟨rfl, hk1⟩
  clear CC
  have e0 := hk1.get d0; have e1 := hk1.get d1
  have K := hk0.trans hk1
  cases hg : goodF F
  · have Hg := Lib.hid hg; clear hg
    go_wp2_with fail
    go_ret
    exact ⟨ret_bool (by simp [openedB, Hg.out, Array.getD]), K⟩
  have Hg := Lib.hid hg; clear hg
  go_wp2_with fail
  have CC := Lib.hid (l2Set_any _ F A0 S n c0 _ (hFA.kp hk1) (hS.kp K) Hn.out)
  with_reducible refine Calls.mono CC.out ?_
  rintro e w2 ⟨rfl, hk2⟩
  clear CC
  cases h2 : setB F S
  · have H2 := Lib.hid h2; clear h2
    go_wp2_with fail
    go_ret
    exact ⟨ret_bool (by simp [openedB, H2.out, Array.getD]), K.trans hk2⟩
  have H2 := Lib.hid h2; clear h2
  go_wp2_with fail
  go_ret
  refine ⟨ret_bool ?_, K.trans hk2⟩
  rw [openedB, Hg.out, H2.out, Hn.out, Bool.eq_iff_iff]
  simp [Array.getD]
theorem isSet_any (f : Value) (F : Fld) (A0 : Option Addr) (S : List Int) (n c0 : Nat) (w : World) (hf : FldAt w f F) (hS : IntsAt w A0 S) (hn : S.length = n) :
    Calls Tryz.prog 107 #[f, .slice A0 n c0] w fun e w' => e = .returned (.bool (setB F S && decide (0 < S.length))) ∧ Kp w w' := by
  obtain ⟨A, c, B, d, rfl, hA, hB⟩ := hf
  have hk0 : Kp w (w.alloc (.cells #[.slice A F.op.length c, .slice B F.di.length d] 27)) := (Kp.refl w).alloc _
  have hAl := hA.1
  have Hn := Lib.hid hn; clear hn
  by_cases hp : 0 < n
  · have t1 : decide ((0 : Int) < (n : Int)) = true := by simp; omega
    go_enter Tryz.func107, Tryz.ntmps107
    go_wp2_with fail
    have CC := Lib.hid (isRising_any A0 S n c0 F.op.length _ (hS.kp hk0) Hn.out (by omega) (by omega))
    with_reducible refine Calls.mono CC.out ?_
    rintro e w2 ⟨rfl, hw2⟩
    obtain rfl := hw2
    clear CC
    go_wp2_with fail
    go_ret
    refine ⟨ret_bool ?_, hk0⟩
    rw [Hn.out]
    simp [setB, Array.getD, hp]
  · have t1 : decide ((0 : Int) < (n : Int)) = false := by simp; omega
    have t2 : n ≤ 0 := by omega
    go_enter Tryz.func107, Tryz.ntmps107
    go_wp2_with fail
    go_ret
    refine ⟨ret_bool ?_, hk0⟩
    rw [Hn.out]
    simp [Array.getD, hp]
theorem isOpened_any (f : Value) (F : Fld) (A0 : Option Addr) (S : List Int) (n c0 : Nat) (w : World) (hf : FldAt w f F) (hS : IntsAt w A0 S) (hn : S.length = n) :
    Calls Tryz.prog 69 #[f, .slice A0 n c0] w fun e w' => e = .returned (.bool (openedB F S)) ∧ Kp w w' := by
  obtain ⟨A, c, B, d, rfl, hA, hB⟩ := hf
  have hk0 : Kp w (w.alloc (.cells #[.slice A F.op.length c, .slice B F.di.length d] 27)) := (Kp.refl w).alloc _
  obtain ⟨d0, d1⟩ := box2 w (.slice A F.op.length c) (.slice B F.di.length d) 27
  have hFA := FldAt.kp (show FldAt w (.agg #[.slice A F.op.length c, .slice B F.di.length d]) F from ⟨A, c, B, d, rfl, hA, hB⟩) hk0
  have Hn := Lib.hid hn; clear hn
  go_enter Tryz.func69, Tryz.ntmps69
  go_wp2_with fail
  generalize w.alloc (.cells #[.slice A F.op.length c, .slice B F.di.length d] 27) = wb at *
  have CC := Lib.hid (isField_any _ F _ hFA)
  with_reducible refine Calls.mono CC.out ?_
  rintro e w1 ⟨rfl, hk1⟩
  clear CC
  have e0 := hk1.get d0; have e1 := hk1.get d1
  have K := hk0.trans hk1
  cases hg : goodF F
  · have Hg := Lib.hid hg; clear hg
    go_wp2_with fail
    go_ret
    exact ⟨ret_bool (by simp [openedB, Hg.out, Array.getD]), K⟩
  have Hg := Lib.hid hg; clear hg
  go_wp2_with fail
  have CC := Lib.hid (isSet_any _ F A0 S n c0 _ (hFA.kp hk1) (hS.kp K) Hn.out)
  with_reducible refine Calls.mono CC.out ?_
  rintro e w2 ⟨rfl, hk2⟩
  clear CC
  go_wp2_with fail
  go_ret
  exact ⟨ret_bool (by rw [openedB, Hg.out, Bool.true_and]), K.trans hk2⟩
end Go.Proofs.YtpiijhfjliolfaaGreat

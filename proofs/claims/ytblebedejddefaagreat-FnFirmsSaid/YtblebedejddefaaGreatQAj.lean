/- All sets of some sites in their order, as the reference tells them; least and lists: the first row with the least value; the rows of which something is so; lists and most: the sets of which something is so; the one with the greatest gain; What a loop over all rows picks, beginning with none; Fields with a set of at least one site: the program's test and the reference's; How near the nearest site is; The gain of a set goes by its members alone; more sites, no less gain; ClientsTaken: reference and program. No condition. -/
import Derived.Test.YtblebedejddefaaGreatQAi
import Derived.Deep.RegionHeld3
import Derived.Test.YtblebedejddefaaGreatQAd
import Derived.Test.YtblebedejddefaaGreatQAc
namespace Go.Proofs.YtblebedejddefaaGreat
open Go.RowKit Go.Sort Go.Shelf

theorem rowsTo_mem {n k : Nat} {S : List Int} (h : S ∈ rowsTo n k) : ∃ c, c < k ∧ S = bitsL n (c + 1) := by
  simp only [rowsTo, List.mem_map, List.mem_range] at h
  obtain ⟨c, hc, rfl⟩ := h
  exact ⟨c, hc, rfl⟩
/-- One more set, put where it belongs. -/
theorem ins_sorted {rows : List (List Int)} {S : List Int} {k : Nat} (hs : rows.Pairwise (fun a b => befB a b = true)) (hk : k ≤ rows.length) (h1 : ∀ j (hj : j < rows.length), k ≤ j → befB S rows[j] = true) (h2 : 0 < k → befB S (rows.getD (k - 1) []) = false) (hn : S ∉ rows) :
    (rows.take k ++ [S] ++ rows.drop k).Pairwise (fun a b => befB a b = true) := by
  have hb : ∀ x ∈ rows.take k, befB x S = true := by
    intro x hx
    obtain ⟨j, hj, rfl⟩ := List.getElem_of_mem hx
    have hj2 : j < k := by simp at hj; omega
    have hj3 : j < rows.length := by omega
    rw [List.getElem_take]
    have h3 := h2 (by omega)
    have e4 : rows.getD (k - 1) [] = rows[k - 1]'(by omega) := by simp [List.getD, show k - 1 < rows.length by omega]
    rw [e4] at h3
    have hlast : befB (rows[k - 1]'(by omega)) S = true := by
      cases hh : befB (rows[k - 1]'(by omega)) S with
      | true => rfl
      | false => exact absurd (befB_total h3 hh) (fun e => hn (e ▸ List.getElem_mem _))
    rcases Nat.lt_or_ge j (k - 1) with h | h
    · exact befB_trans (List.pairwise_iff_getElem.1 hs j (k - 1) hj3 (by omega) h) hlast
    · have e : j = k - 1 := by omega
      subst e; exact hlast
  have ha : ∀ x ∈ rows.drop k, befB S x = true := by
    intro x hx
    obtain ⟨j, hj, rfl⟩ := List.getElem_of_mem hx
    have hj2 : k + j < rows.length := by simp at hj; omega
    rw [List.getElem_drop]
    exact h1 _ hj2 (by omega)
  rw [List.append_assoc, List.pairwise_append]
  refine ⟨hs.sublist (List.take_sublist _ _), ?_, ?_⟩
  · rw [List.singleton_append, List.pairwise_cons]
    exact ⟨ha, hs.sublist (List.drop_sublist _ _)⟩
  · intro x hx y hy
    rcases List.mem_append.1 hy with hy | hy
    · have : y = S := by simpa using hy
      subst this; exact hb x hx
    · obtain ⟨i, hi, rfl⟩ := List.getElem_of_mem hx
      obtain ⟨j, hj, rfl⟩ := List.getElem_of_mem hy
      have hi2 : i < k := by simp at hi; omega
      have hj2 : k + j < rows.length := by simp at hj; omega
      rw [List.getElem_take, List.getElem_drop]
      exact List.pairwise_iff_getElem.1 hs i (k + j) (by omega) hj2 (by omega)
theorem ins_perm {rows l : List (List Int)} {S : List Int} (k : Nat) (h : rows.Perm l) : (rows.take k ++ [S] ++ rows.drop k).Perm (l ++ [S]) := by
  have h1 : (rows.take k ++ [S] ++ rows.drop k).Perm (S :: rows) := by
    rw [List.append_assoc, List.singleton_append]
    refine List.perm_middle.trans ?_
    rw [List.take_append_drop]
  exact h1.trans ((List.Perm.cons S h).trans (List.perm_append_singleton S l).symm)
theorem fresh_code {n c : Nat} {rows : List (List Int)} (hc : c + 1 < 2 ^ n) (hp : rows.Perm (rowsTo n c)) : bitsL n (c + 1) ∉ rows := by
  intro h
  obtain ⟨d, hd, e⟩ := rowsTo_mem (hp.mem_iff.1 h)
  have := bitsL_inj (by omega) (by omega) e
  omega
theorem gown_ab (w : World) (lo : Option Nat) (o : Obj) : GOwn ((w.alloc (.cells #[] 24)).alloc o) lo w.heap.size (.slice (some ⟨w.heap.size, 0, none⟩) 0 0) [] :=
  (gown_new w lo _ (Nat.le_refl _)).kp ((Kp.refl _).alloc _)
theorem gown_ba (w : World) (lo : Option Nat) (o : Obj) : GOwn ((w.alloc o).alloc (.cells #[] 24)) lo w.heap.size (.slice (some ⟨w.heap.size + 1, 0, none⟩) 0 0) [] := by
  have := gown_new (w.alloc o) lo w.heap.size (by simp)
  simpa using this
theorem hd_ab (w : World) (u : Value) : ((w.alloc (.cells #[] 24)).alloc (.cells #[u] 24)).cell? ⟨w.heap.size + 1, 0, none⟩ = some u := by
  rw [World.cell?_alloc_at _ _ _ _ (by simp)]; rfl
theorem hd_ba (w : World) (u : Value) : ((w.alloc (.cells #[u] 24)).alloc (.cells #[] 24)).cell? ⟨w.heap.size, 0, none⟩ = some u :=
  ((Kp.refl _).alloc _).get (by rw [World.cell?_alloc_at _ _ _ _ rfl]; rfl)
theorem cell_turn {T : Nat → Prop} {W w' : World} {p : Addr} {u : Value} (h : W.cell? p = some u) (ht : Turn T W w') (hg : ¬ T p.block) : w'.cell? p = some u := by
  have hb : p.block < W.heap.size := World.block_lt_of_cell? _ _ h
  rw [World.cell?_of_block (ht.block p.block hb hg)]; exact h
theorem Kp.turn_new {w0 W w' : World} {lo : Option Nat} {v : Value} {rows : List (List Int)} (_ : Kp w0 w0) (h : Kp w0 W) (ht : Turn (fun i => v.ownBlock = some i) W w') (ho : GOwn W lo w0.heap.size v rows) : Kp w0 w' :=
  ho.kp_turn h (Nat.le_refl _) ht
set_option maxRecDepth 100000 in
set_option maxHeartbeats 4000000 in
theorem l2Sets_any (n : Nat) (w : World) (hn : n ≤ 7) :
    Calls Tryz.prog 43 #[.int .i64 n] w fun e w' => ∃ v, e = .returned v ∧ v ≠ .slice none 0 0 ∧ GOwn w' (some w.heap.size) w.heap.size v (setsL n) ∧ Kp w w' := by
  obtain ⟨P, HP, hpw, hP⟩ := pow_wrap (n : Int) (by omega) (by omega)
  rw [Int.toNat_natCast] at hpw
  have HP' : Hid (P = 2 ^ n) := by show P = _; simpa using HP.out
  have hP1 : 1 ≤ P := by rw [HP'.out]; exact Nat.one_le_two_pow
  go_enter Tryz.func43, Tryz.ntmps43
  go_wp2_with fail
  go_loopw [3, 4] (fun ov bv wr => ∃ (b : Nat) (rows : List (List Int)), 1 ≤ b ∧ b ≤ P ∧ bv = .int .i64 (b : Nat) ∧ Hid (ov ≠ .slice none 0 0) ∧ GOwn wr (some w.heap.size) w.heap.size ov rows ∧ Hid (rows.length = b - 1) ∧ Hid (rows.Perm (rowsTo n (b - 1)) ∧ rows.Pairwise (fun x y => befB x y = true)) ∧ Kp w wr) (fun _ bv _ => P - (intOf bv).toNat)
  case atStart => exact ⟨1, [], by omega, by omega, rfl, by show _ ≠ _; simp, gown_new w _ w.heap.size (Nat.le_refl _), rfl, ⟨List.Perm.refl _, List.Pairwise.nil⟩, (Kp.refl _).alloc _⟩
  case round =>
    obtain ⟨b, rows, hb1, hk, rfl, Hv, hown, HL, HR, hkb⟩ := hrel
    obtain ⟨ad, cap, rfl, hcap, hrw⟩ := hown.rows_some (by rw [HL.out]; omega) Hv.out
    by_cases hlt : b < P
    · have hb : b < 2 ^ n := by rw [← HP'.out]; exact hlt
      have HF := Lib.hid (fresh_code (n := n) (c := b - 1) (by omega) HR.out.1)
      rw [Nat.sub_add_cancel hb1] at HF
      clear hb
      have hl7 : rows.length < 128 := by rw [HL.out]; omega
      have hkw0 := hkb
      go_wp2_with fail
      have CC := Lib.hid (l2Bits_any n b wr (by omega) (by omega))
      with_reducible refine Calls.mono CC.out ?_
      rintro e w1 ⟨v, rfl, ho, hk1⟩
      clear CC
      replace hkb := hkb.trans hk1
      replace hown := hown.kp hk1
      replace hrw := hrw.kp hk1
      obtain ⟨Av, cv, hve, hiv⟩ := ho.ints (by have := bitsL_len n b; omega)
      have hcv := ho.capL hve
      have hrp := (RowP.of_own ho (by have := bitsL_len n b; omega)).mono (b' := w.heap.size) hkw0.le
      subst hve
      generalize hrl : rows.length = m at *
      go_wp2_with fail
      obtain ⟨wo, rfl⟩ : ∃ wo : World, wo = wr := ⟨_, rfl⟩
      obtain ⟨w5, rfl⟩ : ∃ w5 : World, w5 = w1 := ⟨_, rfl⟩
      go_loopw [6] (fun kv wr => ∃ k : Nat, k ≤ m ∧ kv = .int .i64 k ∧ Hid (∀ j (hj : j < rows.length), k ≤ j → befB (bitsL n b) rows[j] = true) ∧ Dr w5 wr) (fun kv _ => (intOf kv).toNat)
      case atStart => exact ⟨m, Nat.le_refl _, rfl, by show ∀ j (hj : j < rows.length), _ → _; intro j hj h; omega, Dr.refl _⟩
      case round =>
        obtain ⟨k, hkm, rfl, Hbf, hdr⟩ := hrel
        have hrw' := hrw.kp hdr.kp
        have hiv' := hiv.kp hdr.kp
        by_cases h0 : 0 < k
        · obtain ⟨j, rfl⟩ : ∃ j, k = j + 1 := ⟨k - 1, by omega⟩
          have lx : j < rows.length := by omega
          obtain ⟨A2, c2, hcl, hc2, hri, _⟩ := hrw'.some_ lx
          go_wp2_with fail
          have CC := Lib.hid (l2Before_any Av A2 (bitsL n b) rows[j] _ _ cv c2 wr hiv' rfl hri rfl)
          with_reducible refine Calls.mono CC.out ?_
          rintro e w2 ⟨rfl, hd2⟩
          have hk2 := hd2.kp
          clear CC
          cases hbb : befB (bitsL n b) rows[j]
          · have Hb0 := Lib.hid hbb
            clear hbb
            have hrz := hrw'.kp hk2
            have hiz := (hrp.kp hdr.kp).kp hk2
            have hdz := hdr.trans hd2
            have hkc : j + 1 ≤ cap := by omega

            have Hj : Hid (0 < j + 1 → befB (bitsL n b) (rows.getD (j + 1 - 1) []) = false) := by
              show 0 < j + 1 → _
              intro _
              have e4 : rows.getD (j + 1 - 1) [] = rows[j] := by simp [List.getD, lx]
              rw [e4]
              exact Hb0.out
            clear hcl hc2 hri hrw' hiv'
            clear h0 Hb0
            generalize hjk : j + 1 = k at *
            clear hjk
            have hkw := hkb
            have hA := Lib.hid ((gown_new w2 (some w.heap.size) w2.heap.size (Nat.le_refl _)).drew)
            have hAB := Lib.hid ((gown_ab w2 (some w.heap.size) (.cells #[(.slice Av (bitsL n b).length cv)] 24)).drew)
            have hBA := Lib.hid ((gown_ba w2 (some w.heap.size) (.cells #[(.slice Av (bitsL n b).length cv)] 24)).drew)
            have cAB := Lib.hid (hd_ab w2 (.slice Av (bitsL n b).length cv))
            have cBA := Lib.hid (hd_ba w2 (.slice Av (bitsL n b).length cv))
            have hT1 := Lib.hid (hrz.take (k))
            have hT2 := Lib.hid (hrz.tail (c := cap) (by rw [hrl]; exact hcap) (k))
            have hkz : Kp w2 w2 := Kp.refl _
            have hlk : (rows.take (k)).length = k := by rw [List.length_take, hrl]; omega
            have hld : (rows.drop (k)).length = m - (k) := by rw [List.length_drop, hrl]
            have hl1 : ([] : List (List Int)).length + (rows.take (k)).length ≤ 4194304 := by rw [hlk]; simp <;> omega
            have hl2 : (([] : List (List Int)) ++ rows.take (k)).length < 1048576 := by rw [List.length_append, hlk]; simp <;> omega
            have hl4 : (([] : List (List Int)) ++ rows.take (k) ++ [bitsL n b]).length + (rows.drop (k)).length ≤ 4194304 := by rw [List.length_append, List.length_append, hlk, hld]; simp <;> omega
            go_wp2_with fail
            go_region_held3 (fun w' => Kp w2 w')
              (first | exact (by repeat (first | with_reducible assumption | with_reducible exact Kp.refl _ | with_reducible refine Kp.drew ?_ | with_reducible refine Kp.alloc ?_ _ | with_reducible refine Kp.drewN ?_ _ | refine Kp.setCell ?_ (by dsimp only; omega) _)) | exact hkA | exact hkA.alloc _ | exact hkB | exact hkC)
              (first
                | (refine step_appg_all (W0 := w2) (by rfl) (.tmp 32) (.tmp 35) (by rfl) w2.heap.size _ [] (rows.take (k)) (some ad) (k) cap (by rfl) (by rfl) hA.out hT1.out (by repeat (first | with_reducible assumption | with_reducible exact Kp.refl _ | with_reducible refine Kp.drew ?_ | with_reducible refine Kp.alloc ?_ _ | with_reducible refine Kp.drewN ?_ _ | refine Kp.setCell ?_ (by dsimp only; omega) _)) (Nat.le_refl _) hlk (by simp) hl1 ?_; intro v1 wx1 ho1 ht1 h41; have hkA : Kp w2 wx1 := hkz.turn_new (by repeat (first | with_reducible assumption | with_reducible exact Kp.refl _ | with_reducible refine Kp.drew ?_ | with_reducible refine Kp.alloc ?_ _ | with_reducible refine Kp.drewN ?_ _ | refine Kp.setCell ?_ (by dsimp only; omega) _)) ht1 hA.out)
                | (refine step_appg_all (W0 := w2) (by rfl) (.tmp 32) (.tmp 35) (by rfl) w2.heap.size _ [] (rows.take (k)) (some ad) (k) cap (by rfl) (by rfl) hAB.out hT1.out (by repeat (first | with_reducible assumption | with_reducible exact Kp.refl _ | with_reducible refine Kp.drew ?_ | with_reducible refine Kp.alloc ?_ _ | with_reducible refine Kp.drewN ?_ _ | refine Kp.setCell ?_ (by dsimp only; omega) _)) (Nat.le_refl _) hlk (by simp; omega) hl1 ?_; intro v1 wx1 ho1 ht1 h41; have hkA : Kp w2 wx1 := hkz.turn_new (by repeat (first | with_reducible assumption | with_reducible exact Kp.refl _ | with_reducible refine Kp.drew ?_ | with_reducible refine Kp.alloc ?_ _ | with_reducible refine Kp.drewN ?_ _ | refine Kp.setCell ?_ (by dsimp only; omega) _)) ht1 hAB.out; have h1n := cell_turn (p := ⟨w2.heap.size + 1, 0, none⟩) ((Kp.refl _).drew.get cAB.out) ht1 (by simp [Value.ownBlock]))
                | (refine step_appg_all (W0 := w2) (by rfl) (.tmp 32) (.tmp 35) (by rfl) w2.heap.size _ [] (rows.take (k)) (some ad) (k) cap (by rfl) (by rfl) hBA.out hT1.out (by repeat (first | with_reducible assumption | with_reducible exact Kp.refl _ | with_reducible refine Kp.drew ?_ | with_reducible refine Kp.alloc ?_ _ | with_reducible refine Kp.drewN ?_ _ | refine Kp.setCell ?_ (by dsimp only; omega) _)) (Nat.le_refl _) hlk (by simp; omega) hl1 ?_; intro v1 wx1 ho1 ht1 h41; have hkA : Kp w2 wx1 := hkz.turn_new (by repeat (first | with_reducible assumption | with_reducible exact Kp.refl _ | with_reducible refine Kp.drew ?_ | with_reducible refine Kp.alloc ?_ _ | with_reducible refine Kp.drewN ?_ _ | refine Kp.setCell ?_ (by dsimp only; omega) _)) ht1 hBA.out; have h1n := cell_turn (p := ⟨w2.heap.size, 0, none⟩) ((Kp.refl _).drew.get cBA.out) ht1 (by simp [Value.ownBlock]))
                | (refine step_appg_all (W0 := w2) (by rfl) (.tmp 39) (.tmp 42) (by rfl) w2.heap.size v2 ([] ++ rows.take (k) ++ [bitsL n b]) (rows.drop (k)) (if cap = k then some ad else some (ad.add (k))) (m - (k)) (cap - (k)) (by rfl) (by rfl) ho2 hT2.out hkB (Nat.le_refl _) hld hkB.le hl4 ?_; intro v3 wx3 ho3 ht3 h43; have hkC : Kp w2 wx3 := ho2.kp_turn hkB (Nat.le_refl _) ht3)
                | (refine step_appg (by rfl) (.tmp 36) (.tmp 38) (by rfl) w2.heap.size v1 ([] ++ rows.take (k)) (bitsL n b) (.slice Av (bitsL n b).length cv) ⟨w2.heap.size + 1, 0, none⟩ (by rfl) (by rfl) ho1 (hiz.kp hkA) h1n (apart_old hiz ho1 (Nat.le_refl _)) hkA.le hl2 ?_; intro v2 wx2 ho2 ht2 h42; have hkB : Kp w2 wx2 := ho1.kp_turn hkA (Nat.le_refl _) ht2)
                | (refine step_appg (by rfl) (.tmp 36) (.tmp 38) (by rfl) w2.heap.size v1 ([] ++ rows.take (k)) (bitsL n b) (.slice Av (bitsL n b).length cv) ⟨w2.heap.size, 0, none⟩ (by rfl) (by rfl) ho1 (hiz.kp hkA) h1n (apart_old hiz ho1 (Nat.le_refl _)) hkA.le hl2 ?_; intro v2 wx2 ho2 ht2 h42; have hkB : Kp w2 wx2 := ho1.kp_turn hkA (Nat.le_refl _) ht2)
                | (refine step_appg (by rfl) (.tmp 36) (.tmp 38) (by rfl) w2.heap.size v1 ([] ++ rows.take (k)) (bitsL n b) (.slice Av (bitsL n b).length cv) ⟨wx1.heap.size, 0, none⟩ (by rfl) (by rfl) ho1.one_kp (hiz.kp (hkA.alloc _)) (by rw [World.cell?_alloc_at _ _ _ _ rfl]; rfl) (apart_old hiz ho1 (Nat.le_refl _)) (hkA.alloc _).le hl2 ?_; intro v2 wx2 ho2 ht2 h42; have hkB : Kp w2 wx2 := ho1.one_kp.kp_turn (hkA.alloc _) (Nat.le_refl _) ht2))
            all_goals
              go_wp2_with fail
              go_roundw
              case rel =>
                have hst : rowsTo n (b + 1 - 1) = rowsTo n (b - 1) ++ [bitsL n b] := by
                  have := rowsTo_succ n (b - 1)
                  rw [show b - 1 + 1 = b by omega] at this
                  exact this
                have e0 : [] ++ rows.take (k) ++ [bitsL n b] ++ rows.drop (k) = rows.take (k) ++ [bitsL n b] ++ rows.drop (k) := by simp
                rw [e0] at ho3
                exact ⟨b + 1, _, by omega, by omega, by go_num, ho3.not_nil (by simp), ho3.mono (hkw.trans hdz.kp).le, by show _ = b + 1 - 1; rw [List.length_append, List.length_append, hlk, hld]; have := HL.out; simp; omega, ⟨by rw [hst]; exact ins_perm _ HR.out.1, ins_sorted HR.out.2 (by omega) (fun i hi h => Hbf.out i hi h) Hj.out HF.out⟩, (hkw.trans hdz.kp).trans hkC⟩
              case measure => simp [intOf]; omega
          · have Hb0 := Lib.hid hbb
            clear hbb
            go_wp2_with fail
            go_roundw
            case rel => exact ⟨j, by omega, by go_num, by show ∀ i (hi : i < rows.length), _ → _; intro i hi h; rcases Nat.eq_or_lt_of_le h with e | e; (subst e; exact Hb0.out); exact Hbf.out i hi e, hdr.trans hd2⟩
            case measure => simp [intOf] <;> omega
        · have hkw := hkb
          have hkc : k ≤ cap := by omega
          have hA := Lib.hid ((gown_new wr (some w.heap.size) wr.heap.size (Nat.le_refl _)).drew)
          have hAB := Lib.hid ((gown_ab wr (some w.heap.size) (.cells #[(.slice Av (bitsL n b).length cv)] 24)).drew)
          have hBA := Lib.hid ((gown_ba wr (some w.heap.size) (.cells #[(.slice Av (bitsL n b).length cv)] 24)).drew)
          have cAB := Lib.hid (hd_ab wr (.slice Av (bitsL n b).length cv))
          have cBA := Lib.hid (hd_ba wr (.slice Av (bitsL n b).length cv))
          have hT1 := Lib.hid (hrw'.take (k))
          have hT2 := Lib.hid (hrw'.tail (c := cap) (by rw [hrl]; exact hcap) (k))
          have hkz : Kp wr wr := Kp.refl _
          have hlk : (rows.take (k)).length = k := by rw [List.length_take, hrl]; omega
          have hld : (rows.drop (k)).length = m - (k) := by rw [List.length_drop, hrl]
          have hl1 : ([] : List (List Int)).length + (rows.take (k)).length ≤ 4194304 := by rw [hlk]; simp <;> omega
          have hl2 : (([] : List (List Int)) ++ rows.take (k)).length < 1048576 := by rw [List.length_append, hlk]; simp <;> omega
          have hl4 : (([] : List (List Int)) ++ rows.take (k) ++ [bitsL n b]).length + (rows.drop (k)).length ≤ 4194304 := by rw [List.length_append, List.length_append, hlk, hld]; simp <;> omega
          go_wp2_with fail
          go_region_held3 (fun w' => Kp wr w')
            (first | exact (by repeat (first | with_reducible assumption | with_reducible exact Kp.refl _ | with_reducible refine Kp.drew ?_ | with_reducible refine Kp.alloc ?_ _ | with_reducible refine Kp.drewN ?_ _ | refine Kp.setCell ?_ (by dsimp only; omega) _)) | exact hkA | exact hkA.alloc _ | exact hkB | exact hkC)
            (first
              | (refine step_appg_all (W0 := wr) (by rfl) (.tmp 32) (.tmp 35) (by rfl) wr.heap.size _ [] (rows.take (k)) (some ad) (k) cap (by rfl) (by rfl) hA.out hT1.out (by repeat (first | with_reducible assumption | with_reducible exact Kp.refl _ | with_reducible refine Kp.drew ?_ | with_reducible refine Kp.alloc ?_ _ | with_reducible refine Kp.drewN ?_ _ | refine Kp.setCell ?_ (by dsimp only; omega) _)) (Nat.le_refl _) hlk (by simp) hl1 ?_; intro v1 wx1 ho1 ht1 h41; have hkA : Kp wr wx1 := hkz.turn_new (by repeat (first | with_reducible assumption | with_reducible exact Kp.refl _ | with_reducible refine Kp.drew ?_ | with_reducible refine Kp.alloc ?_ _ | with_reducible refine Kp.drewN ?_ _ | refine Kp.setCell ?_ (by dsimp only; omega) _)) ht1 hA.out)
              | (refine step_appg_all (W0 := wr) (by rfl) (.tmp 32) (.tmp 35) (by rfl) wr.heap.size _ [] (rows.take (k)) (some ad) (k) cap (by rfl) (by rfl) hAB.out hT1.out (by repeat (first | with_reducible assumption | with_reducible exact Kp.refl _ | with_reducible refine Kp.drew ?_ | with_reducible refine Kp.alloc ?_ _ | with_reducible refine Kp.drewN ?_ _ | refine Kp.setCell ?_ (by dsimp only; omega) _)) (Nat.le_refl _) hlk (by simp; omega) hl1 ?_; intro v1 wx1 ho1 ht1 h41; have hkA : Kp wr wx1 := hkz.turn_new (by repeat (first | with_reducible assumption | with_reducible exact Kp.refl _ | with_reducible refine Kp.drew ?_ | with_reducible refine Kp.alloc ?_ _ | with_reducible refine Kp.drewN ?_ _ | refine Kp.setCell ?_ (by dsimp only; omega) _)) ht1 hAB.out; have h1n := cell_turn (p := ⟨wr.heap.size + 1, 0, none⟩) ((Kp.refl _).drew.get cAB.out) ht1 (by simp [Value.ownBlock]))
              | (refine step_appg_all (W0 := wr) (by rfl) (.tmp 32) (.tmp 35) (by rfl) wr.heap.size _ [] (rows.take (k)) (some ad) (k) cap (by rfl) (by rfl) hBA.out hT1.out (by repeat (first | with_reducible assumption | with_reducible exact Kp.refl _ | with_reducible refine Kp.drew ?_ | with_reducible refine Kp.alloc ?_ _ | with_reducible refine Kp.drewN ?_ _ | refine Kp.setCell ?_ (by dsimp only; omega) _)) (Nat.le_refl _) hlk (by simp; omega) hl1 ?_; intro v1 wx1 ho1 ht1 h41; have hkA : Kp wr wx1 := hkz.turn_new (by repeat (first | with_reducible assumption | with_reducible exact Kp.refl _ | with_reducible refine Kp.drew ?_ | with_reducible refine Kp.alloc ?_ _ | with_reducible refine Kp.drewN ?_ _ | refine Kp.setCell ?_ (by dsimp only; omega) _)) ht1 hBA.out; have h1n := cell_turn (p := ⟨wr.heap.size, 0, none⟩) ((Kp.refl _).drew.get cBA.out) ht1 (by simp [Value.ownBlock]))
              | (refine step_appg_all (W0 := wr) (by rfl) (.tmp 39) (.tmp 42) (by rfl) wr.heap.size v2 ([] ++ rows.take (k) ++ [bitsL n b]) (rows.drop (k)) (if cap = k then some ad else some (ad.add (k))) (m - (k)) (cap - (k)) (by rfl) (by rfl) ho2 hT2.out hkB (Nat.le_refl _) hld hkB.le hl4 ?_; intro v3 wx3 ho3 ht3 h43; have hkC : Kp wr wx3 := ho2.kp_turn hkB (Nat.le_refl _) ht3)
              | (refine step_appg (by rfl) (.tmp 36) (.tmp 38) (by rfl) wr.heap.size v1 ([] ++ rows.take (k)) (bitsL n b) (.slice Av (bitsL n b).length cv) ⟨wr.heap.size + 1, 0, none⟩ (by rfl) (by rfl) ho1 ((hrp.kp hdr.kp).kp hkA) h1n (apart_old (hrp.kp hdr.kp) ho1 (Nat.le_refl _)) hkA.le hl2 ?_; intro v2 wx2 ho2 ht2 h42; have hkB : Kp wr wx2 := ho1.kp_turn hkA (Nat.le_refl _) ht2)
              | (refine step_appg (by rfl) (.tmp 36) (.tmp 38) (by rfl) wr.heap.size v1 ([] ++ rows.take (k)) (bitsL n b) (.slice Av (bitsL n b).length cv) ⟨wr.heap.size, 0, none⟩ (by rfl) (by rfl) ho1 ((hrp.kp hdr.kp).kp hkA) h1n (apart_old (hrp.kp hdr.kp) ho1 (Nat.le_refl _)) hkA.le hl2 ?_; intro v2 wx2 ho2 ht2 h42; have hkB : Kp wr wx2 := ho1.kp_turn hkA (Nat.le_refl _) ht2)
              | (refine step_appg (by rfl) (.tmp 36) (.tmp 38) (by rfl) wr.heap.size v1 ([] ++ rows.take (k)) (bitsL n b) (.slice Av (bitsL n b).length cv) ⟨wx1.heap.size, 0, none⟩ (by rfl) (by rfl) ho1.one_kp ((hrp.kp hdr.kp).kp (hkA.alloc _)) (by rw [World.cell?_alloc_at _ _ _ _ rfl]; rfl) (apart_old (hrp.kp hdr.kp) ho1 (Nat.le_refl _)) (hkA.alloc _).le hl2 ?_; intro v2 wx2 ho2 ht2 h42; have hkB : Kp wr wx2 := ho1.one_kp.kp_turn (hkA.alloc _) (Nat.le_refl _) ht2))
          all_goals
            go_wp2_with fail
            go_roundw
            case rel =>
              have hst : rowsTo n (b + 1 - 1) = rowsTo n (b - 1) ++ [bitsL n b] := by
                have := rowsTo_succ n (b - 1)
                rw [show b - 1 + 1 = b by omega] at this
                exact this
              have e0 : [] ++ rows.take (k) ++ [bitsL n b] ++ rows.drop (k) = rows.take (k) ++ [bitsL n b] ++ rows.drop (k) := by simp
              rw [e0] at ho3
              exact ⟨b + 1, _, by omega, by omega, by go_num, ho3.not_nil (by simp), ho3.mono (hkw.trans hdr.kp).le, by show _ = b + 1 - 1; rw [List.length_append, List.length_append, hlk, hld]; have := HL.out; simp; omega, ⟨by rw [hst]; exact ins_perm _ HR.out.1, ins_sorted HR.out.2 (by omega) (fun i hi h => Hbf.out i hi h) (fun h => absurd h (by omega)) HF.out⟩, (hkw.trans hdr.kp).trans hkC⟩
            case measure => simp [intOf]; omega
    · have hkp : Hid (rows = setsL n) := by
        have h1 := HR.out.1
        rw [show b = P by omega, HP'.out] at h1
        exact setsL_uniq h1 HR.out.2
      go_wp2_with fail
      go_ret
      exact ⟨_, rfl, Hv.out, by rw [← hkp.out]; exact hown, hkb⟩
end Go.Proofs.YtblebedejddefaaGreat

namespace Go.Proofs.YtblebedejddefaaGreat
open Go.RowKit Go.Sort

def bestTo (v : List Int → Int) (rows : List (List Int)) (k : Nat) : List Int := (rows.take k).foldl (bestStep v) (rows.getD 0 [])
theorem bestTo_succ {v : List Int → Int} {rows : List (List Int)} {k : Nat} (hk : k < rows.length) : bestTo v rows (k + 1) = bestStep v (bestTo v rows k) rows[k] := by
  unfold bestTo
  rw [List.take_succ_eq_append_getElem hk, List.foldl_append]; rfl
theorem bestTo_all (v : List Int → Int) (rows : List (List Int)) : bestTo v rows rows.length = bestL v rows := by
  unfold bestTo bestL
  rw [List.take_length]
theorem bestTo_mem {v : List Int → Int} {rows : List (List Int)} (h0 : 0 < rows.length) : ∀ k, k ≤ rows.length → bestTo v rows k ∈ rows
  | 0, _ => by
    have e : rows.getD 0 [] = rows[0] := by simp [List.getD, h0]
    unfold bestTo
    rw [List.take_zero, List.foldl_nil, e]
    exact List.getElem_mem h0
  | k + 1, hk => by
    rw [bestTo_succ (by omega)]
    unfold bestStep
    by_cases h : v rows[k] < v (bestTo v rows k)
    · rw [if_pos h]; exact List.getElem_mem _
    · rw [if_neg h]; exact bestTo_mem h0 k (by omega)
theorem bestL_mem {v : List Int → Int} {rows : List (List Int)} (h0 : 0 < rows.length) : bestL v rows ∈ rows := by
  rw [← bestTo_all]; exact bestTo_mem h0 _ (Nat.le_refl _)
/-- A function value that tells a number of a row. -/
def Val (FN : FuncId) (pre caps : Array Value) (v : List Int → Int) (Q : List Int → Prop) (w : World) : Prop :=
  (∀ (args : Array Value) (w : World), Sem.run Tryz.prog (callFunc FN args) w = .ok (.enter FN args) w) ∧
  ∀ (S : List Int) (Av : Option Addr) (cv : Nat) (w' : World), Kp w w' → Q S → IntsAt w' Av S → S.length ≤ cv → Calls Tryz.prog FN (pre.push (.slice Av S.length cv) ++ caps) w' fun e w'' => e = .returned (.int .i64 (v S)) ∧ Kp w' w''
theorem Val.kp {FN : FuncId} {pre caps : Array Value} {v : List Int → Int} {Q : List Int → Prop} {w w' : World} (h : Val FN pre caps v Q w) (hk : Kp w w') : Val FN pre caps v Q w' :=
  ⟨h.1, fun S Av cv w2 h2 => h.2 S Av cv w2 (hk.trans h2)⟩
/-- A function value that tells whether something is so of a row. -/
def Tells (FN : FuncId) (pre caps : Array Value) (p : List Int → Bool) (Q : List Int → Prop) (w : World) : Prop :=
  (∀ (args : Array Value) (w : World), Sem.run Tryz.prog (callFunc FN args) w = .ok (.enter FN args) w) ∧
  ∀ (S : List Int) (Av : Option Addr) (cv : Nat) (w' : World), Kp w w' → Q S → IntsAt w' Av S → S.length ≤ cv → Calls Tryz.prog FN (pre.push (.slice Av S.length cv) ++ caps) w' fun e w'' => e = .returned (.bool (p S)) ∧ Kp w' w''
theorem Tells.kp {FN : FuncId} {pre caps : Array Value} {p : List Int → Bool} {Q : List Int → Prop} {w w' : World} (h : Tells FN pre caps p Q w) (hk : Kp w w') : Tells FN pre caps p Q w' :=
  ⟨h.1, fun S Av cv w2 h2 => h.2 S Av cv w2 (hk.trans h2)⟩
set_option maxHeartbeats 1000000 in
theorem least_any (FN : FuncId) (pre caps : Array Value) (v : List Int → Int) (Q : List Int → Prop) (lo : Option Nat) (A0 : Option Addr) (rows : List (List Int)) (n c0 : Nat) (w : World) (h : RowsAt w lo A0 rows) (hn : rows.length = n) (h0 : 0 < n) (hv : Val FN pre caps v Q w) (hq : ∀ S ∈ rows, Q S) :
    Calls Tryz.prog 37 #[.slice A0 n c0, .func (.func FN) pre caps] w fun e w' => ∃ u, e = .returned u ∧ RowP w' lo u (bestL v rows) ∧ Kp w w' := by
  have hm : n ≤ 9223372036854775807 := hn ▸ h.1
  have Hn := Lib.hid hn
  have HM := Lib.hid hv
  have HF := hv.1
  have HQ := Lib.hid hq
  have HB := Lib.hid (fun k (hk : k ≤ rows.length) => hq _ (bestTo_mem (v := v) (by omega) k hk))
  have HE := Lib.hid (bestTo_all v rows)
  clear hn hv hq
  have l0 : 0 < rows.length := by rw [Hn.out]; exact h0
  obtain ⟨ad, A2, c2, rfl, hcl, hc2, hri, hrp⟩ := h.at_ l0
  have hz : ad.add 0 = ad := by unfold Addr.add; simp
  rw [hz] at hcl
  have Hs := Lib.hid hrp
  have hst : Hid (bestTo v rows 0 = rows[0]) := by show _ = _; unfold bestTo; simp [List.getD, l0]
  clear hrp hri hz
  go_enter Tryz.func37, Tryz.ntmps37
  go_wp2_with fail
  clear hcl
  go_loopw [5, 13] (fun bv iv wr => ∃ (k : Nat) (Ab : Option Addr) (cb : Nat), k ≤ n ∧ iv = .int .i64 k ∧ bv = .slice Ab (bestTo v rows k).length cb ∧ RowP wr lo (.slice Ab (bestTo v rows k).length cb) (bestTo v rows k) ∧ Kp w wr) (fun _ iv _ => n - (intOf iv).toNat)
  case atStart => exact ⟨0, A2, c2, by omega, rfl, by rw [hst.out], by rw [hst.out]; exact Hs.out, Kp.refl _⟩
  case round =>
    obtain ⟨k, Ab, cb, hk, rfl, rfl, hb, hkb⟩ := hrel
    by_cases hlt : k < n
    · have lx : k < rows.length := by rw [Hn.out]; exact hlt
      obtain ⟨A3, c3, hcl, hc3, hri, hrp⟩ := (h.kp hkb).some_ lx
      obtain ⟨Ab', cb', eb, hcb, hbi⟩ := hb.read
      simp only [Value.slice.injEq] at eb
      obtain ⟨rfl, _, rfl⟩ := eb
      have q1 := Lib.hid (HQ.out _ (List.getElem_mem lx))
      have q2 := Lib.hid (HB.out k (Nat.le_of_lt lx))
      have hstep := Lib.hid (bestTo_succ (v := v) lx)
      go_wp2_with fail
      have CC := Lib.hid (HM.out.2 rows[k] A3 c3 _ hkb q1.out hri hc3)
      with_reducible refine Calls.mono CC.out ?_
      rintro e w1 ⟨rfl, hk1⟩
      clear CC
      replace hkb := hkb.trans hk1
      replace hb := hb.kp hk1
      replace hrp := hrp.kp hk1
      go_wp2_with fail
      have CC := Lib.hid (HM.out.2 (bestTo v rows k) Ab cb _ hkb q2.out (hbi.kp hk1) hcb)
      with_reducible refine Calls.mono CC.out ?_
      rintro e w2 ⟨rfl, hk2⟩
      clear CC
      replace hkb := hkb.trans hk2
      replace hb := hb.kp hk2
      replace hrp := hrp.kp hk2
      by_cases hlt2 : v rows[k] < v (bestTo v rows k)
      · have Hy : Hid (bestTo v rows (k + 1) = rows[k]) := by show _ = _; rw [hstep.out]; exact if_pos hlt2
        go_wp2_with fail
        go_roundw
        case rel => exact ⟨k + 1, A3, c3, by omega, by go_num, by rw [Hy.out], by rw [Hy.out]; exact hrp, hkb⟩
        case measure => simp [intOf]; omega
      · have Hy : Hid (bestTo v rows (k + 1) = bestTo v rows k) := by show _ = _; rw [hstep.out]; exact if_neg hlt2
        go_wp2_with fail
        go_roundw
        case rel => exact ⟨k + 1, Ab, cb, by omega, by go_num, by rw [Hy.out], by rw [Hy.out]; exact hb, hkb⟩
        case measure => simp [intOf]; omega
    · obtain rfl : k = n := by omega
      have Hy : Hid (bestTo v rows k = bestL v rows) := by show _ = _; rw [← HE.out, Hn.out]
      go_wp2_with fail
      go_ret
      exact ⟨_, rfl, by rw [← Hy.out]; exact hb, hkb⟩
end Go.Proofs.YtblebedejddefaaGreat

namespace Go.Proofs.YtblebedejddefaaGreat
open Go.RowKit Go.Sort

/-- All sets of n sites, that without sites first. -/
def allS (n : Nat) : List (List Int) := [] :: setsL n
theorem allS_len (n : Nat) : (allS n).length = 2 ^ n := by
  have := setsL_len n
  have h1 : 1 ≤ 2 ^ n := Nat.one_le_two_pow
  simp only [allS, List.length_cons]; omega
theorem allS_ris {n : Nat} : ∀ S ∈ allS n, risB S 0 ((n : Int) - 1) = true := fun S h => by
  rcases List.mem_cons.1 h with rfl | h
  · rfl
  · exact (mem_setsL.1 h).2
theorem RowsAt.mono {w : World} {b b' : Nat} {A : Option Addr} {rows : List (List Int)} (h : RowsAt w (some b) A rows) (hb : b' ≤ b) : RowsAt w (some b') A rows :=
  ⟨h.1, fun k hk => by obtain ⟨ad, u, e, hc, hp⟩ := h.2 k hk; exact ⟨ad, u, e, hc, hp.mono hb⟩⟩
theorem GOwn.lo_mono {w : World} {b b' base : Nat} {v : Value} {rows : List (List Int)} (h : GOwn w (some b) base v rows) (hb : b' ≤ b) : GOwn w (some b') base v rows := by
  obtain ⟨hs, h1, h2⟩ := h
  exact ⟨hs, h1, fun j hj => by obtain ⟨u, e1, e2, e3⟩ := h2 j hj; exact ⟨u, e1, e2.mono hb, fun _ => e3 (.inr (by simp))⟩⟩
/-- A literal slice of one row. -/
theorem gown_one {w : World} {lo : Option Nat} {base : Nat} {u : Value} {xs : List Int} (hb : base ≤ w.heap.size) (hu : RowP w lo u xs) (hn : xs ≠ [] ∨ lo ≠ none) :
    GOwn (w.alloc (.cells #[u] 24)) lo base (.slice (some ⟨w.heap.size, 0, none⟩) 1 1) [xs] :=
  ⟨[u], World.ownsRow_lit w #[u] 1 hb (by unfold maxLen; omega) (by simp), fun j hj => by
    obtain rfl : j = 0 := by simpa using hj
    refine ⟨u, rfl, hu.kp ((Kp.refl w).alloc _), fun _ g hg e => ?_⟩
    have := hu.lt hn g hg
    have e2 : w.heap.size = g := by simpa [Value.ownBlock] using e
    omega⟩
theorem own_blk' {g' g n c : Nat} (h : (Value.slice (some ⟨g', 0, none⟩) n c).ownBlock = some g) : g' = g := by simpa [Value.ownBlock] using h
theorem GOwn.nil_turn {S : Nat → Prop} {w w' : World} {lo : Option Nat} {base : Nat} {v : Value} (h : GOwn w lo base v []) (ht : Turn S w w') (hn : ∀ g, v.ownBlock = some g → ¬ S g) : GOwn w' lo base v [] := by
  obtain ⟨hs, h1, _⟩ := h
  exact ⟨hs, own_turn h1 ht hn, fun j hj => by simp at hj⟩
theorem RowsAt.turn {S : Nat → Prop} {w w' : World} {b : Nat} {ad : Addr} {rows : List (List Int)} (h : RowsAt w (some b) (some ad) rows) (ht : Turn S w w') (h1 : ¬ S ad.block) (h2 : ∀ g, b ≤ g → ¬ S g) : RowsAt w' (some b) (some ad) rows :=
  ⟨h.1, fun k hk => by
    obtain ⟨ad', u, e, hc, hp⟩ := h.2 k hk
    cases e
    refine ⟨ad, u, rfl, ?_, hp.turn ht (fun _ g hg => h2 g (((hp.2 b rfl).lt g hg).1))⟩
    have hb : (ad.add k).block < w.heap.size := World.block_lt_of_cell? _ _ hc
    rw [blk_add] at hb
    have hbk : w'.heap[(ad.add k).block]? = w.heap[(ad.add k).block]? := by rw [blk_add]; exact ht.block _ hb h1
    rw [World.cell?_of_block hbk]; exact hc⟩
def filTo (p : List Int → Bool) (rows : List (List Int)) (k : Nat) : List (List Int) := (rows.take k).filter p
theorem filTo_yes {p : List Int → Bool} {rows : List (List Int)} {k : Nat} (hk : k < rows.length) (h : p rows[k] = true) : filTo p rows (k + 1) = filTo p rows k ++ [rows[k]] := by
  unfold filTo
  rw [List.take_succ_eq_append_getElem hk, List.filter_append]
  simp [h]
theorem filTo_no {p : List Int → Bool} {rows : List (List Int)} {k : Nat} (hk : k < rows.length) (h : p rows[k] = false) : filTo p rows (k + 1) = filTo p rows k := by
  unfold filTo
  rw [List.take_succ_eq_append_getElem hk, List.filter_append]
  simp [h]
theorem filTo_len (p : List Int → Bool) (rows : List (List Int)) (k : Nat) : (filTo p rows k).length ≤ rows.length := by
  unfold filTo
  exact Nat.le_trans (List.length_filter_le _ _) (by simp; omega)
/-- The rows of a list that owns them lie behind the list's first block, or ahead of it. -/
theorem apart_out {w wl : World} {lo : Nat} {u : Value} {xs : List Int} (h : RowP wl (some (w.heap.size + 1)) u xs) (hlo : lo = w.heap.size) {v : Value} (hv : ∀ g, v.ownBlock = some g → g = lo ∨ wl.heap.size ≤ g) : (xs ≠ [] ∨ some (w.heap.size + 1) ≠ none) → ∀ g, u.ownBlock = some g → v.ownBlock ≠ some g := by
  intro _ g hg e
  have h1 := (h.2 _ rfl).lt g hg
  rcases hv g e with h2 | h2 <;> omega
end Go.Proofs.YtblebedejddefaaGreat

namespace Go.Proofs.YtblebedejddefaaGreat
open Go.RowKit Go.Sort

/-- What a loop over all rows picks, beginning with none: the best of those that pass, if any passes and every row is less than none. -/
def pk0 (p : List Int → Bool) (v : List Int → Int) (rows : List (List Int)) (k : Nat) : List Int := (rows.take k).foldl (fun b s => if p s = true then bestStep v b s else b) []
theorem pk0_zero (p : List Int → Bool) (v : List Int → Int) (rows : List (List Int)) : pk0 p v rows 0 = [] := rfl
theorem pk0_yes {p : List Int → Bool} {v : List Int → Int} {rows : List (List Int)} {k : Nat} (hk : k < rows.length) (h : p rows[k] = true) (h2 : v rows[k] < v (pk0 p v rows k)) : pk0 p v rows (k + 1) = rows[k] := by
  unfold pk0 at *
  rw [List.take_succ_eq_append_getElem hk, List.foldl_append]
  simp only [List.foldl_cons, List.foldl_nil, h, if_true, bestStep]
  exact if_pos h2
theorem pk0_no {p : List Int → Bool} {v : List Int → Int} {rows : List (List Int)} {k : Nat} (hk : k < rows.length) (h : ¬ (p rows[k] = true ∧ v rows[k] < v (pk0 p v rows k))) : pk0 p v rows (k + 1) = pk0 p v rows k := by
  unfold pk0 at *
  rw [List.take_succ_eq_append_getElem hk, List.foldl_append]
  simp only [List.foldl_cons, List.foldl_nil]
  by_cases hp : p rows[k] = true
  · rw [if_pos hp]; unfold bestStep; exact if_neg (fun h2 => h ⟨hp, h2⟩)
  · rw [if_neg hp]
theorem pk0_fil {p : List Int → Bool} {v : List Int → Int} : ∀ (rows : List (List Int)) (b : List Int), rows.foldl (fun b s => if p s = true then bestStep v b s else b) b = (rows.filter p).foldl (bestStep v) b
  | [], _ => rfl
  | s :: t, b => by
    simp only [List.foldl_cons]
    by_cases hp : p s = true
    · rw [if_pos hp, List.filter_cons_of_pos hp, List.foldl_cons, pk0_fil t]
    · rw [if_neg hp, List.filter_cons_of_neg (by simpa using hp), pk0_fil t]
theorem pk0_all {p : List Int → Bool} {v : List Int → Int} {rows : List (List Int)} (h : ∀ s ∈ rows, v s < v []) : pk0 p v rows rows.length = bestL v (rows.filter p) := by
  unfold pk0 bestL
  rw [List.take_length, pk0_fil]
  cases hf : rows.filter p with
  | nil => rfl
  | cons a t =>
    have ha : a ∈ rows := (List.mem_filter.1 (hf ▸ List.mem_cons_self : a ∈ rows.filter p)).1
    have e1 : bestStep v [] a = a := if_pos (h a ha)
    have e2 : bestStep v a a = a := if_neg (by omega)
    simp only [List.getD_cons_zero, List.foldl_cons, e1, e2]
theorem pk0_mem {p : List Int → Bool} {v : List Int → Int} {rows : List (List Int)} : ∀ k, k ≤ rows.length → pk0 p v rows k = [] ∨ pk0 p v rows k ∈ rows
  | 0, _ => .inl rfl
  | k + 1, hk => by
    by_cases h : p (rows[k]'(by omega)) = true ∧ v (rows[k]'(by omega)) < v (pk0 p v rows k)
    · rw [pk0_yes (by omega) h.1 h.2]; exact .inr (List.getElem_mem _)
    · rw [pk0_no (by omega) h]; exact pk0_mem k (by omega)
end Go.Proofs.YtblebedejddefaaGreat

namespace Go.Proofs.YtblebedejddefaaGreat
open Go.RowKit Go.Sort

def openedB (F : Fld) (S : List Int) : Bool := goodF F && setB F S && decide (0 < S.length)
theorem openedB_parts {F : Fld} {S : List Int} (h : openedB F S = true) : goodF F = true ∧ setB F S = true ∧ S ≠ [] := by
  simp only [openedB, Bool.and_eq_true, decide_eq_true_eq] at h
  exact ⟨h.1.1, h.1.2, List.length_pos_iff.1 h.2⟩
theorem l2Two_any (f : Value) (F : Fld) (A0 : Option Addr) (S : List Int) (n c0 : Nat) (w : World) (hf : FldAt w f F) (hS : IntsAt w A0 S) (hn : S.length = n) :
    Calls Tryz.prog 51 #[f, .slice A0 n c0] w fun e w' => e = .returned (.bool (openedB F S)) ∧ Kp w w' := by
  obtain ⟨A, c, B, d, rfl, hA, hB⟩ := hf
  have hk0 : Kp w (w.alloc (.cells #[.slice A F.op.length c, .slice B F.di.length d] 27)) := (Kp.refl w).alloc _
  obtain ⟨d0, d1⟩ := box2 w (.slice A F.op.length c) (.slice B F.di.length d) 27
  have hFA := FldAt.kp (show FldAt w (.agg #[.slice A F.op.length c, .slice B F.di.length d]) F from ⟨A, c, B, d, rfl, hA, hB⟩) hk0
  have Hn := Lib.hid hn; clear hn
  go_enter Tryz.func51, Tryz.ntmps51
  go_wp2_with fail
  generalize w.alloc (.cells #[.slice A F.op.length c, .slice B F.di.length d] 27) = wb at *
  have CC := Lib.hid (l2Good_any _ F _ hFA)
  with_reducible refine Calls.mono CC.out ?_
  rintro e w1 ⟨rfl, hk1⟩
  clear CC
  have e0 := hk1.get d0; have e1 := hk1.get d1
  have K := hk0.trans hk1
  cases hg : goodF F
  · have Hg := Lib.hid hg; clear hg
    go_wp2_with fail
    go_ret
    exact ⟨ret_bool (by simp [openedB, Hg.out, Array.getD]), K⟩
  have Hg := Lib.hid hg; clear hg
  go_wp2_with fail
  have CC := Lib.hid (l2Set_any _ F A0 S n c0 _ (hFA.kp hk1) (hS.kp K) Hn.out)
  with_reducible refine Calls.mono CC.out ?_
  rintro e w2 ⟨rfl, hk2⟩
  clear CC
  cases h2 : setB F S
  · have H2 := Lib.hid h2; clear h2
    go_wp2_with fail
    go_ret
    exact ⟨ret_bool (by simp [openedB, H2.out, Array.getD]), K.trans hk2⟩
  have H2 := Lib.hid h2; clear h2
  go_wp2_with fail
  go_ret
  refine ⟨ret_bool ?_, K.trans hk2⟩
  rw [openedB, Hg.out, H2.out, Hn.out, Bool.eq_iff_iff]
  simp [Array.getD]
theorem isSet_any (f : Value) (F : Fld) (A0 : Option Addr) (S : List Int) (n c0 : Nat) (w : World) (hf : FldAt w f F) (hS : IntsAt w A0 S) (hn : S.length = n) :
    Calls Tryz.prog 84 #[f, .slice A0 n c0] w fun e w' => e = .returned (.bool (setB F S && decide (0 < S.length))) ∧ Kp w w' := by
  obtain ⟨A, c, B, d, rfl, hA, hB⟩ := hf
  have hk0 : Kp w (w.alloc (.cells #[.slice A F.op.length c, .slice B F.di.length d] 27)) := (Kp.refl w).alloc _
  have hAl := hA.1
  have Hn := Lib.hid hn; clear hn
  by_cases hp : 0 < n
  · have t1 : decide ((0 : Int) < (n : Int)) = true := by simp; omega
    go_enter Tryz.func84, Tryz.ntmps84
    go_wp2_with fail
    have CC := Lib.hid (isRising_any A0 S n c0 F.op.length _ (hS.kp hk0) Hn.out (by omega) (by omega))
    with_reducible refine Calls.mono CC.out ?_
    rintro e w2 ⟨rfl, hw2⟩
    obtain rfl := hw2
    clear CC
    go_wp2_with fail
    go_ret
    refine ⟨ret_bool ?_, hk0⟩
    rw [Hn.out]
    simp [setB, Array.getD, hp]
  · have t1 : decide ((0 : Int) < (n : Int)) = false := by simp; omega
    have t2 : n ≤ 0 := by omega
    go_enter Tryz.func84, Tryz.ntmps84
    go_wp2_with fail
    go_ret
    refine ⟨ret_bool ?_, hk0⟩
    rw [Hn.out]
    simp [Array.getD, hp]
theorem isOpened_any (f : Value) (F : Fld) (A0 : Option Addr) (S : List Int) (n c0 : Nat) (w : World) (hf : FldAt w f F) (hS : IntsAt w A0 S) (hn : S.length = n) :
    Calls Tryz.prog 50 #[f, .slice A0 n c0] w fun e w' => e = .returned (.bool (openedB F S)) ∧ Kp w w' := by
  obtain ⟨A, c, B, d, rfl, hA, hB⟩ := hf
  have hk0 : Kp w (w.alloc (.cells #[.slice A F.op.length c, .slice B F.di.length d] 27)) := (Kp.refl w).alloc _
  obtain ⟨d0, d1⟩ := box2 w (.slice A F.op.length c) (.slice B F.di.length d) 27
  have hFA := FldAt.kp (show FldAt w (.agg #[.slice A F.op.length c, .slice B F.di.length d]) F from ⟨A, c, B, d, rfl, hA, hB⟩) hk0
  have Hn := Lib.hid hn; clear hn
  go_enter Tryz.func50, Tryz.ntmps50
  go_wp2_with fail
  generalize w.alloc (.cells #[.slice A F.op.length c, .slice B F.di.length d] 27) = wb at *
  have CC := Lib.hid (isField_any _ F _ hFA)
  with_reducible refine Calls.mono CC.out ?_
  rintro e w1 ⟨rfl, hk1⟩
  clear CC
  have e0 := hk1.get d0; have e1 := hk1.get d1
  have K := hk0.trans hk1
  cases hg : goodF F
  · have Hg := Lib.hid hg; clear hg
    go_wp2_with fail
    go_ret
    exact ⟨ret_bool (by simp [openedB, Hg.out, Array.getD]), K⟩
  have Hg := Lib.hid hg; clear hg
  go_wp2_with fail
  have CC := Lib.hid (isSet_any _ F A0 S n c0 _ (hFA.kp hk1) (hS.kp K) Hn.out)
  with_reducible refine Calls.mono CC.out ?_
  rintro e w2 ⟨rfl, hk2⟩
  clear CC
  go_wp2_with fail
  go_ret
  exact ⟨ret_bool (by rw [openedB, Hg.out, Bool.true_and]), K.trans hk2⟩
end Go.Proofs.YtblebedejddefaaGreat

namespace Go.Proofs.YtblebedejddefaaGreat
open Go.RowKit Go.Sort

theorem fold_min {F : Fld} {i : Nat} : ∀ (L : List Int) (b : Int), dAt F i (L.foldl (stepS F i) b) ≤ dAt F i b ∧ ∀ a ∈ L, dAt F i (L.foldl (stepS F i) b) ≤ dAt F i a
  | [], b => ⟨Int.le_refl _, by simp⟩
  | x :: L, b => by
    have h := fold_min (F := F) (i := i) L (stepS F i b x)
    have hb : dAt F i (stepS F i b x) ≤ dAt F i b ∧ dAt F i (stepS F i b x) ≤ dAt F i x := by
      unfold stepS; split <;> constructor <;> omega
    refine ⟨Int.le_trans h.1 hb.1, fun a ha => ?_⟩
    rcases List.mem_cons.1 ha with rfl | ha
    · exact Int.le_trans h.1 hb.2
    · exact h.2 a ha
theorem near_le {F : Fld} {i : Nat} {S : List Int} {x : Int} (hx : x ∈ S) : nearF F i S ≤ dAt F i x := by
  cases S with
  | nil => cases hx
  | cons y t =>
    have h := fold_min (F := F) (i := i) (y :: t) y
    exact h.2 x hx
theorem near_is {F : Fld} {i : Nat} {S : List Int} (hne : S ≠ []) : ∃ x ∈ S, nearF F i S = dAt F i x := ⟨siteF F i S, siteF_mem hne, rfl⟩
end Go.Proofs.YtblebedejddefaaGreat

namespace Go.Proofs.YtblebedejddefaaGreat
open Go.RowKit Go.Sort

/-- What a client is worth for a set, 0 for the set without sites. -/
def topF (F : Fld) (worth : Int) (S : List Int) (i : Nat) : Int := if S = [] then 0 else gainAt F worth S i
theorem gainF_top (F : Fld) (worth : Int) (S : List Int) : gainF F worth S = sumTo (topF F worth S) F.di.length := by
  by_cases h : S = []
  · subst h
    rw [gainF_nil]
    have : ∀ k, sumTo (topF F worth []) k = 0 := fun k => by
      induction k with
      | zero => rfl
      | succ k ih => rw [sumTo_succ, ih]; simp [topF]
    exact (this _).symm
  · rw [gainF_cons h]
    have : topF F worth S = gainAt F worth S := by funext i; simp [topF, h]
    rw [this]
theorem top_le {F : Fld} {worth c : Int} {S : List Int} {i : Nat} : topF F worth S i ≤ c ↔ (S = [] → 0 ≤ c) ∧ (S ≠ [] → 0 ≤ c) ∧ ∀ x ∈ S, worth - dAt F i x ≤ c := by
  by_cases h : S = []
  · subst h
    simp [topF]
  · have e : topF F worth S i = max 0 (worth - nearF F i S) := by simp [topF, h, gainAt]
    rw [e]
    constructor
    · intro h1
      refine ⟨fun h2 => absurd h2 h, fun _ => by omega, fun x hx => ?_⟩
      have := near_le (F := F) (i := i) hx
      omega
    · rintro ⟨_, h2, h3⟩
      obtain ⟨x, hx, e2⟩ := near_is (F := F) (i := i) h
      have := h3 x hx
      have := h2 h
      omega
theorem top_le' {F : Fld} {worth c : Int} {S : List Int} {i : Nat} (h0 : 0 ≤ c) (h : ∀ x ∈ S, worth - dAt F i x ≤ c) : topF F worth S i ≤ c := top_le.2 ⟨fun _ => h0, fun _ => h0, h⟩
theorem top_nn (F : Fld) (worth : Int) (S : List Int) (i : Nat) : 0 ≤ topF F worth S i := by
  by_cases h : S = []
  · simp [topF, h]
  · simp [topF, h, gainAt]; omega
theorem le_top {F : Fld} {worth : Int} {S : List Int} {i : Nat} {x : Int} (hx : x ∈ S) : worth - dAt F i x ≤ topF F worth S i := (top_le.1 (Int.le_refl _)).2.2 x hx
theorem top_mono {F : Fld} {worth : Int} {S T : List Int} (h : ∀ x ∈ S, x ∈ T) (i : Nat) : topF F worth S i ≤ topF F worth T i :=
  top_le' (top_nn _ _ _ _) (fun x hx => le_top (h x hx))
theorem sumTo_mono {g h : Nat → Int} (e : ∀ i, g i ≤ h i) : ∀ k, sumTo g k ≤ sumTo h k
  | 0 => by simp [sumTo_zero]
  | k + 1 => by rw [sumTo_succ, sumTo_succ]; have := sumTo_mono e k; have := e k; omega
theorem sumTo_add (g h : Nat → Int) : ∀ k, sumTo (fun i => g i + h i) k = sumTo g k + sumTo h k
  | 0 => by simp [sumTo_zero]
  | k + 1 => by rw [sumTo_succ, sumTo_succ, sumTo_succ, sumTo_add g h k]; omega
/-- More sites do not make the gain less. -/
theorem gain_mono {F : Fld} {worth : Int} {S T : List Int} (h : ∀ x ∈ S, x ∈ T) : gainF F worth S ≤ gainF F worth T := by
  rw [gainF_top, gainF_top]
  exact sumTo_mono (top_mono h) _
/-- Two sets have at least the gain of what is in both and of what is in one of them. -/
theorem gain_submod {F : Fld} {worth : Int} {S T U V : List Int} (hU : ∀ x ∈ U, x ∈ S ∧ x ∈ T) (hV : ∀ x ∈ V, x ∈ S ∨ x ∈ T) : gainF F worth U + gainF F worth V ≤ gainF F worth S + gainF F worth T := by
  rw [gainF_top, gainF_top, gainF_top, gainF_top, ← sumTo_add, ← sumTo_add]
  refine sumTo_mono (fun i => ?_) _
  have h1 := top_mono (F := F) (worth := worth) (fun x hx => (hU x hx).1) i
  have h2 := top_mono (F := F) (worth := worth) (fun x hx => (hU x hx).2) i
  have n1 := top_nn F worth S i
  have n2 := top_nn F worth T i
  have h3 : topF F worth V i ≤ max (topF F worth S i) (topF F worth T i) := top_le' (by omega) (fun x hx => by
    rcases hV x hx with h | h
    · have := le_top (F := F) (worth := worth) (i := i) h; omega
    · have := le_top (F := F) (worth := worth) (i := i) h; omega)
  omega
end Go.Proofs.YtblebedejddefaaGreat

namespace Go.Proofs.YtblebedejddefaaGreat
open Go.RowKit Go.Sort

/-- Client j is nearer to S than to L. -/
def takenB (F : Fld) (L S : List Int) (j : Nat) : Bool := !S.isEmpty && decide (nearF F j S < nearF F j L)
def takenTo (F : Fld) (L S : List Int) (k : Nat) : List Int := ((List.range k).filter (takenB F L S)).map fun (x : Nat) => (x : Int)
theorem takenTo_zero (F : Fld) (L S : List Int) : takenTo F L S 0 = [] := rfl
theorem takenTo_yes {F : Fld} {L S : List Int} {k : Nat} (h : takenB F L S k = true) : takenTo F L S (k + 1) = takenTo F L S k ++ [(k : Int)] := by simp [takenTo, List.range_succ, List.filter_append, h]
theorem takenTo_no {F : Fld} {L S : List Int} {k : Nat} (h : takenB F L S k = false) : takenTo F L S (k + 1) = takenTo F L S k := by simp [takenTo, List.range_succ, List.filter_append, h]
theorem takenTo_len (F : Fld) (L S : List Int) (k : Nat) : (takenTo F L S k).length ≤ k := by
  unfold takenTo
  rw [List.length_map]
  exact Nat.le_trans (List.length_filter_le _ _) (by simp)
theorem takenTo_nil (F : Fld) (L : List Int) (k : Nat) : takenTo F L [] k = [] := by
  have : (takenB F L []) = fun _ => false := by funext j; rfl
  simp [takenTo, this]
/-- Somebody of S is nearer than d exactly if the nearest is. -/
theorem near_any {F : Fld} {i : Nat} {S : List Int} {d : Int} : (S.any fun a => decide (dAt F i a < d)) = (!S.isEmpty && decide (nearF F i S < d)) := by
  cases S with
  | nil => rfl
  | cons x S =>
    have hne : x :: S ≠ [] := by simp
    rw [Bool.eq_iff_iff]
    simp only [List.any_eq_true, decide_eq_true_eq, List.isEmpty_cons, Bool.not_false, Bool.true_and]
    constructor
    · rintro ⟨a, ha, hl⟩
      exact Int.lt_of_le_of_lt ((fold_min _ _).2 a ha) hl
    · intro h
      exact ⟨_, siteF_mem hne, h⟩
def takenOk (F : Fld) (L S : List Int) : Bool := openedB F L && setB F S && !(S.any fun x => L.any fun y => y == x)
def takenL (F : Fld) (L S : List Int) : List Int := if takenOk F L S = true then takenTo F L S F.di.length else []
theorem takenL_yes {F : Fld} {L S : List Int} (h : takenOk F L S = true) : takenL F L S = takenTo F L S F.di.length := if_pos h
theorem takenL_no {F : Fld} {L S : List Int} (h : takenOk F L S = false) : takenL F L S = [] := if_neg (by simp [h])
theorem takenL_len (F : Fld) (L S : List Int) : (takenL F L S).length ≤ 1048576 := by
  by_cases h : takenOk F L S = true
  · rw [takenL_yes h]
    refine Nat.le_trans (takenTo_len F L S _) ?_
    have h1 : openedB F L = true := by simp only [takenOk, Bool.and_eq_true] at h; exact h.1.1
    have := (goodF_iff.1 (openedB_parts h1).1).2.2.1
    omega
  · rw [takenL_no (by simpa using h)]; simp
/-- The two sets share nothing exactly if their numbers share no bit. -/
theorem bag_apart {L S : List Int} (hL : ∀ y ∈ L, 0 ≤ y) (hS : ∀ y ∈ S, 0 ≤ y) : decide (bagN L &&& bagN S = 0) = !(S.any fun x => L.any fun y => y == x) := by
  rw [Bool.eq_iff_iff]
  simp only [decide_eq_true_eq, Bool.not_eq_true', List.any_eq_false, List.any_eq_true, beq_iff_eq, not_exists, not_and]
  constructor
  · intro h x hx y hy e
    have hb : (bagN L &&& bagN S).testBit x.toNat = true := by
      have hx0 := hS x hx
      have hxe : ((x.toNat : Nat) : Int) = x := by omega
      rw [Nat.testBit_and, bagN_bit hL, bagN_bit hS, hxe]
      simp [hx, e ▸ hy]
    rw [h] at hb
    simp at hb
  · intro h
    apply Nat.eq_of_testBit_eq
    intro i
    rw [Nat.testBit_and, bagN_bit hL, bagN_bit hS, Nat.zero_testBit]
    by_cases h1 : (i : Int) ∈ L <;> by_cases h2 : (i : Int) ∈ S <;> simp [h1, h2]
    exact h _ h2 _ h1 rfl
end Go.Proofs.YtblebedejddefaaGreat

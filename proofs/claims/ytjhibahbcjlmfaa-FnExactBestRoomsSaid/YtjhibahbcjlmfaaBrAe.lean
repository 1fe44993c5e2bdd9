/- All sets of some sites in their order, as the reference tells them; least and lists: the first row with the least value; the rows of which something is so; Gains of sets: the program's answer and the reference's; lists and most: the sets of which something is so; the one with the greatest gain; What a loop over all rows picks, beginning with none; Fields with a set of at least one site: the program's test and the reference's; Rooms and needs: reference and program; A number of a list, 0 behind its end. No condition. -/
import Derived.Test.YtjhibahbcjlmfaaBrAd
import Derived.Deep.RegionHeld3
import Derived.Test.YtjhibahbcjlmfaaBrAc
import Derived.Test.YtjhibahbcjlmfaaBrAb
import Derived.Test.YtjhibahbcjlmfaaBrAa
namespace Go.Proofs.Ytjhibahbcjlmfaa
open Go.RowKit Go.Sort Go.Shelf

theorem rowsTo_mem {n k : Nat} {S : List Int} (h : S ∈ rowsTo n k) : ∃ c, c < k ∧ S = bitsL n (c + 1) := by
  simp only [rowsTo, List.mem_map, List.mem_range] at h
  obtain ⟨c, hc, rfl⟩ := h
  exact ⟨c, hc, rfl⟩
/-- One more set, put where it belongs. -/
theorem ins_sorted {rows : List (List Int)} {S : List Int} {k : Nat} (hs : rows.Pairwise (fun a b => befB a b = true)) (hk : k ≤ rows.length) (h1 : ∀ j (hj : j < rows.length), k ≤ j → befB S rows[j] = true) (h2 : 0 < k → befB S (rows.getD (k - 1) []) = false) (hn : S ∉ rows) :
    (rows.take k ++ [S] ++ rows.drop k).Pairwise (fun a b => befB a b = true) := by
  have hb : ∀ x ∈ rows.take k, befB x S = true := by
    intro x hx
    obtain ⟨j, hj, rfl⟩ := List.getElem_of_mem hx
    have hj2 : j < k := by simp at hj; omega
    have hj3 : j < rows.length := by omega
    rw [List.getElem_take]
    have h3 := h2 (by omega)
    have e4 : rows.getD (k - 1) [] = rows[k - 1]'(by omega) := by simp [List.getD, show k - 1 < rows.length by omega]
    rw [e4] at h3
    have hlast : befB (rows[k - 1]'(by omega)) S = true := by
      cases hh : befB (rows[k - 1]'(by omega)) S with
      | true => rfl
      | false => exact absurd (befB_total h3 hh) (fun e => hn (e ▸ List.getElem_mem _))
    rcases Nat.lt_or_ge j (k - 1) with h | h
    · exact befB_trans (List.pairwise_iff_getElem.1 hs j (k - 1) hj3 (by omega) h) hlast
    · have e : j = k - 1 := by omega
      subst e; exact hlast
  have ha : ∀ x ∈ rows.drop k, befB S x = true := by
    intro x hx
    obtain ⟨j, hj, rfl⟩ := List.getElem_of_mem hx
    have hj2 : k + j < rows.length := by simp at hj; omega
    rw [List.getElem_drop]
    exact h1 _ hj2 (by omega)
  rw [List.append_assoc, List.pairwise_append]
  refine ⟨hs.sublist (List.take_sublist _ _), ?_, ?_⟩
  · rw [List.singleton_append, List.pairwise_cons]
    exact ⟨ha, hs.sublist (List.drop_sublist _ _)⟩
  · intro x hx y hy
    rcases List.mem_append.1 hy with hy | hy
    · have : y = S := by simpa using hy
      subst this; exact hb x hx
    · obtain ⟨i, hi, rfl⟩ := List.getElem_of_mem hx
      obtain ⟨j, hj, rfl⟩ := List.getElem_of_mem hy
      have hi2 : i < k := by simp at hi; omega
      have hj2 : k + j < rows.length := by simp at hj; omega
      rw [List.getElem_take, List.getElem_drop]
      exact List.pairwise_iff_getElem.1 hs i (k + j) (by omega) hj2 (by omega)
theorem ins_perm {rows l : List (List Int)} {S : List Int} (k : Nat) (h : rows.Perm l) : (rows.take k ++ [S] ++ rows.drop k).Perm (l ++ [S]) := by
  have h1 : (rows.take k ++ [S] ++ rows.drop k).Perm (S :: rows) := by
    rw [List.append_assoc, List.singleton_append]
    refine List.perm_middle.trans ?_
    rw [List.take_append_drop]
  exact h1.trans ((List.Perm.cons S h).trans (List.perm_append_singleton S l).symm)
theorem fresh_code {n c : Nat} {rows : List (List Int)} (hc : c + 1 < 2 ^ n) (hp : rows.Perm (rowsTo n c)) : bitsL n (c + 1) ∉ rows := by
  intro h
  obtain ⟨d, hd, e⟩ := rowsTo_mem (hp.mem_iff.1 h)
  have := bitsL_inj (by omega) (by omega) e
  omega
theorem gown_ab (w : World) (lo : Option Nat) (o : Obj) : GOwn ((w.alloc (.cells #[] 22)).alloc o) lo w.heap.size (.slice (some ⟨w.heap.size, 0, none⟩) 0 0) [] :=
  (gown_new w lo _ (Nat.le_refl _)).kp ((Kp.refl _).alloc _)
theorem gown_ba (w : World) (lo : Option Nat) (o : Obj) : GOwn ((w.alloc o).alloc (.cells #[] 22)) lo w.heap.size (.slice (some ⟨w.heap.size + 1, 0, none⟩) 0 0) [] := by
  have := gown_new (w.alloc o) lo w.heap.size (by simp)
  simpa using this
theorem hd_ab (w : World) (u : Value) : ((w.alloc (.cells #[] 22)).alloc (.cells #[u] 22)).cell? ⟨w.heap.size + 1, 0, none⟩ = some u := by
  rw [World.cell?_alloc_at _ _ _ _ (by simp)]; rfl
theorem hd_ba (w : World) (u : Value) : ((w.alloc (.cells #[u] 22)).alloc (.cells #[] 22)).cell? ⟨w.heap.size, 0, none⟩ = some u :=
  ((Kp.refl _).alloc _).get (by rw [World.cell?_alloc_at _ _ _ _ rfl]; rfl)
theorem cell_turn {T : Nat → Prop} {W w' : World} {p : Addr} {u : Value} (h : W.cell? p = some u) (ht : Turn T W w') (hg : ¬ T p.block) : w'.cell? p = some u := by
  have hb : p.block < W.heap.size := World.block_lt_of_cell? _ _ h
  rw [World.cell?_of_block (ht.block p.block hb hg)]; exact h
theorem Kp.turn_new {w0 W w' : World} {lo : Option Nat} {v : Value} {rows : List (List Int)} (_ : Kp w0 w0) (h : Kp w0 W) (ht : Turn (fun i => v.ownBlock = some i) W w') (ho : GOwn W lo w0.heap.size v rows) : Kp w0 w' :=
  ho.kp_turn h (Nat.le_refl _) ht
set_option maxRecDepth 100000 in
set_option maxHeartbeats 4000000 in
theorem l2Sets_any (n : Nat) (w : World) (hn : n ≤ 7) :
    Calls Try.prog 18 #[.int .i64 n] w fun e w' => ∃ v, e = .returned v ∧ v ≠ .slice none 0 0 ∧ GOwn w' (some w.heap.size) w.heap.size v (setsL n) ∧ Kp w w' := by
  obtain ⟨P, HP, hpw, hP⟩ := pow_wrap (n : Int) (by omega) (by omega)
  rw [Int.toNat_natCast] at hpw
  have HP' : Hid (P = 2 ^ n) := by show P = _; simpa using HP.out
  have hP1 : 1 ≤ P := by rw [HP'.out]; exact Nat.one_le_two_pow
  go_enter Try.func18, Try.ntmps18
  go_wp2_with fail
  go_loopw [3, 4] (fun ov bv wr => ∃ (b : Nat) (rows : List (List Int)), 1 ≤ b ∧ b ≤ P ∧ bv = .int .i64 (b : Nat) ∧ Hid (ov ≠ .slice none 0 0) ∧ GOwn wr (some w.heap.size) w.heap.size ov rows ∧ Hid (rows.length = b - 1) ∧ Hid (rows.Perm (rowsTo n (b - 1)) ∧ rows.Pairwise (fun x y => befB x y = true)) ∧ Kp w wr) (fun _ bv _ => P - (intOf bv).toNat)
  case atStart => exact ⟨1, [], by omega, by omega, rfl, by show _ ≠ _; simp, gown_new w _ w.heap.size (Nat.le_refl _), rfl, ⟨List.Perm.refl _, List.Pairwise.nil⟩, (Kp.refl _).alloc _⟩
  case round =>
    obtain ⟨b, rows, hb1, hk, rfl, Hv, hown, HL, HR, hkb⟩ := hrel
    obtain ⟨ad, cap, rfl, hcap, hrw⟩ := hown.rows_some (by rw [HL.out]; omega) Hv.out
    by_cases hlt : b < P
    · have hb : b < 2 ^ n := by rw [← HP'.out]; exact hlt
      have HF := Lib.hid (fresh_code (n := n) (c := b - 1) (by omega) HR.out.1)
      rw [Nat.sub_add_cancel hb1] at HF
      clear hb
      have hl7 : rows.length < 128 := by rw [HL.out]; omega
      have hkw0 := hkb
      go_wp2_with fail
      have CC := Lib.hid (l2Bits_any n b wr (by omega) (by omega))
      with_reducible refine Calls.mono CC.out ?_
      rintro e w1 ⟨v, rfl, ho, hk1⟩
      clear CC
      replace hkb := hkb.trans hk1
      replace hown := hown.kp hk1
      replace hrw := hrw.kp hk1
      obtain ⟨Av, cv, hve, hiv⟩ := ho.ints (by have := bitsL_len n b; omega)
      have hcv := ho.capL hve
      have hrp := (RowP.of_own ho (by have := bitsL_len n b; omega)).mono (b' := w.heap.size) hkw0.le
      subst hve
      generalize hrl : rows.length = m at *
      go_wp2_with fail
      obtain ⟨wo, rfl⟩ : ∃ wo : World, wo = wr := ⟨_, rfl⟩
      obtain ⟨w5, rfl⟩ : ∃ w5 : World, w5 = w1 := ⟨_, rfl⟩
      go_loopw [6] (fun kv wr => ∃ k : Nat, k ≤ m ∧ kv = .int .i64 k ∧ Hid (∀ j (hj : j < rows.length), k ≤ j → befB (bitsL n b) rows[j] = true) ∧ Dr w5 wr) (fun kv _ => (intOf kv).toNat)
      case atStart => exact ⟨m, Nat.le_refl _, rfl, by show ∀ j (hj : j < rows.length), _ → _; intro j hj h; omega, Dr.refl _⟩
      case round =>
        obtain ⟨k, hkm, rfl, Hbf, hdr⟩ := hrel
        have hrw' := hrw.kp hdr.kp
        have hiv' := hiv.kp hdr.kp
        by_cases h0 : 0 < k
        · obtain ⟨j, rfl⟩ : ∃ j, k = j + 1 := ⟨k - 1, by omega⟩
          have lx : j < rows.length := by omega
          obtain ⟨A2, c2, hcl, hc2, hri, _⟩ := hrw'.some_ lx
          go_wp2_with fail
          have CC := Lib.hid (l2Before_any Av A2 (bitsL n b) rows[j] _ _ cv c2 wr hiv' rfl hri rfl)
          with_reducible refine Calls.mono CC.out ?_
          rintro e w2 ⟨rfl, hd2⟩
          have hk2 := hd2.kp
          clear CC
          cases hbb : befB (bitsL n b) rows[j]
          · have Hb0 := Lib.hid hbb
            clear hbb
            have hrz := hrw'.kp hk2
            have hiz := (hrp.kp hdr.kp).kp hk2
            have hdz := hdr.trans hd2
            have hkc : j + 1 ≤ cap := by omega

            have Hj : Hid (0 < j + 1 → befB (bitsL n b) (rows.getD (j + 1 - 1) []) = false) := by
              show 0 < j + 1 → _
              intro _
              have e4 : rows.getD (j + 1 - 1) [] = rows[j] := by simp [List.getD, lx]
              rw [e4]
              exact Hb0.out
            clear hcl hc2 hri hrw' hiv'
            clear h0 Hb0
            generalize hjk : j + 1 = k at *
            clear hjk
            have hkw := hkb
            have hA := Lib.hid ((gown_new w2 (some w.heap.size) w2.heap.size (Nat.le_refl _)).drew)
            have hAB := Lib.hid ((gown_ab w2 (some w.heap.size) (.cells #[(.slice Av (bitsL n b).length cv)] 22)).drew)
            have hBA := Lib.hid ((gown_ba w2 (some w.heap.size) (.cells #[(.slice Av (bitsL n b).length cv)] 22)).drew)
            have cAB := Lib.hid (hd_ab w2 (.slice Av (bitsL n b).length cv))
            have cBA := Lib.hid (hd_ba w2 (.slice Av (bitsL n b).length cv))
            have hT1 := Lib.hid (hrz.take (k))
            have hT2 := Lib.hid (hrz.tail (c := cap) (by rw [hrl]; exact hcap) (k))
            have hkz : Kp w2 w2 := Kp.refl _
            have hlk : (rows.take (k)).length = k := by rw [List.length_take, hrl]; omega
            have hld : (rows.drop (k)).length = m - (k) := by rw [List.length_drop, hrl]
            have hl1 : ([] : List (List Int)).length + (rows.take (k)).length ≤ 4194304 := by rw [hlk]; simp <;> omega
            have hl2 : (([] : List (List Int)) ++ rows.take (k)).length < 1048576 := by rw [List.length_append, hlk]; simp <;> omega
            have hl4 : (([] : List (List Int)) ++ rows.take (k) ++ [bitsL n b]).length + (rows.drop (k)).length ≤ 4194304 := by rw [List.length_append, List.length_append, hlk, hld]; simp <;> omega
            go_wp2_with fail
            go_region_held3 (fun w' => Kp w2 w')
              (first | exact (by repeat (first | with_reducible assumption | with_reducible exact Kp.refl _ | with_reducible refine Kp.drew ?_ | with_reducible refine Kp.alloc ?_ _ | with_reducible refine Kp.drewN ?_ _ | refine Kp.setCell ?_ (by dsimp only; omega) _)) | exact hkA | exact hkA.alloc _ | exact hkB | exact hkC)
              (first
                | (refine step_appg_all (W0 := w2) (by rfl) (.tmp 32) (.tmp 35) (by rfl) w2.heap.size _ [] (rows.take (k)) (some ad) (k) cap (by rfl) (by rfl) hA.out hT1.out (by repeat (first | with_reducible assumption | with_reducible exact Kp.refl _ | with_reducible refine Kp.drew ?_ | with_reducible refine Kp.alloc ?_ _ | with_reducible refine Kp.drewN ?_ _ | refine Kp.setCell ?_ (by dsimp only; omega) _)) (Nat.le_refl _) hlk (by simp) hl1 ?_; intro v1 wx1 ho1 ht1 h41; have hkA : Kp w2 wx1 := hkz.turn_new (by repeat (first | with_reducible assumption | with_reducible exact Kp.refl _ | with_reducible refine Kp.drew ?_ | with_reducible refine Kp.alloc ?_ _ | with_reducible refine Kp.drewN ?_ _ | refine Kp.setCell ?_ (by dsimp only; omega) _)) ht1 hA.out)
                | (refine step_appg_all (W0 := w2) (by rfl) (.tmp 32) (.tmp 35) (by rfl) w2.heap.size _ [] (rows.take (k)) (some ad) (k) cap (by rfl) (by rfl) hAB.out hT1.out (by repeat (first | with_reducible assumption | with_reducible exact Kp.refl _ | with_reducible refine Kp.drew ?_ | with_reducible refine Kp.alloc ?_ _ | with_reducible refine Kp.drewN ?_ _ | refine Kp.setCell ?_ (by dsimp only; omega) _)) (Nat.le_refl _) hlk (by simp; omega) hl1 ?_; intro v1 wx1 ho1 ht1 h41; have hkA : Kp w2 wx1 := hkz.turn_new (by repeat (first | with_reducible assumption | with_reducible exact Kp.refl _ | with_reducible refine Kp.drew ?_ | with_reducible refine Kp.alloc ?_ _ | with_reducible refine Kp.drewN ?_ _ | refine Kp.setCell ?_ (by dsimp only; omega) _)) ht1 hAB.out; have h1n := cell_turn (p := ⟨w2.heap.size + 1, 0, none⟩) ((Kp.refl _).drew.get cAB.out) ht1 (by simp [Value.ownBlock]))
                | (refine step_appg_all (W0 := w2) (by rfl) (.tmp 32) (.tmp 35) (by rfl) w2.heap.size _ [] (rows.take (k)) (some ad) (k) cap (by rfl) (by rfl) hBA.out hT1.out (by repeat (first | with_reducible assumption | with_reducible exact Kp.refl _ | with_reducible refine Kp.drew ?_ | with_reducible refine Kp.alloc ?_ _ | with_reducible refine Kp.drewN ?_ _ | refine Kp.setCell ?_ (by dsimp only; omega) _)) (Nat.le_refl _) hlk (by simp; omega) hl1 ?_; intro v1 wx1 ho1 ht1 h41; have hkA : Kp w2 wx1 := hkz.turn_new (by repeat (first | with_reducible assumption | with_reducible exact Kp.refl _ | with_reducible refine Kp.drew ?_ | with_reducible refine Kp.alloc ?_ _ | with_reducible refine Kp.drewN ?_ _ | refine Kp.setCell ?_ (by dsimp only; omega) _)) ht1 hBA.out; have h1n := cell_turn (p := ⟨w2.heap.size, 0, none⟩) ((Kp.refl _).drew.get cBA.out) ht1 (by simp [Value.ownBlock]))
                | (refine step_appg_all (W0 := w2) (by rfl) (.tmp 39) (.tmp 42) (by rfl) w2.heap.size v2 ([] ++ rows.take (k) ++ [bitsL n b]) (rows.drop (k)) (if cap = k then some ad else some (ad.add (k))) (m - (k)) (cap - (k)) (by rfl) (by rfl) ho2 hT2.out hkB (Nat.le_refl _) hld hkB.le hl4 ?_; intro v3 wx3 ho3 ht3 h43; have hkC : Kp w2 wx3 := ho2.kp_turn hkB (Nat.le_refl _) ht3)
                | (refine step_appg (by rfl) (.tmp 36) (.tmp 38) (by rfl) w2.heap.size v1 ([] ++ rows.take (k)) (bitsL n b) (.slice Av (bitsL n b).length cv) ⟨w2.heap.size + 1, 0, none⟩ (by rfl) (by rfl) ho1 (hiz.kp hkA) h1n (apart_old hiz ho1 (Nat.le_refl _)) hkA.le hl2 ?_; intro v2 wx2 ho2 ht2 h42; have hkB : Kp w2 wx2 := ho1.kp_turn hkA (Nat.le_refl _) ht2)
                | (refine step_appg (by rfl) (.tmp 36) (.tmp 38) (by rfl) w2.heap.size v1 ([] ++ rows.take (k)) (bitsL n b) (.slice Av (bitsL n b).length cv) ⟨w2.heap.size, 0, none⟩ (by rfl) (by rfl) ho1 (hiz.kp hkA) h1n (apart_old hiz ho1 (Nat.le_refl _)) hkA.le hl2 ?_; intro v2 wx2 ho2 ht2 h42; have hkB : Kp w2 wx2 := ho1.kp_turn hkA (Nat.le_refl _) ht2)
                | (refine step_appg (by rfl) (.tmp 36) (.tmp 38) (by rfl) w2.heap.size v1 ([] ++ rows.take (k)) (bitsL n b) (.slice Av (bitsL n b).length cv) ⟨wx1.heap.size, 0, none⟩ (by rfl) (by rfl) ho1.one_kp (hiz.kp (hkA.alloc _)) (by rw [World.cell?_alloc_at _ _ _ _ rfl]; rfl) (apart_old hiz ho1 (Nat.le_refl _)) (hkA.alloc _).le hl2 ?_; intro v2 wx2 ho2 ht2 h42; have hkB : Kp w2 wx2 := ho1.one_kp.kp_turn (hkA.alloc _) (Nat.le_refl _) ht2))
            all_goals
              go_wp2_with fail
              go_roundw
              case rel =>
                have hst : rowsTo n (b + 1 - 1) = rowsTo n (b - 1) ++ [bitsL n b] := by
                  have := rowsTo_succ n (b - 1)
                  rw [show b - 1 + 1 = b by omega] at this
                  exact this
                have e0 : [] ++ rows.take (k) ++ [bitsL n b] ++ rows.drop (k) = rows.take (k) ++ [bitsL n b] ++ rows.drop (k) := by simp
                rw [e0] at ho3
                exact ⟨b + 1, _, by omega, by omega, by go_num, ho3.not_nil (by simp), ho3.mono (hkw.trans hdz.kp).le, by show _ = b + 1 - 1; rw [List.length_append, List.length_append, hlk, hld]; have := HL.out; simp; omega, ⟨by rw [hst]; exact ins_perm _ HR.out.1, ins_sorted HR.out.2 (by omega) (fun i hi h => Hbf.out i hi h) Hj.out HF.out⟩, (hkw.trans hdz.kp).trans hkC⟩
              case measure => simp [intOf]; omega
          · have Hb0 := Lib.hid hbb
            clear hbb
            go_wp2_with fail
            go_roundw
            case rel => exact ⟨j, by omega, by go_num, by show ∀ i (hi : i < rows.length), _ → _; intro i hi h; rcases Nat.eq_or_lt_of_le h with e | e; (subst e; exact Hb0.out); exact Hbf.out i hi e, hdr.trans hd2⟩
            case measure => simp [intOf] <;> omega
        · have hkw := hkb
          have hkc : k ≤ cap := by omega
          have hA := Lib.hid ((gown_new wr (some w.heap.size) wr.heap.size (Nat.le_refl _)).drew)
          have hAB := Lib.hid ((gown_ab wr (some w.heap.size) (.cells #[(.slice Av (bitsL n b).length cv)] 22)).drew)
          have hBA := Lib.hid ((gown_ba wr (some w.heap.size) (.cells #[(.slice Av (bitsL n b).length cv)] 22)).drew)
          have cAB := Lib.hid (hd_ab wr (.slice Av (bitsL n b).length cv))
          have cBA := Lib.hid (hd_ba wr (.slice Av (bitsL n b).length cv))
          have hT1 := Lib.hid (hrw'.take (k))
          have hT2 := Lib.hid (hrw'.tail (c := cap) (by rw [hrl]; exact hcap) (k))
          have hkz : Kp wr wr := Kp.refl _
          have hlk : (rows.take (k)).length = k := by rw [List.length_take, hrl]; omega
          have hld : (rows.drop (k)).length = m - (k) := by rw [List.length_drop, hrl]
          have hl1 : ([] : List (List Int)).length + (rows.take (k)).length ≤ 4194304 := by rw [hlk]; simp <;> omega
          have hl2 : (([] : List (List Int)) ++ rows.take (k)).length < 1048576 := by rw [List.length_append, hlk]; simp <;> omega
          have hl4 : (([] : List (List Int)) ++ rows.take (k) ++ [bitsL n b]).length + (rows.drop (k)).length ≤ 4194304 := by rw [List.length_append, List.length_append, hlk, hld]; simp <;> omega
          go_wp2_with fail
          go_region_held3 (fun w' => Kp wr w')
            (first | exact (by repeat (first | with_reducible assumption | with_reducible exact Kp.refl _ | with_reducible refine Kp.drew ?_ | with_reducible refine Kp.alloc ?_ _ | with_reducible refine Kp.drewN ?_ _ | refine Kp.setCell ?_ (by dsimp only; omega) _)) | exact hkA | exact hkA.alloc _ | exact hkB | exact hkC)
            (first
              | (refine step_appg_all (W0 := wr) (by rfl) (.tmp 32) (.tmp 35) (by rfl) wr.heap.size _ [] (rows.take (k)) (some ad) (k) cap (by rfl) (by rfl) hA.out hT1.out (by repeat (first | with_reducible assumption | with_reducible exact Kp.refl _ | with_reducible refine Kp.drew ?_ | with_reducible refine Kp.alloc ?_ _ | with_reducible refine Kp.drewN ?_ _ | refine Kp.setCell ?_ (by dsimp only; omega) _)) (Nat.le_refl _) hlk (by simp) hl1 ?_; intro v1 wx1 ho1 ht1 h41; have hkA : Kp wr wx1 := hkz.turn_new (by repeat (first | with_reducible assumption | with_reducible exact Kp.refl _ | with_reducible refine Kp.drew ?_ | with_reducible refine Kp.alloc ?_ _ | with_reducible refine Kp.drewN ?_ _ | refine Kp.setCell ?_ (by dsimp only; omega) _)) ht1 hA.out)
              | (refine step_appg_all (W0 := wr) (by rfl) (.tmp 32) (.tmp 35) (by rfl) wr.heap.size _ [] (rows.take (k)) (some ad) (k) cap (by rfl) (by rfl) hAB.out hT1.out (by repeat (first | with_reducible assumption | with_reducible exact Kp.refl _ | with_reducible refine Kp.drew ?_ | with_reducible refine Kp.alloc ?_ _ | with_reducible refine Kp.drewN ?_ _ | refine Kp.setCell ?_ (by dsimp only; omega) _)) (Nat.le_refl _) hlk (by simp; omega) hl1 ?_; intro v1 wx1 ho1 ht1 h41; have hkA : Kp wr wx1 := hkz.turn_new (by repeat (first | with_reducible assumption | with_reducible exact Kp.refl _ | with_reducible refine Kp.drew ?_ | with_reducible refine Kp.alloc ?_ _ | with_reducible refine Kp.drewN ?_ _ | refine Kp.setCell ?_ (by dsimp only; omega) _)) ht1 hAB.out; have h1n := cell_turn (p := ⟨wr.heap.size + 1, 0, none⟩) ((Kp.refl _).drew.get cAB.out) ht1 (by simp [Value.ownBlock]))
              | (refine step_appg_all (W0 := wr) (by rfl) (.tmp 32) (.tmp 35) (by rfl) wr.heap.size _ [] (rows.take (k)) (some ad) (k) cap (by rfl) (by rfl) hBA.out hT1.out (by repeat (first | with_reducible assumption | with_reducible exact Kp.refl _ | with_reducible refine Kp.drew ?_ | with_reducible refine Kp.alloc ?_ _ | with_reducible refine Kp.drewN ?_ _ | refine Kp.setCell ?_ (by dsimp only; omega) _)) (Nat.le_refl _) hlk (by simp; omega) hl1 ?_; intro v1 wx1 ho1 ht1 h41; have hkA : Kp wr wx1 := hkz.turn_new (by repeat (first | with_reducible assumption | with_reducible exact Kp.refl _ | with_reducible refine Kp.drew ?_ | with_reducible refine Kp.alloc ?_ _ | with_reducible refine Kp.drewN ?_ _ | refine Kp.setCell ?_ (by dsimp only; omega) _)) ht1 hBA.out; have h1n := cell_turn (p := ⟨wr.heap.size, 0, none⟩) ((Kp.refl _).drew.get cBA.out) ht1 (by simp [Value.ownBlock]))
              | (refine step_appg_all (W0 := wr) (by rfl) (.tmp 39) (.tmp 42) (by rfl) wr.heap.size v2 ([] ++ rows.take (k) ++ [bitsL n b]) (rows.drop (k)) (if cap = k then some ad else some (ad.add (k))) (m - (k)) (cap - (k)) (by rfl) (by rfl) ho2 hT2.out hkB (Nat.le_refl _) hld hkB.le hl4 ?_; intro v3 wx3 ho3 ht3 h43; have hkC : Kp wr wx3 := ho2.kp_turn hkB (Nat.le_refl _) ht3)
              | (refine step_appg (by rfl) (.tmp 36) (.tmp 38) (by rfl) wr.heap.size v1 ([] ++ rows.take (k)) (bitsL n b) (.slice Av (bitsL n b).length cv) ⟨wr.heap.size + 1, 0, none⟩ (by rfl) (by rfl) ho1 ((hrp.kp hdr.kp).kp hkA) h1n (apart_old (hrp.kp hdr.kp) ho1 (Nat.le_refl _)) hkA.le hl2 ?_; intro v2 wx2 ho2 ht2 h42; have hkB : Kp wr wx2 := ho1.kp_turn hkA (Nat.le_refl _) ht2)
              | (refine step_appg (by rfl) (.tmp 36) (.tmp 38) (by rfl) wr.heap.size v1 ([] ++ rows.take (k)) (bitsL n b) (.slice Av (bitsL n b).length cv) ⟨wr.heap.size, 0, none⟩ (by rfl) (by rfl) ho1 ((hrp.kp hdr.kp).kp hkA) h1n (apart_old (hrp.kp hdr.kp) ho1 (Nat.le_refl _)) hkA.le hl2 ?_; intro v2 wx2 ho2 ht2 h42; have hkB : Kp wr wx2 := ho1.kp_turn hkA (Nat.le_refl _) ht2)
              | (refine step_appg (by rfl) (.tmp 36) (.tmp 38) (by rfl) wr.heap.size v1 ([] ++ rows.take (k)) (bitsL n b) (.slice Av (bitsL n b).length cv) ⟨wx1.heap.size, 0, none⟩ (by rfl) (by rfl) ho1.one_kp ((hrp.kp hdr.kp).kp (hkA.alloc _)) (by rw [World.cell?_alloc_at _ _ _ _ rfl]; rfl) (apart_old (hrp.kp hdr.kp) ho1 (Nat.le_refl _)) (hkA.alloc _).le hl2 ?_; intro v2 wx2 ho2 ht2 h42; have hkB : Kp wr wx2 := ho1.one_kp.kp_turn (hkA.alloc _) (Nat.le_refl _) ht2))
          all_goals
            go_wp2_with fail
            go_roundw
            case rel =>
              have hst : rowsTo n (b + 1 - 1) = rowsTo n (b - 1) ++ [bitsL n b] := by
                have := rowsTo_succ n (b - 1)
                rw [show b - 1 + 1 = b by omega] at this
                exact this
              have e0 : [] ++ rows.take (k) ++ [bitsL n b] ++ rows.drop (k) = rows.take (k) ++ [bitsL n b] ++ rows.drop (k) := by simp
              rw [e0] at ho3
              exact ⟨b + 1, _, by omega, by omega, by go_num, ho3.not_nil (by simp), ho3.mono (hkw.trans hdr.kp).le, by show _ = b + 1 - 1; rw [List.length_append, List.length_append, hlk, hld]; have := HL.out; simp; omega, ⟨by rw [hst]; exact ins_perm _ HR.out.1, ins_sorted HR.out.2 (by omega) (fun i hi h => Hbf.out i hi h) (fun h => absurd h (by omega)) HF.out⟩, (hkw.trans hdr.kp).trans hkC⟩
            case measure => simp [intOf]; omega
    · have hkp : Hid (rows = setsL n) := by
        have h1 := HR.out.1
        rw [show b = P by omega, HP'.out] at h1
        exact setsL_uniq h1 HR.out.2
      go_wp2_with fail
      go_ret
      exact ⟨_, rfl, Hv.out, by rw [← hkp.out]; exact hown, hkb⟩
end Go.Proofs.Ytjhibahbcjlmfaa

namespace Go.Proofs.Ytjhibahbcjlmfaa
open Go.RowKit Go.Sort

def bestTo (v : List Int → Int) (rows : List (List Int)) (k : Nat) : List Int := (rows.take k).foldl (bestStep v) (rows.getD 0 [])
theorem bestTo_succ {v : List Int → Int} {rows : List (List Int)} {k : Nat} (hk : k < rows.length) : bestTo v rows (k + 1) = bestStep v (bestTo v rows k) rows[k] := by
  unfold bestTo
  rw [List.take_succ_eq_append_getElem hk, List.foldl_append]; rfl
theorem bestTo_all (v : List Int → Int) (rows : List (List Int)) : bestTo v rows rows.length = bestL v rows := by
  unfold bestTo bestL
  rw [List.take_length]
theorem bestTo_mem {v : List Int → Int} {rows : List (List Int)} (h0 : 0 < rows.length) : ∀ k, k ≤ rows.length → bestTo v rows k ∈ rows
  | 0, _ => by
    have e : rows.getD 0 [] = rows[0] := by simp [List.getD, h0]
    unfold bestTo
    rw [List.take_zero, List.foldl_nil, e]
    exact List.getElem_mem h0
  | k + 1, hk => by
    rw [bestTo_succ (by omega)]
    unfold bestStep
    by_cases h : v rows[k] < v (bestTo v rows k)
    · rw [if_pos h]; exact List.getElem_mem _
    · rw [if_neg h]; exact bestTo_mem h0 k (by omega)
theorem bestL_mem {v : List Int → Int} {rows : List (List Int)} (h0 : 0 < rows.length) : bestL v rows ∈ rows := by
  rw [← bestTo_all]; exact bestTo_mem h0 _ (Nat.le_refl _)
/-- A function value that tells a number of a row. -/
def Val (FN : FuncId) (pre caps : Array Value) (v : List Int → Int) (Q : List Int → Prop) (w : World) : Prop :=
  (∀ (args : Array Value) (w : World), Sem.run Try.prog (callFunc FN args) w = .ok (.enter FN args) w) ∧
  ∀ (S : List Int) (Av : Option Addr) (cv : Nat) (w' : World), Kp w w' → Q S → IntsAt w' Av S → S.length ≤ cv → Calls Try.prog FN (pre.push (.slice Av S.length cv) ++ caps) w' fun e w'' => e = .returned (.int .i64 (v S)) ∧ Kp w' w''
theorem Val.kp {FN : FuncId} {pre caps : Array Value} {v : List Int → Int} {Q : List Int → Prop} {w w' : World} (h : Val FN pre caps v Q w) (hk : Kp w w') : Val FN pre caps v Q w' :=
  ⟨h.1, fun S Av cv w2 h2 => h.2 S Av cv w2 (hk.trans h2)⟩
/-- A function value that tells whether something is so of a row. -/
def Tells (FN : FuncId) (pre caps : Array Value) (p : List Int → Bool) (Q : List Int → Prop) (w : World) : Prop :=
  (∀ (args : Array Value) (w : World), Sem.run Try.prog (callFunc FN args) w = .ok (.enter FN args) w) ∧
  ∀ (S : List Int) (Av : Option Addr) (cv : Nat) (w' : World), Kp w w' → Q S → IntsAt w' Av S → S.length ≤ cv → Calls Try.prog FN (pre.push (.slice Av S.length cv) ++ caps) w' fun e w'' => e = .returned (.bool (p S)) ∧ Kp w' w''
theorem Tells.kp {FN : FuncId} {pre caps : Array Value} {p : List Int → Bool} {Q : List Int → Prop} {w w' : World} (h : Tells FN pre caps p Q w) (hk : Kp w w') : Tells FN pre caps p Q w' :=
  ⟨h.1, fun S Av cv w2 h2 => h.2 S Av cv w2 (hk.trans h2)⟩
end Go.Proofs.Ytjhibahbcjlmfaa

namespace Go.Proofs.Ytjhibahbcjlmfaa
open Go.RowKit Go.Sort

def mapTo (g : Nat → Int) (k : Nat) : List Int := (List.range k).map g
theorem mapTo_len (g : Nat → Int) (k : Nat) : (mapTo g k).length = k := by simp [mapTo]
theorem mapTo_succ (g : Nat → Int) (k : Nat) : mapTo g (k + 1) = mapTo g k ++ [g k] := by simp [mapTo, List.range_succ]
theorem mapTo_get {g : Nat → Int} {k i : Nat} (h : i < k) (h' : i < (mapTo g k).length) : (mapTo g k)[i] = g i := by simp [mapTo]
def sumTo (g : Nat → Int) (k : Nat) : Int := (mapTo g k).sum
theorem sumTo_zero (g : Nat → Int) : sumTo g 0 = 0 := rfl
theorem sumTo_succ (g : Nat → Int) (k : Nat) : sumTo g (k + 1) = sumTo g k + g k := by simp [sumTo, mapTo_succ]
theorem sumTo_bd {g : Nat → Int} {b : Int} (h : ∀ i, 0 ≤ g i ∧ g i ≤ b) : ∀ k : Nat, 0 ≤ sumTo g k ∧ sumTo g k ≤ k * b
  | 0 => by simp [sumTo_zero]
  | k + 1 => by
    have h1 := sumTo_bd h k
    have h2 := h k
    rw [sumTo_succ]
    have h3 : ((k + 1 : Nat) : Int) * b = k * b + b := by
      rw [Int.natCast_add, Int.add_mul]; simp
    omega

theorem dAt_bd {F : Fld} (h : goodF F = true) {i : Nat} (hi : i < F.di.length) (a : Int) : 0 ≤ dAt F i a ∧ dAt F i a ≤ 99 := by
  have e : F.di.getD i [] = F.di[i] := by simp [List.getD, hi]
  rw [dAt, e]
  by_cases ha : a.toNat < F.di[i].length
  · have := ((goodF_iff.1 h).2.2.2 _ (List.getElem_mem hi)).1 _ (List.getElem_mem ha)
    simpa [List.getD, ha] using this
  · simp [List.getD, ha]

/-- What client i brings. -/
def gainAt (F : Fld) (worth : Int) (S : List Int) (i : Nat) : Int := max 0 (worth - nearF F i S)
def gainF (F : Fld) (worth : Int) (S : List Int) : Int := if S = [] then 0 else sumTo (gainAt F worth S) F.di.length
theorem gainF_nil {F : Fld} {worth : Int} : gainF F worth [] = 0 := if_pos rfl
theorem gainF_cons {F : Fld} {worth : Int} {S : List Int} (h : S ≠ []) : gainF F worth S = sumTo (gainAt F worth S) F.di.length := if_neg h
theorem siteF_bd {F : Fld} {S : List Int} (hs : setB F S = true) (hne : S ≠ []) (i : Nat) : 0 ≤ siteF F i S ∧ siteF F i S < F.op.length := set_mem hs _ (siteF_mem hne)

theorem gainAt_if {F : Fld} {worth : Int} {S : List Int} {i : Nat} : (if nearF F i S < worth then worth - nearF F i S else 0) = gainAt F worth S i := by
  unfold gainAt; split <;> omega
theorem gainAt_bd {F : Fld} {worth : Int} {S : List Int} (hw0 : 0 ≤ worth) (hw : worth ≤ 999) (hn : ∀ i, 0 ≤ nearF F i S) (i : Nat) : 0 ≤ gainAt F worth S i ∧ gainAt F worth S i ≤ 999 := by
  have := hn i
  unfold gainAt; omega
theorem nearF_bd {F : Fld} (hg : goodF F = true) (S : List Int) (i : Nat) : 0 ≤ nearF F i S ∧ nearF F i S ≤ 99 := by
  by_cases hi : i < F.di.length
  · exact dAt_bd hg hi _
  · have e : F.di.getD i [] = [] := by simp [List.getD, List.getElem?_eq_none (by omega : F.di.length ≤ i)]
    rw [nearF, dAt, e]; simp

def worthB (worth : Int) : Bool := inB worth 0 999
def gainOk (F : Fld) (worth : Int) (S : List Int) : Bool := goodF F && worthB worth && setB F S
def gainR (F : Fld) (worth : Int) (S : List Int) : Int := if gainOk F worth S = true then gainF F worth S else 0
theorem gainR_no {F : Fld} {worth : Int} {S : List Int} (h : gainOk F worth S = false) : Ending.returned (.tuple #[.int .i64 (gainR F worth S), .bool (gainOk F worth S)]) = .returned (.tuple #[.int .i64 0, .bool false]) := by
  simp [gainR, h]
theorem gainR_yes {F : Fld} {worth : Int} {S : List Int} (h : gainOk F worth S = true) : Ending.returned (.tuple #[.int .i64 (gainR F worth S), .bool (gainOk F worth S)]) = .returned (.tuple #[.int .i64 (gainF F worth S), .bool true]) := by
  simp [gainR, h]
theorem gainOk_parts {F : Fld} {worth : Int} {S : List Int} (h : gainOk F worth S = true) : goodF F = true ∧ setB F S = true ∧ 0 ≤ worth ∧ worth ≤ 999 := by
  simp only [gainOk, Bool.and_eq_true, worthB, inB_iff] at h
  exact ⟨h.1.1, h.2, h.1.2.1, h.1.2.2⟩

end Go.Proofs.Ytjhibahbcjlmfaa

namespace Go.Proofs.Ytjhibahbcjlmfaa
open Go.RowKit Go.Sort

/-- All sets of n sites, that without sites first. -/
def allS (n : Nat) : List (List Int) := [] :: setsL n
theorem allS_len (n : Nat) : (allS n).length = 2 ^ n := by
  have := setsL_len n
  have h1 : 1 ≤ 2 ^ n := Nat.one_le_two_pow
  simp only [allS, List.length_cons]; omega
theorem allS_ris {n : Nat} : ∀ S ∈ allS n, risB S 0 ((n : Int) - 1) = true := fun S h => by
  rcases List.mem_cons.1 h with rfl | h
  · rfl
  · exact (mem_setsL.1 h).2
theorem RowsAt.mono {w : World} {b b' : Nat} {A : Option Addr} {rows : List (List Int)} (h : RowsAt w (some b) A rows) (hb : b' ≤ b) : RowsAt w (some b') A rows :=
  ⟨h.1, fun k hk => by obtain ⟨ad, u, e, hc, hp⟩ := h.2 k hk; exact ⟨ad, u, e, hc, hp.mono hb⟩⟩
theorem GOwn.lo_mono {w : World} {b b' base : Nat} {v : Value} {rows : List (List Int)} (h : GOwn w (some b) base v rows) (hb : b' ≤ b) : GOwn w (some b') base v rows := by
  obtain ⟨hs, h1, h2⟩ := h
  exact ⟨hs, h1, fun j hj => by obtain ⟨u, e1, e2, e3⟩ := h2 j hj; exact ⟨u, e1, e2.mono hb, fun _ => e3 (.inr (by simp))⟩⟩
/-- A literal slice of one row. -/
theorem gown_one {w : World} {lo : Option Nat} {base : Nat} {u : Value} {xs : List Int} (hb : base ≤ w.heap.size) (hu : RowP w lo u xs) (hn : xs ≠ [] ∨ lo ≠ none) :
    GOwn (w.alloc (.cells #[u] 22)) lo base (.slice (some ⟨w.heap.size, 0, none⟩) 1 1) [xs] :=
  ⟨[u], World.ownsRow_lit w #[u] 1 hb (by unfold maxLen; omega) (by simp), fun j hj => by
    obtain rfl : j = 0 := by simpa using hj
    refine ⟨u, rfl, hu.kp ((Kp.refl w).alloc _), fun _ g hg e => ?_⟩
    have := hu.lt hn g hg
    have e2 : w.heap.size = g := by simpa [Value.ownBlock] using e
    omega⟩
theorem own_blk' {g' g n c : Nat} (h : (Value.slice (some ⟨g', 0, none⟩) n c).ownBlock = some g) : g' = g := by simpa [Value.ownBlock] using h
theorem GOwn.nil_turn {S : Nat → Prop} {w w' : World} {lo : Option Nat} {base : Nat} {v : Value} (h : GOwn w lo base v []) (ht : Turn S w w') (hn : ∀ g, v.ownBlock = some g → ¬ S g) : GOwn w' lo base v [] := by
  obtain ⟨hs, h1, _⟩ := h
  exact ⟨hs, own_turn h1 ht hn, fun j hj => by simp at hj⟩
theorem RowsAt.turn {S : Nat → Prop} {w w' : World} {b : Nat} {ad : Addr} {rows : List (List Int)} (h : RowsAt w (some b) (some ad) rows) (ht : Turn S w w') (h1 : ¬ S ad.block) (h2 : ∀ g, b ≤ g → ¬ S g) : RowsAt w' (some b) (some ad) rows :=
  ⟨h.1, fun k hk => by
    obtain ⟨ad', u, e, hc, hp⟩ := h.2 k hk
    cases e
    refine ⟨ad, u, rfl, ?_, hp.turn ht (fun _ g hg => h2 g (((hp.2 b rfl).lt g hg).1))⟩
    have hb : (ad.add k).block < w.heap.size := World.block_lt_of_cell? _ _ hc
    rw [blk_add] at hb
    have hbk : w'.heap[(ad.add k).block]? = w.heap[(ad.add k).block]? := by rw [blk_add]; exact ht.block _ hb h1
    rw [World.cell?_of_block hbk]; exact hc⟩
def filTo (p : List Int → Bool) (rows : List (List Int)) (k : Nat) : List (List Int) := (rows.take k).filter p
theorem filTo_yes {p : List Int → Bool} {rows : List (List Int)} {k : Nat} (hk : k < rows.length) (h : p rows[k] = true) : filTo p rows (k + 1) = filTo p rows k ++ [rows[k]] := by
  unfold filTo
  rw [List.take_succ_eq_append_getElem hk, List.filter_append]
  simp [h]
theorem filTo_no {p : List Int → Bool} {rows : List (List Int)} {k : Nat} (hk : k < rows.length) (h : p rows[k] = false) : filTo p rows (k + 1) = filTo p rows k := by
  unfold filTo
  rw [List.take_succ_eq_append_getElem hk, List.filter_append]
  simp [h]
theorem filTo_len (p : List Int → Bool) (rows : List (List Int)) (k : Nat) : (filTo p rows k).length ≤ rows.length := by
  unfold filTo
  exact Nat.le_trans (List.length_filter_le _ _) (by simp; omega)
/-- The rows of a list that owns them lie behind the list's first block, or ahead of it. -/
theorem apart_out {w wl : World} {lo : Nat} {u : Value} {xs : List Int} (h : RowP wl (some (w.heap.size + 1)) u xs) (hlo : lo = w.heap.size) {v : Value} (hv : ∀ g, v.ownBlock = some g → g = lo ∨ wl.heap.size ≤ g) : (xs ≠ [] ∨ some (w.heap.size + 1) ≠ none) → ∀ g, u.ownBlock = some g → v.ownBlock ≠ some g := by
  intro _ g hg e
  have h1 := (h.2 _ rfl).lt g hg
  rcases hv g e with h2 | h2 <;> omega
end Go.Proofs.Ytjhibahbcjlmfaa

namespace Go.Proofs.Ytjhibahbcjlmfaa
open Go.RowKit Go.Sort

/-- What a loop over all rows picks, beginning with none: the best of those that pass, if any passes and every row is less than none. -/
def pk0 (p : List Int → Bool) (v : List Int → Int) (rows : List (List Int)) (k : Nat) : List Int := (rows.take k).foldl (fun b s => if p s = true then bestStep v b s else b) []
theorem pk0_zero (p : List Int → Bool) (v : List Int → Int) (rows : List (List Int)) : pk0 p v rows 0 = [] := rfl
theorem pk0_yes {p : List Int → Bool} {v : List Int → Int} {rows : List (List Int)} {k : Nat} (hk : k < rows.length) (h : p rows[k] = true) (h2 : v rows[k] < v (pk0 p v rows k)) : pk0 p v rows (k + 1) = rows[k] := by
  unfold pk0 at *
  rw [List.take_succ_eq_append_getElem hk, List.foldl_append]
  simp only [List.foldl_cons, List.foldl_nil, h, if_true, bestStep]
  exact if_pos h2
theorem pk0_no {p : List Int → Bool} {v : List Int → Int} {rows : List (List Int)} {k : Nat} (hk : k < rows.length) (h : ¬ (p rows[k] = true ∧ v rows[k] < v (pk0 p v rows k))) : pk0 p v rows (k + 1) = pk0 p v rows k := by
  unfold pk0 at *
  rw [List.take_succ_eq_append_getElem hk, List.foldl_append]
  simp only [List.foldl_cons, List.foldl_nil]
  by_cases hp : p rows[k] = true
  · rw [if_pos hp]; unfold bestStep; exact if_neg (fun h2 => h ⟨hp, h2⟩)
  · rw [if_neg hp]
theorem pk0_fil {p : List Int → Bool} {v : List Int → Int} : ∀ (rows : List (List Int)) (b : List Int), rows.foldl (fun b s => if p s = true then bestStep v b s else b) b = (rows.filter p).foldl (bestStep v) b
  | [], _ => rfl
  | s :: t, b => by
    simp only [List.foldl_cons]
    by_cases hp : p s = true
    · rw [if_pos hp, List.filter_cons_of_pos hp, List.foldl_cons, pk0_fil t]
    · rw [if_neg hp, List.filter_cons_of_neg (by simpa using hp), pk0_fil t]
theorem pk0_all {p : List Int → Bool} {v : List Int → Int} {rows : List (List Int)} (h : ∀ s ∈ rows, v s < v []) : pk0 p v rows rows.length = bestL v (rows.filter p) := by
  unfold pk0 bestL
  rw [List.take_length, pk0_fil]
  cases hf : rows.filter p with
  | nil => rfl
  | cons a t =>
    have ha : a ∈ rows := (List.mem_filter.1 (hf ▸ List.mem_cons_self : a ∈ rows.filter p)).1
    have e1 : bestStep v [] a = a := if_pos (h a ha)
    have e2 : bestStep v a a = a := if_neg (by omega)
    simp only [List.getD_cons_zero, List.foldl_cons, e1, e2]
theorem pk0_mem {p : List Int → Bool} {v : List Int → Int} {rows : List (List Int)} : ∀ k, k ≤ rows.length → pk0 p v rows k = [] ∨ pk0 p v rows k ∈ rows
  | 0, _ => .inl rfl
  | k + 1, hk => by
    by_cases h : p (rows[k]'(by omega)) = true ∧ v (rows[k]'(by omega)) < v (pk0 p v rows k)
    · rw [pk0_yes (by omega) h.1 h.2]; exact .inr (List.getElem_mem _)
    · rw [pk0_no (by omega) h]; exact pk0_mem k (by omega)
end Go.Proofs.Ytjhibahbcjlmfaa

namespace Go.Proofs.Ytjhibahbcjlmfaa
open Go.RowKit Go.Sort

def openedB (F : Fld) (S : List Int) : Bool := goodF F && setB F S && decide (0 < S.length)
theorem openedB_parts {F : Fld} {S : List Int} (h : openedB F S = true) : goodF F = true ∧ setB F S = true ∧ S ≠ [] := by
  simp only [openedB, Bool.and_eq_true, decide_eq_true_eq] at h
  exact ⟨h.1.1, h.1.2, List.length_pos_iff.1 h.2⟩
theorem l2Two_any (f : Value) (F : Fld) (A0 : Option Addr) (S : List Int) (n c0 : Nat) (w : World) (hf : FldAt w f F) (hS : IntsAt w A0 S) (hn : S.length = n) :
    Calls Try.prog 68 #[f, .slice A0 n c0] w fun e w' => e = .returned (.bool (openedB F S)) ∧ Kp w w' := by
  obtain ⟨A, c, B, d, rfl, hA, hB⟩ := hf
  have hk0 : Kp w (w.alloc (.cells #[.slice A F.op.length c, .slice B F.di.length d] 29)) := (Kp.refl w).alloc _
  obtain ⟨d0, d1⟩ := box2 w (.slice A F.op.length c) (.slice B F.di.length d) 29
  have hFA := FldAt.kp (show FldAt w (.agg #[.slice A F.op.length c, .slice B F.di.length d]) F from ⟨A, c, B, d, rfl, hA, hB⟩) hk0
  have Hn := Lib.hid hn; clear hn
  go_enter Try.func68, Try.ntmps68
  go_wp2_with fail
  generalize w.alloc (.cells #[.slice A F.op.length c, .slice B F.di.length d] 29) = wb at *
  have CC := Lib.hid (l2Good_any _ F _ hFA)
  with_reducible refine Calls.mono CC.out ?_
  rintro e w1 ⟨rfl, hk1⟩
  clear CC
  have e0 := hk1.get d0; have e1 := hk1.get d1
  have K := hk0.trans hk1
  cases hg : goodF F
  · have Hg := Lib.hid hg; clear hg
    go_wp2_with fail
    go_ret
    exact ⟨ret_bool (by simp [openedB, Hg.out, Array.getD]), K⟩
  have Hg := Lib.hid hg; clear hg
  go_wp2_with fail
  have CC := Lib.hid (l2Set_any _ F A0 S n c0 _ (hFA.kp hk1) (hS.kp K) Hn.out)
  with_reducible refine Calls.mono CC.out ?_
  rintro e w2 ⟨rfl, hk2⟩
  clear CC
  cases h2 : setB F S
  · have H2 := Lib.hid h2; clear h2
    go_wp2_with fail
    go_ret
    exact ⟨ret_bool (by simp [openedB, H2.out, Array.getD]), K.trans hk2⟩
  have H2 := Lib.hid h2; clear h2
  go_wp2_with fail
  go_ret
  refine ⟨ret_bool ?_, K.trans hk2⟩
  rw [openedB, Hg.out, H2.out, Hn.out, Bool.eq_iff_iff]
  simp [Array.getD]
theorem isSet_any (f : Value) (F : Fld) (A0 : Option Addr) (S : List Int) (n c0 : Nat) (w : World) (hf : FldAt w f F) (hS : IntsAt w A0 S) (hn : S.length = n) :
    Calls Try.prog 84 #[f, .slice A0 n c0] w fun e w' => e = .returned (.bool (setB F S && decide (0 < S.length))) ∧ Kp w w' := by
  obtain ⟨A, c, B, d, rfl, hA, hB⟩ := hf
  have hk0 : Kp w (w.alloc (.cells #[.slice A F.op.length c, .slice B F.di.length d] 29)) := (Kp.refl w).alloc _
  have hAl := hA.1
  have Hn := Lib.hid hn; clear hn
  by_cases hp : 0 < n
  · have t1 : decide ((0 : Int) < (n : Int)) = true := by simp; omega
    go_enter Try.func84, Try.ntmps84
    go_wp2_with fail
    have CC := Lib.hid (isRising_any A0 S n c0 F.op.length _ (hS.kp hk0) Hn.out (by omega) (by omega))
    with_reducible refine Calls.mono CC.out ?_
    rintro e w2 ⟨rfl, hw2⟩
    obtain rfl := hw2
    clear CC
    go_wp2_with fail
    go_ret
    refine ⟨ret_bool ?_, hk0⟩
    rw [Hn.out]
    simp [setB, Array.getD, hp]
  · have t1 : decide ((0 : Int) < (n : Int)) = false := by simp; omega
    have t2 : n ≤ 0 := by omega
    go_enter Try.func84, Try.ntmps84
    go_wp2_with fail
    go_ret
    refine ⟨ret_bool ?_, hk0⟩
    rw [Hn.out]
    simp [Array.getD, hp]
theorem isOpened_any (f : Value) (F : Fld) (A0 : Option Addr) (S : List Int) (n c0 : Nat) (w : World) (hf : FldAt w f F) (hS : IntsAt w A0 S) (hn : S.length = n) :
    Calls Try.prog 63 #[f, .slice A0 n c0] w fun e w' => e = .returned (.bool (openedB F S)) ∧ Kp w w' := by
  obtain ⟨A, c, B, d, rfl, hA, hB⟩ := hf
  have hk0 : Kp w (w.alloc (.cells #[.slice A F.op.length c, .slice B F.di.length d] 29)) := (Kp.refl w).alloc _
  obtain ⟨d0, d1⟩ := box2 w (.slice A F.op.length c) (.slice B F.di.length d) 29
  have hFA := FldAt.kp (show FldAt w (.agg #[.slice A F.op.length c, .slice B F.di.length d]) F from ⟨A, c, B, d, rfl, hA, hB⟩) hk0
  have Hn := Lib.hid hn; clear hn
  go_enter Try.func63, Try.ntmps63
  go_wp2_with fail
  generalize w.alloc (.cells #[.slice A F.op.length c, .slice B F.di.length d] 29) = wb at *
  have CC := Lib.hid (isField_any _ F _ hFA)
  with_reducible refine Calls.mono CC.out ?_
  rintro e w1 ⟨rfl, hk1⟩
  clear CC
  have e0 := hk1.get d0; have e1 := hk1.get d1
  have K := hk0.trans hk1
  cases hg : goodF F
  · have Hg := Lib.hid hg; clear hg
    go_wp2_with fail
    go_ret
    exact ⟨ret_bool (by simp [openedB, Hg.out, Array.getD]), K⟩
  have Hg := Lib.hid hg; clear hg
  go_wp2_with fail
  have CC := Lib.hid (isSet_any _ F A0 S n c0 _ (hFA.kp hk1) (hS.kp K) Hn.out)
  with_reducible refine Calls.mono CC.out ?_
  rintro e w2 ⟨rfl, hk2⟩
  clear CC
  go_wp2_with fail
  go_ret
  exact ⟨ret_bool (by rw [openedB, Hg.out, Bool.true_and]), K.trans hk2⟩
end Go.Proofs.Ytjhibahbcjlmfaa

namespace Go.Proofs.Ytjhibahbcjlmfaa
open Go.RowKit Go.Sort

def numsB (xs : List Int) (n : Nat) (most : Int) : Bool := xs.all (fun x => inB x 0 most) && decide (xs.length = n)
def needsB (F : Fld) (rooms needs : List Int) : Bool := numsB rooms F.op.length 20 && numsB needs F.di.length 5
def haulB (F : Fld) (rooms needs S : List Int) : Bool := openedB F S && needsB F rooms needs
theorem numsB_iff {xs : List Int} {n : Nat} {most : Int} : numsB xs n most = true ↔ (∀ x ∈ xs, 0 ≤ x ∧ x ≤ most) ∧ xs.length = n := by
  unfold numsB inB
  rw [Bool.and_eq_true, List.all_eq_true, decide_eq_true_eq]
  simp
theorem haulB_iff {F : Fld} {rooms needs S : List Int} : haulB F rooms needs S = true ↔ openedB F S = true ∧ ((∀ x ∈ rooms, 0 ≤ x ∧ x ≤ 20) ∧ rooms.length = F.op.length) ∧ ((∀ x ∈ needs, 0 ≤ x ∧ x ≤ 5) ∧ needs.length = F.di.length) := by
  unfold haulB needsB
  rw [Bool.and_eq_true, Bool.and_eq_true, numsB_iff, numsB_iff]
set_option maxHeartbeats 400000 in
theorem l7Numbers_any (A0 : Option Addr) (xs : List Int) (n0 c0 : Nat) (n : Nat) (most : Int) (w : World) (hx : IntsAt w A0 xs) (hn0 : xs.length = n0) :
    Calls Try.prog 32 #[.slice A0 n0 c0, .int .i64 n, .int .i64 most] w fun e w' => e = .returned (.bool (numsB xs n most)) ∧ w = w' := by
  have hm : n0 ≤ 9223372036854775807 := hn0 ▸ hx.1
  have Hn0 := Lib.hid hn0
  have HB : Hid (numsB xs n most = ((!xs.any fun x => !inB x 0 most) && decide (n0 = n))) := by
    show _ = _
    unfold numsB
    rw [List.all_eq_not_any_not, hn0]
  clear hn0
  go_enter Try.func32, Try.ntmps32
  go_wp2_with fail
  go_loop [7] (fun iv => ∃ k : Nat, k ≤ n0 ∧ iv = .int .i64 k ∧ Hid ((xs.take k).any (fun x => !inB x 0 most) = false)) (fun iv => n0 - (intOf iv).toNat)
  case atStart => exact ⟨0, by omega, rfl, rfl⟩
  case round =>
    obtain ⟨k, hk, rfl, Hp⟩ := hrel
    by_cases hlt : k < n0
    · have lx : k < xs.length := by rw [Hn0.out]; exact hlt
      obtain ⟨ad, rfl, hc⟩ := hx.at_ lx
      go_wp2_with fail
      have CC := Lib.hid (l1In_any xs[k] 0 most w)
      with_reducible refine Calls.mono CC.out ?_
      rintro e w3 ⟨rfl, hw⟩
      obtain rfl := hw
      clear CC
      cases ht : inB xs[k] 0 most
      · have Ht := Lib.hid ht; clear ht
        go_wp2_with fail
        go_ret
        exact ⟨by rw [HB.out, any_of (p := fun x => !inB x 0 most) lx (by rw [Ht.out]; rfl)]; rfl, rfl⟩
      · have Ht := Lib.hid ht; clear ht
        go_wp2_with fail
        go_round
        case rel => exact ⟨k + 1, by omega, by go_num, any_take_succ Hp.out lx (by rw [Ht.out]; rfl)⟩
        case measure => simp [intOf]; omega
    · go_wp2_with fail
      go_ret
      have hp := Hp.out
      rw [List.take_of_length_le (by rw [Hn0.out]; omega)] at hp
      refine ⟨ret_bool ?_, rfl⟩
      rw [HB.out, hp]
      by_cases he : n0 = n
      · simp [he]
      · simp [he]; omega
set_option maxRecDepth 100000 in
set_option maxHeartbeats 400000 in
theorem l7Needs_any (f : Value) (F : Fld) (A1 : Option Addr) (rooms : List Int) (n1 c1 : Nat) (A2 : Option Addr) (needs : List Int) (n2 c2 : Nat) (w : World) (hf : FldAt w f F) (h1 : IntsAt w A1 rooms) (hn1 : rooms.length = n1) (h2 : IntsAt w A2 needs) (hn2 : needs.length = n2) :
    Calls Try.prog 17 #[f, .slice A1 n1 c1, .slice A2 n2 c2] w fun e w' => e = .returned (.bool (needsB F rooms needs)) ∧ Kp w w' := by
  obtain ⟨A, c, B, d, rfl, hA, hB⟩ := hf
  have hk0 : Kp w (w.alloc (.cells #[.slice A F.op.length c, .slice B F.di.length d] 29)) := (Kp.refl w).alloc _
  obtain ⟨d0, d1⟩ := box2 w (.slice A F.op.length c) (.slice B F.di.length d) 29
  have hFA := FldAt.kp (show FldAt w (.agg #[.slice A F.op.length c, .slice B F.di.length d]) F from ⟨A, c, B, d, rfl, hA, hB⟩) hk0
  replace h1 := h1.kp hk0
  replace h2 := h2.kp hk0
  have Hn1 := Lib.hid hn1; have Hn2 := Lib.hid hn2
  clear hA hB hn1 hn2
  go_enter Try.func17, Try.ntmps17
  go_wp2_with fail
  have hsz : Hid ((w.alloc (.cells #[.slice A F.op.length c, .slice B F.di.length d] 29)).heap.size = w.heap.size + 1) := by show _ = _; simp
  generalize w.alloc (.cells #[.slice A F.op.length c, .slice B F.di.length d] 29) = wb at *
  have hkb : Kp wb wb := Kp.refl _
  have hkw := hk0
  have q_d0 := hkb.get d0
  have q_d1 := hkb.get d1
  go_wp2_with fail
  have CC := Lib.hid (l7Numbers_any A1 rooms n1 c1 F.op.length 20 wb h1 Hn1.out)
  with_reducible refine Calls.mono CC.out ?_
  rintro e w1 ⟨rfl, hw⟩
  obtain rfl := hw
  clear CC q_d0 q_d1
  cases hg_ : numsB rooms F.op.length 20
  · have Hno : Hid (needsB F rooms needs = false) := by show _ = _; rw [needsB, hg_]; rfl
    clear hg_
    have q_d0 := hkb.get d0
    have q_d1 := hkb.get d1
    go_wp2_with fail
    go_ret
    exact ⟨by rw [Hno.out]; rfl, hkw⟩
  have Hy : Hid (needsB F rooms needs = numsB needs F.di.length 5) := by show _ = _; rw [needsB, hg_]; rfl
  clear hg_
  have q_d0 := hkb.get d0
  have q_d1 := hkb.get d1
  go_wp2_with fail
  have CC := Lib.hid (l7Numbers_any A2 needs n2 c2 F.di.length 5 wb h2 Hn2.out)
  with_reducible refine Calls.mono CC.out ?_
  rintro e w2 ⟨rfl, hw⟩
  obtain rfl := hw
  clear CC q_d0 q_d1
  have q_d0 := hkb.get d0
  have q_d1 := hkb.get d1
  go_wp2_with fail
  go_ret
  exact ⟨by rw [Hy.out]; rfl, hkw⟩
set_option maxRecDepth 100000 in
set_option maxHeartbeats 400000 in
theorem l7Given_any (f : Value) (F : Fld) (A1 : Option Addr) (rooms : List Int) (n1 c1 : Nat) (A2 : Option Addr) (needs : List Int) (n2 c2 : Nat) (A3 : Option Addr) (S : List Int) (n3 c3 : Nat) (w : World) (hf : FldAt w f F) (h1 : IntsAt w A1 rooms) (hn1 : rooms.length = n1) (h2 : IntsAt w A2 needs) (hn2 : needs.length = n2) (h3 : IntsAt w A3 S) (hn3 : S.length = n3) :
    Calls Try.prog 49 #[f, .slice A1 n1 c1, .slice A2 n2 c2, .slice A3 n3 c3] w fun e w' => e = .returned (.bool (haulB F rooms needs S)) ∧ Kp w w' := by
  obtain ⟨A, c, B, d, rfl, hA, hB⟩ := hf
  have hk0 : Kp w (w.alloc (.cells #[.slice A F.op.length c, .slice B F.di.length d] 29)) := (Kp.refl w).alloc _
  obtain ⟨d0, d1⟩ := box2 w (.slice A F.op.length c) (.slice B F.di.length d) 29
  have hFA := FldAt.kp (show FldAt w (.agg #[.slice A F.op.length c, .slice B F.di.length d]) F from ⟨A, c, B, d, rfl, hA, hB⟩) hk0
  replace h1 := h1.kp hk0
  replace h2 := h2.kp hk0
  replace h3 := h3.kp hk0
  have Hn1 := Lib.hid hn1; have Hn2 := Lib.hid hn2; have Hn3 := Lib.hid hn3
  clear hA hB hn1 hn2 hn3
  go_enter Try.func49, Try.ntmps49
  go_wp2_with fail
  have hsz : Hid ((w.alloc (.cells #[.slice A F.op.length c, .slice B F.di.length d] 29)).heap.size = w.heap.size + 1) := by show _ = _; simp
  generalize w.alloc (.cells #[.slice A F.op.length c, .slice B F.di.length d] 29) = wb at *
  have hkb : Kp wb wb := Kp.refl _
  have hkw := hk0
  have q_d0 := hkb.get d0
  have q_d1 := hkb.get d1
  go_wp2_with fail
  have CC := Lib.hid (l2Two_any _ F A3 S n3 c3 wb hFA h3 Hn3.out)
  with_reducible refine Calls.mono CC.out ?_
  rintro e w1 ⟨rfl, hk1⟩
  clear CC q_d0 q_d1
  replace hkb := hkb.trans hk1
  cases hg_ : openedB F S
  · have Hno : Hid (haulB F rooms needs S = false) := by show _ = _; rw [haulB, hg_]; rfl
    clear hg_
    have q_d0 := hkb.get d0
    have q_d1 := hkb.get d1
    go_wp2_with fail
    go_ret
    exact ⟨by rw [Hno.out]; rfl, hkw.trans hkb⟩
  have Hy : Hid (haulB F rooms needs S = needsB F rooms needs) := by show _ = _; rw [haulB, hg_]; rfl
  clear hg_
  have q_d0 := hkb.get d0
  have q_d1 := hkb.get d1
  go_wp2_with fail
  have CC := Lib.hid (l7Needs_any _ F A1 rooms n1 c1 A2 needs n2 c2 _ (hFA.kp hkb) (h1.kp hkb) Hn1.out (h2.kp hkb) Hn2.out)
  with_reducible refine Calls.mono CC.out ?_
  rintro e w2 ⟨rfl, hk2⟩
  clear CC q_d0 q_d1
  replace hkb := hkb.trans hk2
  have q_d0 := hkb.get d0
  have q_d1 := hkb.get d1
  go_wp2_with fail
  go_ret
  exact ⟨by rw [Hy.out]; rfl, hkw.trans hkb⟩
set_option maxRecDepth 100000 in
set_option maxHeartbeats 400000 in
theorem areNeeds_any (f : Value) (F : Fld) (A1 : Option Addr) (rooms : List Int) (n1 c1 : Nat) (A2 : Option Addr) (needs : List Int) (n2 c2 : Nat) (w : World) (hf : FldAt w f F) (h1 : IntsAt w A1 rooms) (hn1 : rooms.length = n1) (h2 : IntsAt w A2 needs) (hn2 : needs.length = n2) :
    Calls Try.prog 24 #[f, .slice A1 n1 c1, .slice A2 n2 c2] w fun e w' => e = .returned (.bool (needsB F rooms needs)) ∧ Kp w w' := by
  obtain ⟨A, c, B, d, rfl, hA, hB⟩ := hf
  have hk0 : Kp w (w.alloc (.cells #[.slice A F.op.length c, .slice B F.di.length d] 29)) := (Kp.refl w).alloc _
  obtain ⟨d0, d1⟩ := box2 w (.slice A F.op.length c) (.slice B F.di.length d) 29
  have hFA := FldAt.kp (show FldAt w (.agg #[.slice A F.op.length c, .slice B F.di.length d]) F from ⟨A, c, B, d, rfl, hA, hB⟩) hk0
  replace h1 := h1.kp hk0
  replace h2 := h2.kp hk0
  have Hn1 := Lib.hid hn1; have Hn2 := Lib.hid hn2
  clear hA hB hn1 hn2
  have HB : Hid (needsB F rooms needs = (decide (n1 = F.op.length) && allB rooms 0 20 && decide (n2 = F.di.length) && allB needs 0 5)) := by
    show _ = _
    unfold needsB numsB
    rw [Hn1.out, Hn2.out]
    change ((allB rooms 0 20 && decide (n1 = F.op.length)) && (allB needs 0 5 && decide (n2 = F.di.length))) = _
    cases decide (n1 = F.op.length) <;> cases decide (n2 = F.di.length) <;> cases allB rooms 0 20 <;> cases allB needs 0 5 <;> rfl
  go_enter Try.func24, Try.ntmps24
  by_cases e1 : n1 = F.op.length
  · subst e1
    have hd1 : (((F.op.length : Nat) : Int) == ((F.op.length : Nat) : Int)) = true := by simp
    go_wp2_with fail
    have hsz : Hid ((w.alloc (.cells #[.slice A F.op.length c, .slice B F.di.length d] 29)).heap.size = w.heap.size + 1) := by show _ = _; simp
    generalize w.alloc (.cells #[.slice A F.op.length c, .slice B F.di.length d] 29) = wb at *
    have hkb : Kp wb wb := Kp.refl _
    have hkw := hk0
    have CC := Lib.hid (areBetween_any A1 rooms F.op.length c1 0 20 wb h1 Hn1.out)
    with_reducible refine Calls.mono CC.out ?_
    rintro e w1 ⟨rfl, hk1⟩
    clear CC
    replace hkb := hkb.trans hk1
    cases hg_ : allB rooms 0 20
    · have Hno : Hid (needsB F rooms needs = false) := by show _ = _; rw [HB.out, hg_]; simp
      clear hg_
      have q_d0 := hkb.get d0
      have q_d1 := hkb.get d1
      go_wp2_with fail
      go_ret
      exact ⟨by rw [Hno.out]; rfl, hkw.trans hkb⟩
    have Hr := Lib.hid hg_; clear hg_
    by_cases e2 : n2 = F.di.length
    · subst e2
      have Hy : Hid (needsB F rooms needs = allB needs 0 5) := by show _ = _; rw [HB.out, Hr.out]; simp
      have q_d0 := hkb.get d0
      have q_d1 := hkb.get d1
      go_wp2_with fail
      have CC := Lib.hid (areBetween_any A2 needs F.di.length c2 0 5 _ (h2.kp hkb) Hn2.out)
      with_reducible refine Calls.mono CC.out ?_
      rintro e w2 ⟨rfl, hk2⟩
      clear CC q_d0 q_d1
      replace hkb := hkb.trans hk2
      have q_d0 := hkb.get d0
      have q_d1 := hkb.get d1
      go_wp2_with fail
      go_ret
      exact ⟨by rw [Hy.out]; rfl, hkw.trans hkb⟩
    · have Hno : Hid (needsB F rooms needs = false) := by show _ = _; rw [HB.out, decide_eq_false e2]; simp
      have hd2 : ((n2 : Int) == (F.di.length : Int)) = false := by simp; omega
      clear e2
      have q_d0 := hkb.get d0
      have q_d1 := hkb.get d1
      go_wp2_with fail
      go_ret
      exact ⟨by rw [Hno.out]; rfl, hkw.trans hkb⟩
  · have Hno : Hid (needsB F rooms needs = false) := by show _ = _; rw [HB.out, decide_eq_false e1]; rfl
    have hd1 : ((n1 : Int) == (F.op.length : Int)) = false := by simp; omega
    clear e1
    go_wp2_with fail
    have hsz : Hid ((w.alloc (.cells #[.slice A F.op.length c, .slice B F.di.length d] 29)).heap.size = w.heap.size + 1) := by show _ = _; simp
    generalize w.alloc (.cells #[.slice A F.op.length c, .slice B F.di.length d] 29) = wb at *
    have hkb : Kp wb wb := Kp.refl _
    have hkw := hk0
    have q_d0 := hkb.get d0
    have q_d1 := hkb.get d1
    go_wp2_with fail
    go_ret
    exact ⟨by rw [Hno.out]; rfl, hkw⟩
set_option maxRecDepth 100000 in
set_option maxHeartbeats 400000 in
theorem isHaul_any (f : Value) (F : Fld) (A1 : Option Addr) (rooms : List Int) (n1 c1 : Nat) (A2 : Option Addr) (needs : List Int) (n2 c2 : Nat) (A3 : Option Addr) (S : List Int) (n3 c3 : Nat) (w : World) (hf : FldAt w f F) (h1 : IntsAt w A1 rooms) (hn1 : rooms.length = n1) (h2 : IntsAt w A2 needs) (hn2 : needs.length = n2) (h3 : IntsAt w A3 S) (hn3 : S.length = n3) :
    Calls Try.prog 45 #[f, .slice A1 n1 c1, .slice A2 n2 c2, .slice A3 n3 c3] w fun e w' => e = .returned (.bool (haulB F rooms needs S)) ∧ Kp w w' := by
  obtain ⟨A, c, B, d, rfl, hA, hB⟩ := hf
  have hk0 : Kp w (w.alloc (.cells #[.slice A F.op.length c, .slice B F.di.length d] 29)) := (Kp.refl w).alloc _
  obtain ⟨d0, d1⟩ := box2 w (.slice A F.op.length c) (.slice B F.di.length d) 29
  have hFA := FldAt.kp (show FldAt w (.agg #[.slice A F.op.length c, .slice B F.di.length d]) F from ⟨A, c, B, d, rfl, hA, hB⟩) hk0
  replace h1 := h1.kp hk0
  replace h2 := h2.kp hk0
  replace h3 := h3.kp hk0
  have Hn1 := Lib.hid hn1; have Hn2 := Lib.hid hn2; have Hn3 := Lib.hid hn3
  clear hA hB hn1 hn2 hn3
  go_enter Try.func45, Try.ntmps45
  go_wp2_with fail
  have hsz : Hid ((w.alloc (.cells #[.slice A F.op.length c, .slice B F.di.length d] 29)).heap.size = w.heap.size + 1) := by show _ = _; simp
  generalize w.alloc (.cells #[.slice A F.op.length c, .slice B F.di.length d] 29) = wb at *
  have hkb : Kp wb wb := Kp.refl _
  have hkw := hk0
  have q_d0 := hkb.get d0
  have q_d1 := hkb.get d1
  go_wp2_with fail
  have CC := Lib.hid (isOpened_any _ F A3 S n3 c3 wb hFA h3 Hn3.out)
  with_reducible refine Calls.mono CC.out ?_
  rintro e w1 ⟨rfl, hk1⟩
  clear CC q_d0 q_d1
  replace hkb := hkb.trans hk1
  cases hg_ : openedB F S
  · have Hno : Hid (haulB F rooms needs S = false) := by show _ = _; rw [haulB, hg_]; rfl
    clear hg_
    have q_d0 := hkb.get d0
    have q_d1 := hkb.get d1
    go_wp2_with fail
    go_ret
    exact ⟨by rw [Hno.out]; rfl, hkw.trans hkb⟩
  have Hy : Hid (haulB F rooms needs S = needsB F rooms needs) := by show _ = _; rw [haulB, hg_]; rfl
  clear hg_
  have q_d0 := hkb.get d0
  have q_d1 := hkb.get d1
  go_wp2_with fail
  have CC := Lib.hid (areNeeds_any _ F A1 rooms n1 c1 A2 needs n2 c2 _ (hFA.kp hkb) (h1.kp hkb) Hn1.out (h2.kp hkb) Hn2.out)
  with_reducible refine Calls.mono CC.out ?_
  rintro e w2 ⟨rfl, hk2⟩
  clear CC q_d0 q_d1
  replace hkb := hkb.trans hk2
  have q_d0 := hkb.get d0
  have q_d1 := hkb.get d1
  go_wp2_with fail
  go_ret
  exact ⟨by rw [Hy.out]; rfl, hkw.trans hkb⟩
end Go.Proofs.Ytjhibahbcjlmfaa

namespace Go.Proofs.Ytjhibahbcjlmfaa
def lget (xs : List Int) (k : Nat) : Int := xs.getD k 0
theorem lget_at {xs : List Int} {k : Nat} (h : k < xs.length) : lget xs k = xs[k] := by simp [lget, List.getD, h]
end Go.Proofs.Ytjhibahbcjlmfaa

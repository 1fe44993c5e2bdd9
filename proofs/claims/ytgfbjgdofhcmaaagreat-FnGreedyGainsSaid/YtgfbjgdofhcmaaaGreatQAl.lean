/- Small functions of the laws on gains: too many bytes, equal lists, a list put in order; The best one is no worse than any; The answers of the law on greedy gains, as it compares them; The comparison of shares in the law on greedy gains; UpperGain: the reference, whatever the capacity; Sums over the first numbers; A table of numbers of the call's own, read and written; The drawing of arguments: words for a table that grows row by row, for a field that is drawn. No condition. -/
import Derived.Test.YtgfbjgdofhcmaaaGreatQAb
import Derived.Test.YtgfbjgdofhcmaaaGreatQAc
import Derived.Test.YtgfbjgdofhcmaaaGreatQAa
import Derived.Test.YtgfbjgdofhcmaaaGreatQAi
import Derived.Test.YtgfbjgdofhcmaaaGreatQAe
import Derived.Test.YtgfbjgdofhcmaaaGreatQAf
import Derived.Test.YtgfbjgdofhcmaaaGreatQAg
import Derived.Test.YtgfbjgdofhcmaaaGreatQAj
import Derived.Test.YtgfbjgdofhcmaaaGreatQAk
import Derived.IntWalk
import Derived.Test.YtgfbjgdofhcmaaaGreatQAd
namespace Go.Proofs.YtgfbjgdofhcmaaaGreat
open Go.RowKit Go.Sort

theorem rBig_any (A : Option Addr) (n c : Nat) (w : World) :
    Calls Tryz.prog 4 #[.slice A n c] w fun e w' => e = .returned (.bool (decide (65536 < (n : Int)))) ∧ w = w' := by
  go_enter Tryz.func4, Tryz.ntmps4
  go_wp2_with fail
  go_ret
  exact ⟨rfl, rfl⟩
set_option maxRecDepth 100000 in
set_option maxHeartbeats 1000000 in
/-- Two slices that read as the same list. -/
theorem rInts_same (A B : Option Addr) (xs : List Int) (n c d : Nat) (w : World) (hA : IntsAt w A xs) (hB : IntsAt w B xs) (hn : xs.length = n) :
    Calls Tryz.prog 8 #[.slice A n c, .slice B n d] w fun e w' => e = .returned (.bool true) ∧ Kp w w' := by
  have Hn := Lib.hid hn
  have hn63 : n ≤ 9223372036854775807 := hn ▸ hA.1
  clear hn
  have e0 : ((n : Int) != (n : Int)) = false := by simp
  go_enter Tryz.func8, Tryz.ntmps8
  go_wp2_with fail
  go_loopw [5] (fun iv wr => ∃ i : Nat, iv = .int .i64 i ∧ i ≤ n ∧ Kp w wr) (fun iv _ => n - (intOf iv).toNat)
  case atStart => exact ⟨0, rfl, by omega, Kp.refl _⟩
  case round =>
    obtain ⟨i, rfl, hi, hkr⟩ := hrel
    by_cases hlt : i < n
    · have lx : i < xs.length := by rw [Hn.out]; exact hlt
      obtain ⟨a, rfl, h1⟩ := (hA.kp hkr).at_ lx
      obtain ⟨b, rfl, h2⟩ := (hB.kp hkr).at_ lx
      obtain ⟨z, hz⟩ : ∃ z, xs[i] = z := ⟨_, rfl⟩
      rw [hz] at h1 h2
      have e1 : (z != z) = false := by simp
      have hkd : Kp w wr.drew := hkr.trans (Kp.refl wr).drew
      have iI : (i : Int) < (n : Int) := by omega
      go_wp2_with fail
      go_still (by kernel_rfl)
      change Exit.then _ _ _ _ wr.drew
      generalize wr.drew = wd at *
      go_wp2_with fail
      go_roundw
      case rel => exact ⟨i + 1, by go_num, by omega, hkd⟩
      case measure => simp [intOf]; omega
    · obtain rfl : i = n := by omega
      go_wp2_with fail
      go_ret
      exact ⟨rfl, hkr⟩
set_option maxRecDepth 100000 in
set_option maxHeartbeats 1000000 in
theorem rHas_any (A : Option Addr) (xs : List Int) (n c : Nat) (x : Int) (w : World) (hA : IntsAt w A xs) (hn : xs.length = n) :
    Calls Tryz.prog 48 #[.slice A n c, .int .i64 x] w fun e w' => e = .returned (.bool (xs.any fun y => y == x)) ∧ Kp w w' := by
  have Hn := Lib.hid hn
  have hn63 : n ≤ 9223372036854775807 := hn ▸ hA.1
  clear hn
  go_enter Tryz.func48, Tryz.ntmps48
  go_wp2_with fail
  go_loopw [5] (fun iv wr => ∃ i : Nat, iv = .int .i64 i ∧ i ≤ n ∧ Hid ((xs.take i).any (fun y => y == x) = false) ∧ Kp w wr) (fun iv _ => n - (intOf iv).toNat)
  case atStart => exact ⟨0, rfl, by omega, Lib.hid rfl, Kp.refl _⟩
  case round =>
    obtain ⟨i, rfl, hi, Hno, hkr⟩ := hrel
    by_cases hlt : i < n
    · have lx : i < xs.length := by rw [Hn.out]; exact hlt
      obtain ⟨a, rfl, h1⟩ := (hA.kp hkr).at_ lx
      obtain ⟨z, hz⟩ : ∃ z, xs[i] = z := ⟨_, rfl⟩
      rw [hz] at h1
      have iI : (i : Int) < (n : Int) := by omega
      have Hst : Hid ((xs.take (i + 1)).any (fun y => y == x) = (z == x)) := by
        show _ = _
        rw [List.take_succ_eq_append_getElem lx, List.any_append, Hno.out, hz]; simp
      cases hzx : (z == x)
      · rw [hzx] at Hst
        have hne : (z == x) = false := hzx
        go_wp2_with fail
        go_roundw
        case rel => exact ⟨i + 1, by go_num, by omega, Hst, hkr⟩
        case measure => simp [intOf]; omega
      · have hyes : Hid (xs.any (fun y => y == x) = true) := by
          show _ = _
          rw [List.any_eq_true]
          exact ⟨z, hz ▸ List.getElem_mem lx, hzx⟩
        go_wp2_with fail
        go_ret
        exact ⟨by rw [hyes.out]; rfl, hkr⟩
    · obtain rfl : i = n := by omega
      have hno : Hid (xs.any (fun y => y == x) = false) := by
        show _ = _
        have := Hno.out
        rwa [List.take_of_length_le (by rw [Hn.out]; omega)] at this
      go_wp2_with fail
      go_ret
      exact ⟨by rw [hno.out]; rfl, hkr⟩
/-- What is put in order so far: of -1 .. k - 2 what stands in the list. -/
def srtTo (xs : List Int) (k : Nat) : List Int := ((List.range k).map fun i : Nat => (i : Int) - 1).filter fun x => xs.any fun y => y == x
theorem srtTo_yes {xs : List Int} {k : Nat} (h : (xs.any fun y => y == (k : Int) - 1) = true) : srtTo xs (k + 1) = srtTo xs k ++ [(k : Int) - 1] := by
  unfold srtTo
  rw [List.range_succ, List.map_append, List.filter_append]
  simp [h]
theorem srtTo_no {xs : List Int} {k : Nat} (h : (xs.any fun y => y == (k : Int) - 1) = false) : srtTo xs (k + 1) = srtTo xs k := by
  unfold srtTo
  rw [List.range_succ, List.map_append, List.filter_append]
  simp [h]
theorem srtTo_len (xs : List Int) (k : Nat) : (srtTo xs k).length ≤ k := by
  unfold srtTo
  have := List.length_filter_le (fun x => xs.any fun y => y == x) ((List.range k).map fun i : Nat => (i : Int) - 1)
  simpa using this
theorem srtTo_sorted (xs : List Int) (k : Nat) : (srtTo xs k).Pairwise (· < ·) := by
  unfold srtTo
  refine List.Pairwise.filter _ ?_
  rw [List.pairwise_map]
  exact List.pairwise_lt_range.imp (fun h => by omega)
theorem mem_srtTo {xs : List Int} {k : Nat} {x : Int} : x ∈ srtTo xs k ↔ x ∈ xs ∧ -1 ≤ x ∧ x < (k : Int) - 1 := by
  unfold srtTo
  rw [List.mem_filter, List.mem_map, List.any_eq_true]
  constructor
  · rintro ⟨⟨i, hi, rfl⟩, y, hy, e⟩
    rw [List.mem_range] at hi
    have := eq_of_beq e
    exact ⟨this ▸ hy, by omega, by omega⟩
  · rintro ⟨h1, h2, h3⟩
    exact ⟨⟨(x + 1).toNat, List.mem_range.2 (by omega), by omega⟩, x, h1, by simp⟩
set_option maxRecDepth 100000 in
set_option maxHeartbeats 1000000 in
theorem rSorted_any (A : Option Addr) (xs : List Int) (n c : Nat) (w : World) (hA : IntsAt w A xs) (hn : xs.length = n) :
    Calls Tryz.prog 19 #[.slice A n c] w fun e w' => ∃ v, e = .returned v ∧ Own w' w.heap.size v (srtTo xs 1002) ∧ Kp w w' := by
  have Hn := Lib.hid hn
  clear hn
  have ho := own_new0 w w.heap.size (Nat.le_refl _)
  have hk : Kp w (w.alloc (.cells #[] 3)) := (Kp.refl w).alloc _
  go_enter Tryz.func19, Tryz.ntmps19
  go_wp2_with fail
  generalize w.alloc (.cells #[] 3) = wa at *
  go_loopw [3, 4] (fun ox iv wr => ∃ (k : Nat) (z : Int) (ov : Value), ov = ox ∧ iv = .int .i64 z ∧ Hid (z = (k : Int) - 1) ∧ k ≤ 1002 ∧ Own wr w.heap.size ov (srtTo xs k) ∧ Kp w wr) (fun _ iv _ => (1001 - intOf iv).toNat)
  case atStart => exact ⟨0, -1, _, rfl, rfl, Lib.hid rfl, by omega, ho, hk⟩
  case round =>
    clear ho hk
    obtain ⟨k, z, ov, rfl, rfl, hz, hk, ho, hkr⟩ := hrel
    by_cases hle : z ≤ 1000
    · have hz0 : -1 ≤ z := by have := hz.out; omega
      have hzw : wrap64 (z + 1) = z + 1 := IntWalk.wrap64_in _ (by omega)
      have hi := hA.kp hkr
      have CC := Lib.hid (rHas_any A xs n c z wr hi Hn.out)
      have Hl := Lib.hid (srtTo_len xs k)
      go_wp2_with fail
      with_reducible refine Calls.mono CC.out ?_
      rintro e w1 ⟨rfl, hk1⟩
      clear CC
      have ho1 := ho.kp hk1
      have hkb := hkr.trans hk1
      cases hb : xs.any fun y => y == z
      · have Hn2 := Lib.hid (srtTo_no (xs := xs) (k := k) (by rw [← hz.out]; exact hb))
        clear hb
        go_wp2_with fail
        go_roundw
        case rel => exact ⟨k + 1, z + 1, _, rfl, by go_num, Lib.hid (by have := hz.out; omega), by have := hz.out; omega, by rw [Hn2.out]; exact ho1, hkb⟩
        case measure => simp [intOf]; omega
      · have Hy := Lib.hid (srtTo_yes (xs := xs) (k := k) (by rw [← hz.out]; exact hb))
        have hbase := hkb.le
        have hl2 : (srtTo xs k).length < 1048576 := by have := Hl.out; omega
        clear hb
        go_wp2_with (at_builtin; go_loud (refine wpl_app rfl (.tmp 13) (.tmp 15) rfl w.heap.size ov (srtTo xs k) z rfl rfl ho1 hbase hl2 ?_); intro v2 w2 ho2 ht2 h42)
        go_roundw
        case rel => exact ⟨k + 1, z + 1, v2, rfl, by go_num, Lib.hid (by have := hz.out; omega), by have := hz.out; omega, by rw [Hy.out, ← hz.out]; exact ho2, ho1.kp_turn hkb (Nat.le_refl _) ht2⟩
        case measure => simp [intOf]; omega
    · obtain rfl : k = 1002 := by have := hz.out; omega
      go_wp2_with fail
      go_ret
      exact ⟨_, rfl, ho, hkr⟩
end Go.Proofs.YtgfbjgdofhcmaaaGreat

namespace Go.Proofs.YtgfbjgdofhcmaaaGreat
open Go.RowKit Go.Sort

theorem bestTo_le {v : List Int → Int} {rows : List (List Int)} : ∀ k, k ≤ rows.length → ∀ S ∈ rows.take k, v (bestTo v rows k) ≤ v S
  | 0, _, S, h => by simp at h
  | k + 1, hk, S, h => by
    have hk' : k < rows.length := by omega
    rw [bestTo_succ hk']
    have hstep : v (bestStep v (bestTo v rows k) rows[k]) ≤ v (bestTo v rows k) ∧ v (bestStep v (bestTo v rows k) rows[k]) ≤ v rows[k] := by
      unfold bestStep
      by_cases hlt : v rows[k] < v (bestTo v rows k)
      · rw [if_pos hlt]; omega
      · rw [if_neg hlt]; omega
    rw [List.take_succ_eq_append_getElem hk', List.mem_append] at h
    rcases h with h | h
    · have := bestTo_le (v := v) k (by omega) S h; omega
    · have e : S = rows[k] := by simpa using h
      rw [e]; exact hstep.2
theorem bestL_le {v : List Int → Int} {rows : List (List Int)} : ∀ S ∈ rows, v (bestL v rows) ≤ v S := fun S h => by
  rw [← bestTo_all]
  exact bestTo_le _ (Nat.le_refl _) S (by rw [List.take_length]; exact h)
end Go.Proofs.YtgfbjgdofhcmaaaGreat

namespace Go.Proofs.YtgfbjgdofhcmaaaGreat
open Go.RowKit Go.Sort

theorem len_sub {L T : List Int} (hn : L.Nodup) (h : ∀ x ∈ L, x ∈ T) : L.length ≤ T.length := by
  have := sum_subG (g := fun _ => 1) (fun _ => by omega) L T hn (fun x hx => .inl (h x hx))
  rw [sum_constG, sum_constG] at this
  omega
theorem srt_mem {F : Fld} {L : List Int} (hg : goodF F = true) (h : ∀ x ∈ L, 0 ≤ x ∧ x < (F.op.length : Int)) : (∀ x, x ∈ srtTo L 1002 ↔ x ∈ L) ∧ setB F (srtTo L 1002) = true ∧ (srtTo L 1002).length ≤ L.length := by
  have h7 := (goodF_iff.1 hg).1.2
  have hm : ∀ x, x ∈ srtTo L 1002 ↔ x ∈ L := fun x => by
    rw [mem_srtTo]
    exact ⟨fun h => h.1, fun hx => ⟨hx, by have := h x hx; omega, by have := h x hx; omega⟩⟩
  refine ⟨hm, ris_iff.2 ⟨srtTo_sorted _ _, fun x hx => ?_⟩, len_sub ((srtTo_sorted L 1002).imp (fun h => by omega)) (fun x hx => (hm x).1 hx)⟩
  have := h x ((hm x).1 hx)
  omega
theorem bg_ge {F : Fld} {worth : Int} {p : List Int → Bool} {S : List Int} (hs : setB F S = true) (hp : p S = true) : gainF F worth S ≤ gainF F worth (bgF F worth p) := by
  have hm : S ∈ (allS F.op.length).filter p := List.mem_filter.2 ⟨by
    by_cases h : S = []
    · subst h; exact List.mem_cons_self
    · exact List.mem_cons_of_mem _ (mem_setsL.2 ⟨h, hs⟩), hp⟩
  have := bestL_le (v := negG F worth) S hm
  unfold negG at this
  unfold bgF negG
  omega
theorem bg_in {F : Fld} {worth : Int} {p : List Int → Bool} (h : p [] = true) : p (bgF F worth p) = true := (List.mem_filter.1 (bg_mem (F := F) (worth := worth) h)).2
theorem lu_ge {F : Fld} {worth : Int} {K : Nat} {T L : List Int} (hT : setB F T = true) (hl : T.length ≤ K) : ∀ k, gainF F worth T ≤ luTo F worth K L k
  | 0 => up_ge hT hl
  | k + 1 => by
    have h1 := lu_ge (L := L) (worth := worth) hT hl k
    have h2 := up_ge (worth := worth) (S := preS F L (k + 1)) hT hl
    show _ ≤ min _ _
    omega
/-- The answers. -/
structure GgA (lz gr srt best : List Int) (low high upper many n k : Int) (f1 f2 : Bool) (K : Nat) : Prop where
  same : lz = gr
  ok1 : f1 = true
  ok2 : f2 = true
  le : low ≤ high
  up : high ≤ upper
  bd : 0 ≤ low ∧ high ≤ 6993
  share : ((K : Int) ^ K - ((K : Int) - 1) ^ K) * high ≤ (K : Int) ^ K * low
  many1 : n ≤ many
  many2 : many ≤ n + n * k
  kk : k = K ∧ K ≤ 7 ∧ 1 ≤ n ∧ n ≤ 7
theorem gg_parts {F : Fld} {worth k : Int} (h : grdOk F worth k = true) : GgA (lzL F worth k) (grdL F worth k) (srtTo (grdL F worth k) 1002) (bgL F worth k) (gainR F worth (srtTo (grdL F worth k) 1002)) (gainR F worth (bgL F worth k)) (luR F worth k) (lzM F worth k) F.op.length k (gainOk F worth (srtTo (grdL F worth k) 1002)) (gainOk F worth (bgL F worth k)) k.toNat := by
  obtain ⟨hg, hw, hk⟩ := grdOk_parts h
  have hn := (goodF_iff.1 hg).1
  have hb : bgOk F worth k = true := h
  have hin : ∀ x ∈ grdL F worth k, 0 ≤ x ∧ x < (F.op.length : Int) := by
    rw [grdL_yes h]
    exact grd_in _ _ _ (by simp)
  obtain ⟨hm, hs, hl⟩ := srt_mem hg hin
  have hwB : worthB worth = true := by unfold worthB; exact inB_iff.2 hw
  have hbs : setB F (bgL F worth k) = true := by rw [bgL_yes hb]; exact bg_set (kP_nil hk.1)
  have hbl : (bgL F worth k).length ≤ k.toNat := by
    rw [bgL_yes hb]
    have := bg_in (F := F) (worth := worth) (p := kP k) (kP_nil hk.1)
    simp only [kP, decide_eq_true_eq] at this
    omega
  have o1 : gainOk F worth (srtTo (grdL F worth k) 1002) = true := by unfold gainOk; rw [hg, hwB, hs]; rfl
  have o2 : gainOk F worth (bgL F worth k) = true := by unfold gainOk; rw [hg, hwB, hbs]; rfl
  have r1 : gainR F worth (srtTo (grdL F worth k) 1002) = gainF F worth (grdL F worth k) := by unfold gainR; rw [if_pos o1, gain_eq hm]
  have r2 : gainR F worth (bgL F worth k) = gainF F worth (bgL F worth k) := by unfold gainR; rw [if_pos o2]
  obtain ⟨z1, z2, z3⟩ := lz_is (F := F) (worth := worth) (K := k.toNat)
  have hkk : ((k.toNat : Nat) : Int) = k := by omega
  have b1 := gainF_bd hg hw.1 hw.2 (grdL F worth k)
  have b2 := gainF_bd hg hw.1 hw.2 (bgL F worth k)
  have hlen : (grdL F worth k).length ≤ k.toNat := by
    rw [grdL_yes h]
    have := grd_len (F := F) (worth := worth) (may := anyS) k.toNat [] []
    simpa using this
  refine ⟨?_, o1, o2, ?_, ?_, ?_, ?_, ?_, ?_, ⟨by omega, by omega, by omega, by omega⟩⟩
  · rw [grdL_yes h]
    unfold lzL
    rw [if_pos h, z1]; rfl
  · rw [r1, r2, ← gain_eq hm, bgL_yes hb]
    exact bg_ge hs (by unfold kP; exact decide_eq_true (by omega))
  · rw [r2]
    unfold luR
    rw [if_pos h]
    exact lu_ge hbs hbl _
  · rw [r1, r2]; omega
  · rw [r1, r2]
    by_cases h0 : k.toNat = 0
    · rw [h0]
      show ((1 : Int) - 1) * _ ≤ 1 * _
      omega
    · have := grd_share (F := F) (worth := worth) (K := k.toNat) (by omega) (T := bgL F worth k) (set_mem hbs) hbl k.toNat [] [] 1 (gainF F worth (bgL F worth k)) (fun x => Iff.rfl) (by omega) (by omega) (by rw [gainF_nil]; omega)
      have e : grd F worth (fun _ => true) k.toNat [] [] = grdL F worth k := (grdL_yes h).symm
      rw [e, Int.mul_one, Int.mul_sub] at this
      rw [Int.sub_mul]
      omega
  · unfold lzM; rw [if_pos h]; exact z2
  · unfold lzM; rw [if_pos h]
    rw [hkk] at z3; exact z3
/-- The upper gain against the best one. -/
structure UgA (f5 f6 : Bool) (high above : Int) : Prop where
  ok1 : f5 = true
  ok2 : f6 = true
  le : high ≤ above
theorem ug_parts {F : Fld} {worth k : Int} {S : List Int} (h : ugOk F worth S k = true) : UgA (bgOk F worth k) (gainOk F worth (bgL F worth k)) (gainR F worth (bgL F worth k)) (ugR F worth S k) := by
  have h0 := h
  simp only [ugOk, Bool.and_eq_true] at h0
  obtain ⟨⟨hg, hw⟩, hs, hk⟩ := h0
  have hb : bgOk F worth k = true := by unfold bgOk; rw [hg, hw, hk]; rfl
  have hk2 := inB_iff.1 hk
  have hbs : setB F (bgL F worth k) = true := by rw [bgL_yes hb]; exact bg_set (kP_nil hk2.1)
  have hbl : (bgL F worth k).length ≤ k.toNat := by
    rw [bgL_yes hb]
    have := bg_in (F := F) (worth := worth) (p := kP k) (kP_nil hk2.1)
    simp only [kP, decide_eq_true_eq] at this
    omega
  have o2 : gainOk F worth (bgL F worth k) = true := by unfold gainOk; rw [hg, hw, hbs]; rfl
  refine ⟨hb, o2, ?_⟩
  unfold gainR ugR
  rw [if_pos o2, if_pos h]
  exact up_ge hbs hbl
end Go.Proofs.YtgfbjgdofhcmaaaGreat

namespace Go.Proofs.YtgfbjgdofhcmaaaGreat
open Go.RowKit Go.Sort

theorem pow_hi {a : Int} (h0 : 0 ≤ a) (h7 : a ≤ 7) : ∀ i : Nat, i ≤ 7 → 0 ≤ a ^ i ∧ a ^ i ≤ 823543 := by
  have key : ∀ i : Nat, 0 ≤ a ^ i ∧ a ^ i ≤ 7 ^ i := fun i => by
    induction i with
    | zero => simp
    | succ i ih =>
      rw [Int.pow_succ, Int.pow_succ]
      refine ⟨Int.mul_nonneg ih.1 h0, Int.mul_le_mul ih.2 h7 h0 (Int.le_trans ih.1 ih.2)⟩
  intro i hi
  obtain ⟨k1, k2⟩ := key i
  refine ⟨k1, Int.le_trans k2 ?_⟩
  have : i = 0 ∨ i = 1 ∨ i = 2 ∨ i = 3 ∨ i = 4 ∨ i = 5 ∨ i = 6 ∨ i = 7 := by omega
  rcases this with h | h | h | h | h | h | h | h <;> subst h <;> decide
theorem pow_lo {a : Int} (h0 : -1 ≤ a) (h7 : a ≤ 6) : ∀ i : Nat, i ≤ 7 → -823543 ≤ a ^ i ∧ a ^ i ≤ 823543 := by
  intro i hi
  by_cases h : 0 ≤ a
  · have := pow_hi h (by omega) i hi; omega
  · have e : a = -1 := by omega
    subst e
    have : i = 0 ∨ i = 1 ∨ i = 2 ∨ i = 3 ∨ i = 4 ∨ i = 5 ∨ i = 6 ∨ i = 7 := by omega
    rcases this with h | h | h | h | h | h | h | h <;> subst h <;> decide
theorem mul_bdG {a b M N : Int} (h1 : -M ≤ a ∧ a ≤ M) (h2 : 0 ≤ b ∧ b ≤ N) (hM : 0 ≤ M) : -(M * N) ≤ a * b ∧ a * b ≤ M * N := by
  have u1 : a * b ≤ M * b := Int.mul_le_mul_of_nonneg_right h1.2 h2.1
  have u2 : -M * b ≤ a * b := Int.mul_le_mul_of_nonneg_right h1.1 h2.1
  have u3 : M * b ≤ M * N := Int.mul_le_mul_of_nonneg_left h2.2 hM
  rw [Int.neg_mul] at u2
  omega
set_option maxRecDepth 100000 in
set_option maxHeartbeats 1000000 in
theorem rShare_any (low high : Int) (K : Nat) (w : World) (hK : K ≤ 7) (hl : 0 ≤ low ∧ low ≤ 6993) (hh : 0 ≤ high ∧ high ≤ 6993) :
    Calls Tryz.prog 20 #[.int .i64 low, .int .i64 high, .int .i64 K] w fun e w' => e = .returned (.bool (decide (((K : Int) ^ K - ((K : Int) - 1) ^ K) * high ≤ (K : Int) ^ K * low))) ∧ w = w' := by
  have HP := Lib.hid (fun i (hi : i ≤ 7) => pow_hi (a := (K : Int)) (by omega) (by omega) i hi)
  have HQ := Lib.hid (fun i (hi : i ≤ 7) => pow_lo (a := (K : Int) - 1) (by omega) (by omega) i hi)
  have hk1 : wrap64 ((K : Int) - 1) = (K : Int) - 1 := IntWalk.wrap64_in _ (by omega)
  have hk2 : IntKind.i64.wrap ((K : Int) - 1) = (K : Int) - 1 := IntWalk.i64_in _ (by omega)
  go_enter Tryz.func20, Tryz.ntmps20
  go_wp2_with fail
  go_loop [7, 8, 9] (fun av bv iv => ∃ k : Nat, k ≤ K ∧ iv = .int .i64 k ∧ av = .int .i64 ((K : Int) ^ k) ∧ bv = .int .i64 (((K : Int) - 1) ^ k)) (fun _ _ iv => K - (intOf iv).toNat)
  case atStart => exact ⟨0, by omega, rfl, by simp, by simp⟩
  case round =>
    obtain ⟨k, hk, rfl, rfl, rfl⟩ := hrel
    by_cases hlt : k < K
    · have h1 := HP.out k (by omega)
      have h2 := HQ.out k (by omega)
      have e1 : Hid ((K : Int) ^ (k + 1) = (K : Int) ^ k * K) := Int.pow_succ _ _
      have e2 : Hid (((K : Int) - 1) ^ (k + 1) = ((K : Int) - 1) ^ k * ((K : Int) - 1)) := Int.pow_succ _ _
      have h3 := HP.out (k + 1) (by omega)
      have h4 := HQ.out (k + 1) (by omega)
      rw [e1.out] at h3
      rw [e2.out] at h4
      generalize (K : Int) ^ k = a at *
      generalize ((K : Int) - 1) ^ k = b at *
      have s1 : wrap64 (a * K) = a * K := IntWalk.wrap64_in _ (by omega)
      have s2 : wrap64 (b * ((K : Int) - 1)) = b * ((K : Int) - 1) := IntWalk.wrap64_in _ (by omega)
      go_wp2_with fail
      go_round
      case rel => exact ⟨k + 1, by omega, by go_num, by rw [e1.out], by rw [e2.out]⟩
      case measure => simp [intOf]; omega
    · obtain rfl : k = K := by omega
      have h1 := HP.out k hK
      have h2 := HQ.out k hK
      obtain ⟨a, Ha⟩ : ∃ a, Hid ((k : Int) ^ k = a) := ⟨_, Lib.hid rfl⟩
      obtain ⟨b, Hb⟩ : ∃ b, Hid (((k : Int) - 1) ^ k = b) := ⟨_, Lib.hid rfl⟩
      rw [Ha.out] at h1 ⊢
      rw [Hb.out] at h2 ⊢
      have m1 := mul_bdG (a := a) (b := low) (M := 823543) (N := 6993) (by omega) hl (by omega)
      have m2 := mul_bdG (a := a - b) (b := high) (M := 1647086) (N := 6993) (by omega) hh (by omega)
      have s0 : wrap64 (a - b) = a - b := IntWalk.wrap64_in _ (by omega)
      have s1 : wrap64 (a * low) = a * low := IntWalk.wrap64_in _ (by omega)
      have s2 : wrap64 ((a - b) * high) = (a - b) * high := IntWalk.wrap64_in _ (by omega)
      go_wp2_with fail
      go_ret
      exact ⟨ret_bool (by rw [Ha.out, Hb.out]), rfl⟩
end Go.Proofs.YtgfbjgdofhcmaaaGreat

namespace Go.Proofs.YtgfbjgdofhcmaaaGreat
open Go.RowKit Go.Sort

set_option maxRecDepth 100000 in
set_option maxHeartbeats 400000 in
theorem specUgC_any (f : Value) (F : Fld) (worth : Int) (A0 : Option Addr) (S : List Int) (n c0 : Nat) (k : Int) (w : World) (hf : FldAt w f F) (hS : IntsAt w A0 S) (hn : S.length = n) (hc0 : n ≤ c0) :
    Calls Tryz.prog 17 #[f, .int .i64 worth, .slice A0 n c0, .int .i64 k] w fun e w' => e = .returned (.tuple #[.int .i64 (ugR F worth S k), .bool (ugOk F worth S k)]) ∧ Kp w w' := by
  obtain ⟨A, c, B, d, rfl, hA, hB⟩ := hf
  have hk0 : Kp w (w.alloc (.cells #[.slice A F.op.length c, .slice B F.di.length d] 27)) := (Kp.refl w).alloc _
  obtain ⟨d0, d1⟩ := box2 w (.slice A F.op.length c) (.slice B F.di.length d) 27
  have hFA := FldAt.kp (show FldAt w (.agg #[.slice A F.op.length c, .slice B F.di.length d]) F from ⟨A, c, B, d, rfl, hA, hB⟩) hk0
  have hS0 := hS.kp hk0
  have Hn := Lib.hid hn; clear hn hS hA hB
  go_enter Tryz.func17, Tryz.ntmps17
  go_wp2_with fail
  have hsz : Hid ((w.alloc (.cells #[.slice A F.op.length c, .slice B F.di.length d] 27)).heap.size = w.heap.size + 1) := by show _ = _; simp
  generalize w.alloc (.cells #[.slice A F.op.length c, .slice B F.di.length d] 27) = wb at *
  have hkb : Kp wb wb := Kp.refl _
  have hkw := hk0
  have CC := Lib.hid (l8Good_any _ F worth _ (hFA.kp hkb))
  with_reducible refine Calls.mono CC.out ?_
  rintro e w1 ⟨rfl, hk1⟩
  clear CC
  replace hkb := hkb.trans hk1
  cases hg_ : (goodF F && worthB worth)
  · have Hg := Lib.hid hg_; clear hg_
    have q_d0 := hkb.get d0
    have q_d1 := hkb.get d1
    go_wp2_with fail
    go_ret2
    exact ⟨ug_no (by simp only [ugOk, Hg.out]; rfl), hkw.trans hkb⟩
  have Hg := Lib.hid hg_; clear hg_
  have q_d0 := hkb.get d0
  have q_d1 := hkb.get d1
  go_wp2_with fail
  have CC := Lib.hid (l2Set_any _ F A0 S n c0 _ (hFA.kp hkb) (hS0.kp hkb) Hn.out)
  with_reducible refine Calls.mono CC.out ?_
  rintro e w2 ⟨rfl, hk2⟩
  clear CC q_d0 q_d1
  replace hkb := hkb.trans hk2
  cases hg_ : (setB F S)
  · have Hs := Lib.hid hg_; clear hg_
    have q_d0 := hkb.get d0
    have q_d1 := hkb.get d1
    go_wp2_with fail
    go_ret2
    exact ⟨ug_no (by simp only [ugOk, Hg.out, Hs.out]; rfl), hkw.trans hkb⟩
  have Hs := Lib.hid hg_; clear hg_
  have q_d0 := hkb.get d0
  have q_d1 := hkb.get d1
  go_wp2_with fail
  with_reducible refine Calls.mono (l8K_any k _) ?_
  rintro e w3 ⟨rfl, hw⟩
  obtain rfl := hw
  clear q_d0 q_d1
  cases hg_ : (inB k 0 7)
  · have Hi := Lib.hid hg_; clear hg_
    have q_d0 := hkb.get d0
    have q_d1 := hkb.get d1
    go_wp2_with fail
    go_ret2
    exact ⟨ug_no (by simp only [ugOk, Hi.out, Hs.out]; simp), hkw.trans hkb⟩
  have Hi := Lib.hid hg_; clear hg_
  have Hok : Hid (ugOk F worth S k = true) := by
    show ugOk F worth S k = true
    simp only [ugOk, Hg.out, Hi.out, Hs.out]; rfl
  have HP := Lib.hid (ugOk_parts Hok.out)
  have h0 := HP.out.2.2.2.1
  have h1 := HP.out.2.2.2.2
  obtain ⟨K, rfl⟩ := Int.eq_ofNat_of_zero_le h0
  have q_d0 := hkb.get d0
  have q_d1 := hkb.get d1
  go_wp2_with fail
  have CC := Lib.hid (l8Upper_any _ F worth A0 S n c0 K _ (hFA.kp hkb) (hS0.kp hkb) Hn.out hc0 HP.out.1 HP.out.2.1 HP.out.2.2.1.1 HP.out.2.2.1.2 (by omega))
  with_reducible refine Calls.mono CC.out ?_
  rintro e w4 ⟨rfl, hk4⟩
  clear CC q_d0 q_d1
  replace hkb := hkb.trans hk4
  have q_d0 := hkb.get d0
  have q_d1 := hkb.get d1
  go_wp2_with fail
  go_ret2
  exact ⟨ug_yes Hok.out, hkw.trans hkb⟩
end Go.Proofs.YtgfbjgdofhcmaaaGreat

namespace Go.Proofs.YtgfbjgdofhcmaaaGreat
theorem sumTo_addf (g h : Nat → Int) : ∀ k, sumTo (fun i => g i + h i) k = sumTo g k + sumTo h k
  | 0 => by simp [sumTo_zero]
  | k + 1 => by rw [sumTo_succ, sumTo_succ, sumTo_succ, sumTo_addf g h k]; omega
theorem sumTo_congr {g h : Nat → Int} : ∀ {k : Nat}, (∀ i, i < k → g i = h i) → sumTo g k = sumTo h k
  | 0, _ => rfl
  | k + 1, e => by rw [sumTo_succ, sumTo_succ, sumTo_congr (fun i hi => e i (by omega)), e k (by omega)]
theorem sumTo_mono' {g h : Nat → Int} : ∀ {k : Nat}, (∀ i, i < k → g i ≤ h i) → sumTo g k ≤ sumTo h k
  | 0, _ => Int.le_refl _
  | k + 1, e => by rw [sumTo_succ, sumTo_succ]; have := sumTo_mono' (fun i hi => e i (by omega) : ∀ i, i < k → g i ≤ h i); have := e k (by omega); omega
theorem sumTo_lt {g h : Nat → Int} {a : Nat} : ∀ {k : Nat}, (∀ i, i < k → g i ≤ h i) → a < k → g a < h a → sumTo g k < sumTo h k
  | 0, _, ha, _ => by omega
  | k + 1, e, ha, hl => by
    rw [sumTo_succ, sumTo_succ]
    by_cases h1 : a = k
    · subst h1; have := sumTo_mono' (fun i hi => e i (by omega) : ∀ i, i < a → g i ≤ h i); omega
    · have := sumTo_lt (fun i hi => e i (by omega) : ∀ i, i < k → g i ≤ h i) (by omega) hl; have := e k (by omega); omega
theorem sumTo_c0 (k : Nat) : sumTo (fun _ => 0) k = 0 := by
  induction k with
  | zero => rfl
  | succ k ih => rw [sumTo_succ, ih]; rfl
theorem sumTo_sub (g h : Nat → Int) : ∀ k, sumTo (fun i => g i - h i) k = sumTo g k - sumTo h k
  | 0 => by simp [sumTo_zero]
  | k + 1 => by rw [sumTo_succ, sumTo_succ, sumTo_succ, sumTo_sub g h k]; omega
theorem sumTo_mulc (g : Nat → Int) (c : Int) : ∀ k, sumTo (fun i => g i * c) k = sumTo g k * c
  | 0 => by simp [sumTo_zero]
  | k + 1 => by rw [sumTo_succ, sumTo_succ, sumTo_mulc g c k, Int.add_mul]
theorem sumTo_swap (g : Nat → Nat → Int) (k : Nat) : ∀ m, sumTo (fun i => sumTo (g i) k) m = sumTo (fun j => sumTo (fun i => g i j) m) k
  | 0 => by simp only [sumTo_zero]; rw [sumTo_c0]
  | m + 1 => by
    rw [sumTo_succ, sumTo_swap g k m, ← sumTo_addf]
    exact sumTo_congr (fun j _ => (sumTo_succ _ _).symm)
theorem sumTo_nn {g : Nat → Int} {k : Nat} (h : ∀ i, i < k → 0 ≤ g i) : 0 ≤ sumTo g k := by
  have := sumTo_mono' (g := fun _ => 0) h
  rwa [sumTo_c0] at this
theorem sumTo_ge {g : Nat → Int} {a : Nat} : ∀ {k : Nat}, (∀ i, i < k → 0 ≤ g i) → a < k → g a ≤ sumTo g k
  | 0, _, ha => by omega
  | k + 1, h, ha => by
    rw [sumTo_succ]
    by_cases h1 : a = k
    · subst h1; have := sumTo_nn (fun i hi => h i (by omega) : ∀ i, i < a → 0 ≤ g i); omega
    · have := sumTo_ge (fun i hi => h i (by omega) : ∀ i, i < k → 0 ≤ g i) (show a < k by omega); have := h k (by omega); omega
theorem sumTo_pos' {g : Nat → Int} {k : Nat} (h : ∀ i, i < k → 0 ≤ g i) (hs : 0 < sumTo g k) : ∃ i, i < k ∧ 0 < g i := by
  by_cases hh : ∃ i, i < k ∧ 0 < g i
  · exact hh
  · exfalso
    have : ∀ i, i < k → g i ≤ (fun _ => (0 : Int)) i := fun i hi => by
      have := h i hi
      by_cases h2 : 0 < g i
      · exact absurd ⟨i, hi, h2⟩ hh
      · show g i ≤ 0; omega
    have := sumTo_mono' this
    rw [sumTo_c0] at this; omega
/-- Change at one place. -/
def upd {α : Type} (g : Nat → α) (j : Nat) (x : α) (i : Nat) : α := if i = j then x else g i
def upd2 (f : Nat → Nat → Int) (j a : Nat) (x : Int) (i b : Nat) : Int := if i = j then upd (f j) a x b else f i b
theorem upd_at {α : Type} {g : Nat → α} {j : Nat} {x : α} : upd g j x j = x := if_pos rfl
theorem upd_ne {α : Type} {g : Nat → α} {j i : Nat} {x : α} (h : i ≠ j) : upd g j x i = g i := if_neg h
theorem sumTo_ones (n : Nat) : sumTo (fun _ => 1) n = (n : Int) := by
  induction n with
  | zero => rfl
  | succ n ih => rw [sumTo_succ, ih]; omega
theorem sumTo_single {g : Nat → Int} {p : Nat} : ∀ {n : Nat}, p < n → (∀ i, i < n → i ≠ p → g i = 0) → sumTo g n = g p
  | 0, h, _ => by omega
  | n + 1, h, h0 => by
    rw [sumTo_succ]
    by_cases e : p = n
    · subst e
      rw [sumTo_congr (h := fun _ => 0) (fun i hi => h0 i (by omega) (by omega)), sumTo_c0]; omega
    · rw [sumTo_single (show p < n by omega) (fun i hi hn => h0 i (by omega) hn), h0 n (by omega) (by omega)]; omega
theorem sumTo_one {p n : Nat} (h : p < n) : sumTo (fun i => if i = p then 1 else 0) n = 1 := by
  rw [sumTo_single h (fun i _ hn => if_neg hn), if_pos rfl]
theorem upd2_at {f : Nat → Nat → Int} {j a : Nat} {x : Int} : upd2 f j a x j a = x := by unfold upd2; rw [if_pos rfl, upd_at]
theorem upd2_ne {f : Nat → Nat → Int} {j a i b : Nat} {x : Int} (h : i ≠ j ∨ b ≠ a) : upd2 f j a x i b = f i b := by
  unfold upd2
  by_cases e : i = j
  · subst e; rw [if_pos rfl]
    rcases h with h | h
    · exact absurd rfl h
    · exact upd_ne h
  · rw [if_neg e]
end Go.Proofs.YtgfbjgdofhcmaaaGreat

namespace Go.Proofs.YtgfbjgdofhcmaaaGreat
open Go.RowKit Go.Sort

/-- Block g holds J headers; row j lies in block B j and reads as f j. -/
structure Mat (w : World) (base g cap J M : Nat) (B Cp : Nat → Nat) (f : Nat → Nat → Int) : Prop where
  hd : w.ownsRow base 24 1 (.slice (some ⟨g, 0, none⟩) J cap) J ((List.range J).map fun j => Value.slice (some ⟨B j, 0, none⟩) M (Cp j))
  row : ∀ j, j < J → Own w base (.slice (some ⟨B j, 0, none⟩) M (Cp j)) (mapTo (f j) M)
  apart : ∀ i j, i < J → j < J → i ≠ j → B i ≠ B j
theorem Mat.kp {w w' : World} {base g cap J M : Nat} {B Cp : Nat → Nat} {f : Nat → Nat → Int} (h : Mat w base g cap J M B Cp f) (hk : Kp w w') : Mat w' base g cap J M B Cp f :=
  ⟨hk.own h.hd, fun j hj => (h.row j hj).kp hk, h.apart⟩
theorem Mat.turn {S : Nat → Prop} {w w' : World} {base g cap J M : Nat} {B Cp : Nat → Nat} {f : Nat → Nat → Int} (h : Mat w base g cap J M B Cp f) (ht : Turn S w w') (h1 : ¬ S g) (h2 : ∀ j, j < J → ¬ S (B j)) : Mat w' base g cap J M B Cp f :=
  ⟨own_turn h.hd ht (fun k hk hs => by have : g = k := by simpa [Value.ownBlock] using hk
                                       subst this; exact h1 hs),
   fun j hj => (h.row j hj).turn ht (fun k hk hs => by have : B j = k := by simpa [Value.ownBlock] using hk
                                                       subst this; exact h2 j hj hs), h.apart⟩
theorem Mat.congr {w : World} {base g cap J M : Nat} {B Cp : Nat → Nat} {f f' : Nat → Nat → Int} (h : Mat w base g cap J M B Cp f) (e : ∀ j a, j < J → a < M → f j a = f' j a) : Mat w base g cap J M B Cp f' :=
  ⟨h.hd, fun j hj => by
    have : mapTo (f j) M = mapTo (f' j) M := by unfold mapTo; exact List.map_congr_left (fun a ha => e j a hj (List.mem_range.1 ha))
    rw [← this]; exact h.row j hj, h.apart⟩
theorem Mat.lt {w : World} {base g cap J M : Nat} {B Cp : Nat → Nat} {f : Nat → Nat → Int} (h : Mat w base g cap J M B Cp f) {j : Nat} (hj : j < J) : base ≤ B j ∧ B j < w.heap.size := (h.row j hj).lt (B j) rfl
theorem Mat.glt {w : World} {base g cap J M : Nat} {B Cp : Nat → Nat} {f : Nat → Nat → Int} (h : Mat w base g cap J M B Cp f) : base ≤ g ∧ g < w.heap.size := World.ownsRow.lt h.hd g rfl
theorem Mat.gne {w : World} {base g cap J M : Nat} {B Cp : Nat → Nat} {f : Nat → Nat → Int} (h : Mat w base g cap J M B Cp f) {j : Nat} (hj : j < J) : B j ≠ g := fun e =>
  own_blocks_ne (h.row j hj) h.hd (by decide) (g := B j) rfl (by rw [e]; rfl)
theorem own_ne_hd {w : World} {base base' g n cap J : Nat} {A : Value} {xs : List Int} {hs : List Value} (h : Own w base A xs) (h2 : w.ownsRow base' 24 1 (.slice (some ⟨g, 0, none⟩) n cap) J hs) {k : Nat} (hk : A.ownBlock = some k) : k ≠ g := fun e =>
  own_blocks_ne h h2 (by decide) hk (by subst e; rfl)
theorem Mat.hcell {w : World} {base g cap J M : Nat} {B Cp : Nat → Nat} {f : Nat → Nat → Int} (h : Mat w base g cap J M B Cp f) {j : Nat} (hj : j < J) : w.cell? ⟨g, j, none⟩ = some (.slice (some ⟨B j, 0, none⟩) M (Cp j)) := by
  have := World.ownsRow.cells h.hd (g := g) rfl j (Value.slice (some ⟨B j, 0, none⟩) M (Cp j)) (by simp [hj])
  rwa [add0] at this
theorem mapTo_lget {g : Nat → Int} {M a : Nat} (h : a < M) : lget (mapTo g M) a = g a := by
  rw [lget_at (by rw [mapTo_len]; exact h), mapTo_get h]
theorem mapTo_set {g : Nat → Int} {M a : Nat} {z : Int} : (mapTo g M).set a z = mapTo (upd g a z) M := by
  unfold mapTo
  apply List.ext_getElem
  · simp
  · intro i h1 h2
    rw [List.getElem_set]
    by_cases e : a = i
    · subst e; simp [upd]
    · have e2 : ¬ i = a := fun h => e h.symm
      simp [e, upd, e2]
theorem Mat.cell {w : World} {base g cap J M : Nat} {B Cp : Nat → Nat} {f : Nat → Nat → Int} (h : Mat w base g cap J M B Cp f) {j a : Nat} (hj : j < J) (ha : a < M) :
    w.cell? ⟨B j, a, none⟩ = some (.int .i64 (f j a)) ∧ w.frozen? ⟨B j, a, none⟩ = false ∧
    ∀ z : Int, Mat (w.setCell ⟨B j, a, none⟩ (.int .i64 z)) base g cap J M B Cp (upd2 f j a z) ∧ Turn (fun i => i = B j) w (w.setCell ⟨B j, a, none⟩ (.int .i64 z)) := by
  obtain ⟨c1, c2, c3⟩ := (h.row j hj).slotL (mapTo_len _ _) ha
  rw [mapTo_lget ha] at c1
  refine ⟨c1, c2, fun z => ?_⟩
  obtain ⟨o1, t1⟩ := c3 z
  refine ⟨⟨own_turn h.hd t1 (fun k hk hs => ?_), fun i hi => ?_, h.apart⟩, t1⟩
  · have e : g = k := by simpa [Value.ownBlock] using hk
    subst e; exact h.gne hj hs.symm
  · by_cases e : i = j
    · subst e
      rw [mapTo_set] at o1
      have : upd2 f i a z i = upd (f i) a z := by funext b; unfold upd2; rw [if_pos rfl]
      rw [this]; exact o1
    · have : upd2 f j a z i = f i := by funext b; unfold upd2; rw [if_neg e]
      rw [this]
      exact (h.row i hi).turn t1 (fun k hk hs => by
        have e2 : B i = k := by simpa [Value.ownBlock] using hk
        subst e2; exact h.apart i j hi hj e hs)
theorem Mat.ints {w : World} {base g cap J M : Nat} {B Cp : Nat → Nat} {f : Nat → Nat → Int} (h : Mat w base g cap J M B Cp f) (hM : M ≤ 1048576) {j : Nat} (hj : j < J) : IntsAt w (some ⟨B j, 0, none⟩) (mapTo (f j) M) := by
  obtain ⟨A, c, e, hi⟩ := (h.row j hj).ints (by rw [mapTo_len]; omega)
  rw [mapTo_len] at e
  simp only [Value.slice.injEq] at e
  rw [e.1]; exact hi
/-- The rows of it. -/
def matL (J M : Nat) (f : Nat → Nat → Int) : List (List Int) := (List.range J).map fun j => mapTo (f j) M
theorem matL_len (J M : Nat) (f : Nat → Nat → Int) : (matL J M f).length = J := by simp [matL]
theorem matL_at {J M : Nat} {f : Nat → Nat → Int} {j : Nat} (hj : j < J) : (matL J M f).getD j [] = mapTo (f j) M := by simp [matL, List.getD, hj]
theorem Mat.grid {w : World} {base g cap J M : Nat} {B Cp : Nat → Nat} {f : Nat → Nat → Int} (h : Mat w base g cap J M B Cp f) (hJ : J ≤ 1048576) (hM : M ≤ 1048576) : GridAt w (some ⟨g, 0, none⟩) (matL J M f) :=
  ⟨by rw [matL_len]; omega, fun k hk => by
    rw [matL_len] at hk
    rw [matL_at hk]
    exact ⟨_, _, _, rfl, by rw [add0, mapTo_len]; exact h.hcell hk, h.ints hM hk⟩⟩
theorem Mat.ownGrid {w : World} {base g cap J M : Nat} {B Cp : Nat → Nat} {f : Nat → Nat → Int} (h : Mat w base g cap J M B Cp f) : OwnGrid w base (.slice (some ⟨g, 0, none⟩) J cap) J (fun j => mapTo (f j) M) :=
  ⟨fun j => Value.slice (some ⟨B j, 0, none⟩) M (Cp j), h.hd, h.row, fun i j k hij hj e1 e2 => by
    have e3 : B i = k := by simpa [Value.ownBlock] using e1
    have e4 : B j = k := by simpa [Value.ownBlock] using e2
    exact h.apart i j (by omega) hj (by omega) (by omega)⟩
end Go.Proofs.YtgfbjgdofhcmaaaGreat

namespace Go.Proofs.YtgfbjgdofhcmaaaGreat
open Go.RowKit Go.Sort

theorem run_apph {W : World} (ty : TypeId) (base : Nat) (v : Value) (n : Nat) (hs : List Value) (u : Value) (ad : Addr) (hu : u.oneCell' = true)
    (hown : W.ownsRow base 24 1 v n hs) (hcell : W.cell? ad = some u) (hbase : base ≤ W.heap.size) (hlen : n < 1048576) :
    ∃ v' w', (Builtin.append_ #[25, 25] ty #[v, .slice (some ad) 1 1]).run Tryz.prog W = .ok v' w' ∧ w'.ownsRow base 24 1 v' (n + 1) (hs ++ [u]) ∧ Turn (fun i => v.ownBlock = some i) W w' ∧ (v'.ownBlock = v.ownBlock ∨ ∀ g, v'.ownBlock = some g → W.heap.size ≤ g) := by
  obtain ⟨i0, hi, hz0, hz1, hz2⟩ := info_parts infoIntsG
  have e0 : ad.add 0 = ad := by unfold Addr.add; simp
  obtain ⟨v', w', hrun, g2, g3, _, g5⟩ := run_append_own_at (P := Tryz.prog) W base 25 ty 24 i0 (.slice none 0 0) 1 24 Tryz.underlying25 hi hz0 hz1 hz2 rfl (by decide) v n hs hown ad 1 1 [u] rfl (by
    intro j x hj
    cases j with
    | zero => simp at hj; subst hj; rw [e0]; exact hcell
    | succ j => simp at hj) (by intro x hx; simp at hx; subst hx; exact hu) (by unfold maxLen; omega) (by omega) hbase
  refine ⟨v', w', hrun, g2, Turn.of_grown g3, ?_⟩
  rcases g5 with e | e
  · exact .inl e
  · exact .inr (fun g hg => by rw [e] at hg; simp at hg; omega)
/-- append of one header, in a plain region. -/
theorem wpl_apph {ops : Array Oper} {rest : List Oper} {o : Oper} {a : Act} {Q : Exit → Act → World → Prop} {W : World} (hgd : o.guard = none) (s x : Operand)
    (ho : o.op = .call { callee := .builtin .append, args := #[s, x], argTypes := #[25, 25] }) (base : Nat) (v : Value) (n : Nat) (hs : List Value) (u : Value) (hu : u.oneCell' = true)
    (hsv : a.eval s = v) (hx : a.eval x = .slice (some ⟨W.heap.size, 0, none⟩) 1 1) (hown : W.ownsRow base 24 1 v n hs) (hbase : base ≤ W.heap.size) (hlen : n < 1048576)
    (h : ∀ v' w', w'.ownsRow base 24 1 v' (n + 1) (hs ++ [u]) → Turn (fun i => v.ownBlock = some i) W w' → (v'.ownBlock = v.ownBlock ∨ ∀ g, v'.ownBlock = some g → W.heap.size ≤ g) → wpList Tryz.prog ops Q rest (a.put o.dst v') w') :
    wpList Tryz.prog ops Q (o :: rest) a (W.alloc (.cells #[u] 24)) := by
  have hk : Kp W (W.alloc (.cells #[u] 24)) := (Kp.refl W).alloc _
  obtain ⟨v', w', hrun, h2, h3, h4⟩ := run_apph (W := W.alloc (.cells #[u] 24)) o.type base v n hs u ⟨W.heap.size, 0, none⟩ hu (hk.own hown) (by rw [World.cell?_alloc_at _ _ _ _ rfl]; rfl) (by simp; omega) hlen
  refine Lib.wpList_append_run _ hgd s x _ _ ho _ _ hsv hx v' w' hrun (h v' w' h2 ((Turn.of_kp hk).trans h3) ?_)
  rcases h4 with e | e
  · exact .inl e
  · exact .inr (fun g hg => by have := e g hg; simp at this; omega)
/-- The same where the region draws. -/
theorem step_apph {ops : Array Oper} {o : Oper} {a : Act} {K : Act → World → Prop} {Q : Exit → Act → World → Prop} {E : Prop} {W : World} (hgd : o.guard = none) (s x : Operand)
    (ho : o.op = .call { callee := .builtin .append, args := #[s, x], argTypes := #[25, 25] }) (base : Nat) (v : Value) (n : Nat) (hs : List Value) (u : Value) (ad : Addr) (hu : u.oneCell' = true)
    (hsv : a.eval s = v) (hx : a.eval x = .slice (some ad) 1 1) (hown : W.ownsRow base 24 1 v n hs) (hcell : W.cell? ad = some u) (hbase : base ≤ W.heap.size) (hlen : n < 1048576)
    (h : ∀ v' w', w'.ownsRow base 24 1 v' (n + 1) (hs ++ [u]) → Turn (fun i => v.ownBlock = some i) W w' → (v'.ownBlock = v.ownBlock ∨ ∀ g, v'.ownBlock = some g → W.heap.size ≤ g) → K (a.put o.dst v') w') :
    if Region.wanted o (yielded ops a.tmps) = true then Oper.wp Tryz.prog o a W K Q else E := by
  have hw : Region.wanted o (yielded ops a.tmps) = true := by simp [Region.wanted, hgd]
  rw [if_pos hw]
  obtain ⟨v', w', hrun, h2, h3, h4⟩ := run_apph (W := W) o.type base v n hs u ad hu hown hcell hbase hlen
  unfold Oper.wp execOp
  simp only [ho, resolve, invoke, builtin, Sem.run_bind, Sem.run_pure, Result.andThen_ok, List.map_toArray, List.map_cons, List.map_nil, hsv, hx, hrun]
  exact h v' w' h2 h3 h4

/-- A table of the call's own, not made yet where it has no rows. -/
structure DMat (w : World) (base : Nat) (v : Value) (J M : Nat) (B Cp : Nat → Nat) (f : Nat → Nat → Int) : Prop where
  hd : w.ownsRow base 24 1 v J ((List.range J).map fun j => Value.slice (some ⟨B j, 0, none⟩) M (Cp j))
  row : ∀ j, j < J → Own w base (.slice (some ⟨B j, 0, none⟩) M (Cp j)) (mapTo (f j) M)
  apart : ∀ i j, i < J → j < J → i ≠ j → B i ≠ B j
section
variable {w w' : World} {base J M : Nat} {v : Value} {B Cp : Nat → Nat} {f : Nat → Nat → Int}
theorem DMat.mat (h : DMat w base v J M B Cp f) (hJ : 0 < J) : ∃ g cap, v = .slice (some ⟨g, 0, none⟩) J cap ∧ Mat w base g cap J M B Cp f := by
  rcases id h.hd.2 with ⟨rfl, h0⟩ | ⟨g, cap, cur, rfl, _⟩
  · omega
  · exact ⟨g, cap, rfl, h.hd, h.row, h.apart⟩
theorem Mat.dmat {g cap : Nat} (h : Mat w base g cap J M B Cp f) : DMat w base (.slice (some ⟨g, 0, none⟩) J cap) J M B Cp f := ⟨h.hd, h.row, h.apart⟩
theorem DMat.shape (h : DMat w base v J M B Cp f) : ∃ A c, v = .slice A J c := by
  rcases h.hd.2 with ⟨rfl, h0⟩ | ⟨g, cap, cur, rfl, _⟩
  · exact ⟨none, 0, by rw [h0]⟩
  · exact ⟨_, _, rfl⟩
theorem DMat.kp (h : DMat w base v J M B Cp f) (hk : Kp w w') : DMat w' base v J M B Cp f := ⟨hk.own h.hd, fun j hj => (h.row j hj).kp hk, h.apart⟩
theorem DMat.turn {S : Nat → Prop} (h : DMat w base v J M B Cp f) (ht : Turn S w w') (h1 : ∀ g, v.ownBlock = some g → ¬ S g) (h2 : ∀ j, j < J → ¬ S (B j)) : DMat w' base v J M B Cp f :=
  ⟨own_turn h.hd ht h1, fun j hj => (h.row j hj).turn ht (fun k hk hs => by
    have e : B j = k := by simpa [Value.ownBlock] using hk
    rw [← e] at hs
    exact h2 j hj hs), h.apart⟩
theorem DMat.low {S : Nat → Prop} (h : DMat w base v J M B Cp f) (ht : Turn S w w') (hn : ∀ i, base ≤ i → ¬ S i) : DMat w' base v J M B Cp f :=
  h.turn ht (fun g hg => hn g (World.ownsRow.lt h.hd g hg).1) (fun j hj => hn _ ((h.row j hj).lt (B j) rfl).1)
theorem DMat.lt (h : DMat w base v J M B Cp f) {j : Nat} (hj : j < J) : base ≤ B j ∧ B j < w.heap.size := (h.row j hj).lt (B j) rfl
theorem DMat.vlt (h : DMat w base v J M B Cp f) : ∀ g, v.ownBlock = some g → base ≤ g ∧ g < w.heap.size := World.ownsRow.lt h.hd
theorem DMat.vne (h : DMat w base v J M B Cp f) {j : Nat} (hj : j < J) : v.ownBlock ≠ some (B j) := fun e =>
  own_blocks_ne (h.row j hj) h.hd (by decide) (g := B j) rfl e
theorem DMat.nil (w : World) (base M : Nat) (B Cp : Nat → Nat) (f : Nat → Nat → Int) : DMat w base (.slice none 0 0) 0 M B Cp f :=
  ⟨World.ownsRow_nil _ _ _ _, fun j hj => by omega, fun i j hi => by omega⟩
/-- One row more. -/
theorem DMat.push (h : DMat w base v J M B Cp f) {v' : Value} {b c : Nat} {g : Nat → Int} (ht : Turn (fun i => v.ownBlock = some i) w w') (h1 : w'.ownsRow base 24 1 v' (J + 1) (((List.range J).map fun j => Value.slice (some ⟨B j, 0, none⟩) M (Cp j)) ++ [.slice (some ⟨b, 0, none⟩) M c]))
    (hr : Own w base (.slice (some ⟨b, 0, none⟩) M c) (mapTo g M)) (hb : ∀ j, j < J → B j ≠ b) :
    DMat w' base v' (J + 1) M (upd B J b) (upd Cp J c) (upd f J g) := by
  have hl : ((List.range (J + 1)).map fun j => Value.slice (some ⟨upd B J b j, 0, none⟩) M (upd Cp J c j)) = ((List.range J).map fun j => Value.slice (some ⟨B j, 0, none⟩) M (Cp j)) ++ [.slice (some ⟨b, 0, none⟩) M c] := by
    rw [List.range_succ, List.map_append, List.map_singleton, upd_at, upd_at]
    congr 1
    refine List.map_congr_left (fun j hj => ?_)
    have := List.mem_range.1 hj
    rw [upd_ne (by omega), upd_ne (by omega)]
  refine ⟨by rw [hl]; exact h1, fun j hj => ?_, fun i j hi hj hne => ?_⟩
  · by_cases e : j = J
    · subst e
      rw [upd_at, upd_at, upd_at]
      exact hr.turn ht (fun k hk hs => own_blocks_ne hr h.hd (by decide) hk hs)
    · rw [upd_ne e, upd_ne e, upd_ne e]
      exact (h.row j (by omega)).turn ht (fun k hk hs => own_blocks_ne (h.row j (by omega)) h.hd (by decide) hk hs)
  · by_cases e1 : i = J
    · subst e1
      rw [upd_at, upd_ne (by omega)]
      exact (hb j (by omega)).symm
    · by_cases e2 : j = J
      · subst e2
        rw [upd_at, upd_ne e1]
        exact hb i (by omega)
      · rw [upd_ne e1, upd_ne e2]
        exact h.apart i j (by omega) (by omega) hne
end
/-- A field of the call's own: the costs and the table; all rows apart from the costs. -/
structure RF (w : World) (base : Nat) (a d : Value) (xs : List Int) (J : Nat) (B Cp : Nat → Nat) (f : Nat → Nat → Int) : Prop where
  op : Own w base a xs
  di : DMat w base d J xs.length B Cp f
  ap : ∀ j, j < J → a.ownBlock ≠ some (B j)
/-- Its numbers. -/
structure RB (xs : List Int) (J : Nat) (f : Nat → Nat → Int) : Prop where
  pos : 0 < xs.length
  xl : xs.length ≤ 8
  jl : J ≤ 8
  xb : ∀ x ∈ xs, 0 ≤ x ∧ x < 20
  fb : ∀ j a, j < J → a < xs.length → 0 ≤ f j a ∧ f j a < 20
section
variable {w w' : World} {base J : Nat} {a d : Value} {xs : List Int} {B Cp : Nat → Nat} {f : Nat → Nat → Int}
theorem RF.kp (h : RF w base a d xs J B Cp f) (hk : Kp w w') : RF w' base a d xs J B Cp f := ⟨h.op.kp hk, h.di.kp hk, h.ap⟩
theorem RF.low {S : Nat → Prop} (h : RF w base a d xs J B Cp f) (ht : Turn S w w') (hn : ∀ i, base ≤ i → ¬ S i) : RF w' base a d xs J B Cp f :=
  ⟨h.op.turn ht (fun g hg => hn g (h.op.lt g hg).1), h.di.low ht hn, h.ap⟩
theorem DMat.mono {M b' : Nat} {v : Value} (h : DMat w base v J M B Cp f) (hb : b' ≤ base) : DMat w b' v J M B Cp f := by
  refine ⟨⟨h.hd.1, ?_⟩, fun j hj => (h.row j hj).mono hb, h.apart⟩
  rcases h.hd.2 with hh | ⟨g, cap, cur, e, hg, rest⟩
  · exact .inl hh
  · exact .inr ⟨g, cap, cur, e, Nat.le_trans hb hg, rest⟩
theorem RF.mono {b' : Nat} (h : RF w base a d xs J B Cp f) (hb : b' ≤ base) : RF w b' a d xs J B Cp f := ⟨h.op.mono hb, h.di.mono hb, h.ap⟩
end
/-- A field of small numbers, of the call's own. -/
def DF (w : World) (base : Nat) (a d : Value) : Prop := ∃ xs J B Cp f, RF w base a d xs J B Cp f ∧ RB xs J f
theorem turn_setCellsD (b : Nat) : ∀ (vs : List Value) (o : Nat) (w : World), Turn (fun i => i = b) w (w.setCells b o vs)
  | [], _, w => Turn.refl _ w
  | v :: r, o, w => (show Turn (fun i => i = b) w (w.setCell ⟨b, o, none⟩ v) from ⟨rfl, rfl, rfl, by simp [World.setCell], fun i _ hn => Below.heap_setCell _ _ _ _ hn⟩).trans (turn_setCellsD b r (o + 1) _)
theorem there_newD (w : World) (vs : List Value) (t : TypeId) : (w.alloc (.cells vs.toArray t)).there w.heap.size 0 vs.length := fun j hj => by
  constructor
  · rw [World.cell?_alloc_at _ _ _ _ rfl]; simp [hj]
  · simp
theorem Own.someD {w : World} {base : Nat} {v : Value} {xs : List Int} (h : Own w base v xs) (hn : 0 < xs.length) : ∃ g c, v = .slice (some ⟨g, 0, none⟩) xs.length c := by
  rcases h.2 with ⟨rfl, h0⟩ | ⟨g, cap, cur, rfl, _⟩
  · omega
  · exact ⟨g, cap, rfl⟩
theorem ownh_shape {w : World} {base n : Nat} {e : TypeId} {v : Value} {hs : List Value} (h : w.ownsRow base e 1 v n hs) : ∃ A c, v = .slice A n c := by
  rcases h.2 with ⟨rfl, h0⟩ | ⟨g, cap, cur, rfl, _⟩
  · exact ⟨none, 0, by rw [h0]⟩
  · exact ⟨_, _, rfl⟩
theorem mapTo_self (ys : List Int) : mapTo (lget ys) ys.length = ys := by
  apply List.ext_getElem
  · simp [mapTo]
  · intro i h1 h2
    rw [mapTo_get (by simpa [mapTo] using h1), lget_at h2]
/-- A list that is written out. -/
theorem lit_intsD (w : World) (xs : List Int) (hl : xs.length ≤ 1000) : IntsAt (w.alloc (.cells (xs.map (Value.int .i64)).toArray 3)) (some ⟨w.heap.size, 0, none⟩) xs :=
  ⟨by omega, fun k hk => ⟨_, rfl, by
    rw [add0, World.cell?_alloc_at _ _ _ _ rfl]
    simp [hk]⟩⟩
/-- While a field is put together in the variable of block bf; the result's block is rb. -/
structure RS (w0 wr : World) (p rb bf : Nat) (ov dv : Value) (xs : List Int) (J : Nat) (B Cp : Nat → Nat) (f : Nat → Nat → Int) (m : Nat) : Prop where
  c0 : wr.cell? ⟨bf, 0, none⟩ = some ov
  c1 : wr.cell? ⟨bf, 1, none⟩ = some dv
  th : wr.there bf 0 2
  rt : wr.there rb 0 2
  rf : RF wr (bf + 1) ov dv xs J B Cp f
  cu : Cur wr p m
  tp : Tp p w0 wr
  lo : p < rb ∧ rb < bf ∧ w0.heap.size ≤ rb
section
variable {w0 wr wr' : World} {p rb bf J m m' : Nat} {ov dv : Value} {xs : List Int} {B Cp : Nat → Nat} {f : Nat → Nat → Int}
theorem RS.frz (h : RS w0 wr p rb bf ov dv xs J B Cp f m) : wr.frozen? ⟨bf, 0, none⟩ = false ∧ wr.frozen? ⟨bf, 1, none⟩ = false := by
  have h0 := (h.th 0 (by omega)).2
  have h1 := (h.th 1 (by omega)).2
  simp only [Nat.zero_add] at h0 h1
  exact ⟨h0, h1⟩
theorem RS.kp (h : RS w0 wr p rb bf ov dv xs J B Cp f m) (hk : Kp wr wr') : RS w0 wr' p rb bf ov dv xs J B Cp f m :=
  ⟨hk.get h.c0, hk.get h.c1, turn_thereD (Turn.of_kp (S := fun _ => False) hk) h.th (fun h => h), turn_thereD (Turn.of_kp (S := fun _ => False) hk) h.rt (fun h => h), h.rf.kp hk, h.cu.kp hk, h.tp.trans (Turn.of_kp hk), h.lo⟩
/-- The cursor has gone on. -/
theorem RS.drawn (h : RS w0 wr p rb bf ov dv xs J B Cp f m) (ht : Tp p wr wr') (hc : Cur wr' p m') : RS w0 wr' p rb bf ov dv xs J B Cp f m' := by
  have hl := h.lo
  exact ⟨turn_cellD ht h.c0 (by show bf ≠ p; omega), turn_cellD ht h.c1 (by show bf ≠ p; omega), turn_thereD ht h.th (by omega), turn_thereD ht h.rt (by omega), h.rf.low ht (fun i hi => by omega), hc, h.tp.trans ht, h.lo⟩
theorem own_low {S : Nat → Prop} {w w' : World} {base : Nat} {v : Value} {xs : List Int} (h : Own w base v xs) (ht : Turn S w w') (hn : ∀ i, base ≤ i → ¬ S i) : Own w' base v xs := h.turn ht (fun g hg => hn g (h.lt g hg).1)
theorem RS.size (h : RS w0 wr p rb bf ov dv xs J B Cp f m) : bf < wr.heap.size := World.block_lt_of_cell? _ _ h.c0
theorem RS.more (h : RS w0 wr p rb bf ov dv xs J B Cp f m) (hm : m ≤ m') : RS w0 wr p rb bf ov dv xs J B Cp f m' := ⟨h.c0, h.c1, h.th, h.rt, h.rf, h.cu.mono hm, h.tp, h.lo⟩
theorem RS.di0 {B' Cp' : Nat → Nat} {f' : Nat → Nat → Int} (h : RS w0 wr p rb bf ov dv xs 0 B Cp f m) (hd : dv = .slice none 0 0) : RS w0 wr p rb bf ov dv xs 0 B' Cp' f' m :=
  ⟨h.c0, h.c1, h.th, h.rt, ⟨h.rf.op, by rw [hd]; exact DMat.nil _ _ _ _ _ _, fun j hj => by omega⟩, h.cu, h.tp, h.lo⟩
/-- The variable while the costs grow. -/
theorem RS.stay0 {w2 : World} (h : RS w0 wr p rb bf ov dv xs J B Cp f m) (ht : Turn (fun i => ov.ownBlock = some i) wr w2) : w2.cell? ⟨bf, 0, none⟩ = some ov ∧ w2.frozen? ⟨bf, 0, none⟩ = false := by
  have hob : ¬ ov.ownBlock = some bf := fun e => by have := (h.rf.op.lt bf e).1; omega
  exact ⟨turn_cellD ht h.c0 hob, by rw [turn_frozD ht h.size hob]; exact h.frz.1⟩
theorem RS.stay1 {w2 : World} (h : RS w0 wr p rb bf ov dv xs J B Cp f m) (ht : Turn (fun i => dv.ownBlock = some i) wr w2) : w2.cell? ⟨bf, 1, none⟩ = some dv ∧ w2.frozen? ⟨bf, 1, none⟩ = false := by
  have hob : ¬ dv.ownBlock = some bf := fun e => by have := (h.rf.di.vlt bf e).1; omega
  exact ⟨turn_cellD ht h.c1 hob, by rw [turn_frozD ht h.size hob]; exact h.frz.2⟩
/-- New costs are stored. -/
theorem RS.setOp {w2 : World} {ov' : Value} {xs' : List Int} {B' Cp' : Nat → Nat} {f' : Nat → Nat → Int} (h : RS w0 wr p rb bf ov dv xs 0 B Cp f m) (hd : dv = .slice none 0 0) (ht : Turn (fun i => ov.ownBlock = some i) wr w2) (ho : Own w2 (bf + 1) ov' xs') : RS w0 (w2.setCell ⟨bf, 0, none⟩ ov') p rb bf ov' dv xs' 0 B' Cp' f' m := by
  have hl := h.lo
  have hob : ∀ i, i ≤ bf → ¬ ov.ownBlock = some i := fun i hi e => by have := (h.rf.op.lt i e).1; omega
  have ts : Turn (fun i => i = bf) w2 (w2.setCell ⟨bf, 0, none⟩ ov') := ⟨rfl, rfl, rfl, by simp [World.setCell], fun i _ hn => Below.heap_setCell _ _ _ _ hn⟩
  have t2 := turn_thereD ht h.th (hob bf (Nat.le_refl _))
  have hz := (t2 0 (by omega)).1
  simp only [Nat.zero_add] at hz
  have htb : Turn (fun i => p < i) wr (w2.setCell ⟨bf, 0, none⟩ ov') := (ht.mono (fun i hi => by have := (h.rf.op.lt i hi).1; omega)).trans (ts.mono (fun i hi => by omega))
  refine ⟨World.cell?_setCell_same' _ _ _ hz, ?_, World.there_setCells t2 bf 0 [_], turn_thereD ts (turn_thereD ht h.rt (hob rb (by omega))) (by omega), ⟨own_low ho ts (fun i hi => by omega), ?_, fun j hj => by omega⟩, h.cu.turn htb (fun i hi => by omega), ?_, hl⟩
  · rw [World.cell?_setCell_other _ _ _ _ (by intro h; cases h)]
    exact turn_cellD ht h.c1 (hob bf (Nat.le_refl _))
  · rw [hd]; exact DMat.nil _ _ _ _ _ _
  · refine ⟨htb.os.trans h.tp.os, htb.tape.trans h.tp.tape, htb.output.trans h.tp.output, Nat.le_trans h.tp.size htb.size, fun i hi hn => ?_⟩
    rw [ts.block i (Nat.lt_of_lt_of_le hi (Nat.le_trans h.tp.size ht.size)) (by omega), ht.block i (Nat.lt_of_lt_of_le hi h.tp.size) (hob i (by omega)), h.tp.block i hi hn]
/-- A longer table is stored. -/
theorem RS.setDi {w2 : World} {dv' : Value} {J' : Nat} {B' Cp' : Nat → Nat} {f' : Nat → Nat → Int} (h : RS w0 wr p rb bf ov dv xs J B Cp f m) (ht : Turn (fun i => dv.ownBlock = some i) wr w2) (hd : DMat w2 (bf + 1) dv' J' xs.length B' Cp' f') (hap : ∀ j, j < J' → ov.ownBlock ≠ some (B' j)) : RS w0 (w2.setCell ⟨bf, 1, none⟩ dv') p rb bf ov dv' xs J' B' Cp' f' m := by
  have hl := h.lo
  have hob : ∀ i, i ≤ bf → ¬ dv.ownBlock = some i := fun i hi e => by have := (h.rf.di.vlt i e).1; omega
  have ts : Turn (fun i => i = bf) w2 (w2.setCell ⟨bf, 1, none⟩ dv') := ⟨rfl, rfl, rfl, by simp [World.setCell], fun i _ hn => Below.heap_setCell _ _ _ _ hn⟩
  have t2 := turn_thereD ht h.th (hob bf (Nat.le_refl _))
  have hz := (t2 1 (by omega)).1
  simp only [Nat.zero_add] at hz
  have htb : Turn (fun i => p < i) wr (w2.setCell ⟨bf, 1, none⟩ dv') := (ht.mono (fun i hi => by have := (h.rf.di.vlt i hi).1; omega)).trans (ts.mono (fun i hi => by omega))
  refine ⟨?_, World.cell?_setCell_same' _ _ _ hz, World.there_setCells t2 bf 1 [_], turn_thereD ts (turn_thereD ht h.rt (hob rb (by omega))) (by omega), ⟨own_low (h.rf.op.turn ht (fun k hk hs => own_blocks_ne h.rf.op h.rf.di.hd (by decide) hk hs)) ts (fun i hi => by omega), hd.low ts (fun i hi => by omega), hap⟩, h.cu.turn htb (fun i hi => by omega), ?_, hl⟩
  · rw [World.cell?_setCell_other _ _ _ _ (by intro h; cases h)]
    exact turn_cellD ht h.c0 (hob bf (Nat.le_refl _))
  · refine ⟨htb.os.trans h.tp.os, htb.tape.trans h.tp.tape, htb.output.trans h.tp.output, Nat.le_trans h.tp.size htb.size, fun i hi hn => ?_⟩
    rw [ts.block i (Nat.lt_of_lt_of_le hi (Nat.le_trans h.tp.size ht.size)) (by omega), ht.block i (Nat.lt_of_lt_of_le hi h.tp.size) (hob i (by omega)), h.tp.block i hi hn]
/-- Where all of it lies. -/
theorem RS.under (h : RS w0 wr p rb bf ov dv xs J B Cp f m) : (∀ g, ov.ownBlock = some g → g < wr.heap.size) ∧ (∀ g, dv.ownBlock = some g → g < wr.heap.size) ∧ (∀ j, j < J → B j < wr.heap.size) :=
  ⟨fun g hg => (h.rf.op.lt g hg).2, fun g hg => (h.rf.di.vlt g hg).2, fun j hj => (h.rf.di.lt hj).2⟩
theorem RS.far {S : Nat → Prop} {N : Nat} {w2 : World} (h : RS w0 wr p rb bf ov dv xs J B Cp f m) (hu : (∀ g, ov.ownBlock = some g → g < N) ∧ (∀ g, dv.ownBlock = some g → g < N) ∧ (∀ j, j < J → B j < N)) (ht : Turn S wr w2) (hS : ∀ i, S i → N ≤ i) (hN : bf < N := by omega) : RS w0 w2 p rb bf ov dv xs J B Cp f m := by
  have hl := h.lo
  have hb : ∀ i, i ≤ bf → ¬ S i := fun i hi hs => by have := hS i hs; omega
  exact ⟨turn_cellD ht h.c0 (hb bf (Nat.le_refl _)), turn_cellD ht h.c1 (hb bf (Nat.le_refl _)), turn_thereD ht h.th (hb bf (Nat.le_refl _)), turn_thereD ht h.rt (hb rb (by omega)),
    ⟨h.rf.op.turn ht (fun g hg hs => by have := hu.1 g hg; have := hS g hs; omega), h.rf.di.turn ht (fun g hg hs => by have := hu.2.1 g hg; have := hS g hs; omega) (fun j hj hs => by have := hu.2.2 j hj; have := hS _ hs; omega), h.rf.ap⟩,
    h.cu.turn ht (fun i hi => hb i (by omega)), ⟨ht.os.trans h.tp.os, ht.tape.trans h.tp.tape, ht.output.trans h.tp.output, Nat.le_trans h.tp.size ht.size, fun i hi hn => by
      rw [ht.block i (Nat.lt_of_lt_of_le hi h.tp.size) (hb i (by omega)), h.tp.block i hi hn]⟩, h.lo⟩
/-- The field is handed out. -/
theorem RS.ret (h : RS w0 wr p rb bf ov dv xs J B Cp f m) : (wr.setCells rb 0 [ov, dv]).cell? ⟨rb, 0, none⟩ = some ov ∧ (wr.setCells rb 0 [ov, dv]).cell? ⟨rb, 1, none⟩ = some dv ∧ RF (wr.setCells rb 0 [ov, dv]) w0.heap.size ov dv xs J B Cp f ∧ Cur (wr.setCells rb 0 [ov, dv]) p m ∧ Tp p w0 (wr.setCells rb 0 [ov, dv]) := by
  have hl := h.lo
  have ts := turn_setCellsD rb [ov, dv] 0 wr
  have hr := World.rangeAt_setCells_same wr rb 0 [ov, dv] h.rt
  exact ⟨hr 0 _ rfl, hr 1 _ rfl, (h.rf.low ts (fun i hi => by omega)).mono (by omega), h.cu.turn ts (fun i hi => by omega), ⟨ts.os.trans h.tp.os, ts.tape.trans h.tp.tape, ts.output.trans h.tp.output, Nat.le_trans h.tp.size ts.size, fun i hi hn => by
    rw [ts.block i (Nat.lt_of_lt_of_le hi h.tp.size) (by omega), h.tp.block i hi hn]⟩⟩
end
end Go.Proofs.YtgfbjgdofhcmaaaGreat

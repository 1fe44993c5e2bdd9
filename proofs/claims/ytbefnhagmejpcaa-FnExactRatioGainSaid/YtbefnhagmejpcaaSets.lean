/- All sets of some sites in their order, as the program tells them. No condition. -/
import Derived.Test.YtbefnhagmejpcaaSortLay
import Derived.Test.YtbefnhagmejpcaaSetW
import Derived.Test.YtbefnhagmejpcaaStep
import Derived.Test.YtbefnhagmejpcaaBits
namespace Go.Proofs.Ytbefnhagmejpcaa
open Go.RowKit Go.Sort Go.Shelf

def rowsTo (n k : Nat) : List (List Int) := (List.range k).map fun c => bitsL n (c + 1)
theorem rowsTo_len (n k : Nat) : (rowsTo n k).length = k := by simp [rowsTo]
theorem rowsTo_succ (n k : Nat) : rowsTo n (k + 1) = rowsTo n k ++ [bitsL n (k + 1)] := by simp [rowsTo, List.range_succ]
theorem codesL_to (n : Nat) : codesL n = rowsTo n (2 ^ n - 1) := rfl
set_option maxHeartbeats 1000000 in
/-- The library's sort by compareSets. -/
theorem sort_any {n base : Nat} {lo : Option Nat} {v : Value} {rows : List (List Int)} {w : World} (h : GOwn w lo base v rows) (hv : v ≠ .slice none 0 0) (hr : rows.Perm (codesL n)) (hl : rows.length ≤ 1000000) :
    Calls Try.prog 99 #[v, .func (.func 100) #[] #[]] w fun e w' => e = .returned (.tuple #[]) ∧ GOwn w' lo base v (setsL n) ∧ Turn (fun i => v.ownBlock = some i) w w' := by
  obtain ⟨hs, h1, h2⟩ := h
  have hlen : hs.length = rows.length := by rw [h1.1]; omega
  rcases id h1.2 with ⟨rfl, _⟩ | ⟨g, cap, cur, rfl, hb, hg, hn, hm, hsz, ht⟩
  · exact absurd rfl hv
  have hblk : g < w.heap.size := (World.ownsRow.lt h1 g rfl).2
  have hs0 : hs = (List.range rows.length).map (hdD hs) := by
    apply List.ext_getElem
    · simp [hlen]
    · intro i hi hi2
      simp [hdD, List.getD, hi]
  have h1' : w.ownsRow base 22 1 (.slice (some ⟨g, 0, none⟩) rows.length cap) rows.length ((List.range rows.length).map (hdD hs)) := by rw [← hs0]; exact h1
  obtain ⟨g2, cap2, e2, _, _, _, _, _, hH⟩ := Lib.holds_of_ownsRow h1' (by simp)
  simp only [Value.slice.injEq, Option.some.injEq, Addr.mk.injEq] at e2
  obtain ⟨⟨rfl, _, _⟩, _, rfl⟩ := e2
  have one : OneCell (hdD hs) := fun i => by
    by_cases hi : i < rows.length
    · obtain ⟨u, e1, e2, _⟩ := h2 i hi
      have := e2.one
      simp [hdD, List.getD, e1, this]
    · simp [hdD, List.getD, List.getElem?_eq_none (show hs.length ≤ i by omega), Value.oneCell']
  have eg : ∀ args w, (callFunc 100 args).run Try.prog w = .ok (.enter 100 args) w := enters_of Try.func100 (by kernel_rfl) rfl
  have hcmp := cmp_lays (g := 100) (blk := g) rows.length (fun A1 A2 xs ys n m c d W q1 q2 q3 q4 => compareSets_any A1 A2 xs ys n m c d W q1 q2 q3 q4) h1 (fun j hj => by
    obtain ⟨u, e1, e2, e3⟩ := h2 j hj
    exact ⟨u, e1, e2, fun hn i hi hh => e3 hn i hi (by rw [← hh]; rfl)⟩)
  have hH' : Holds (hdD hs) w g 0 (Array.range rows.length) := by
    have e : (List.range rows.length).toArray = Array.range rows.length := by simp
    rw [← e]; exact hH
  have hcon := Any.slices_SortFunc sortL (hdD hs) one (cmpD rows) (swo_cmpD rows) 100 #[] g 0 cap (Array.range rows.length) w eg (by rw [Array.size_range]; exact hcmp) hH' hblk (by rw [Array.size_range]; omega)
  rw [Array.size_range] at hcon
  refine Calls.mono hcon ?_
  rintro e w' ⟨rfl, d', q, os, hp, hso, rfl⟩
  have hgo := gown_sorted (n := q) (os := os) h1 h2 hp
  rw [sorted_sets hr hp hso] at hgo
  refine ⟨rfl, hgo, rfl, rfl, rfl, by simp [sortWorld], fun i hi hn => ?_⟩
  have hne : g ≠ i := fun e => hn (by rw [e]; rfl)
  unfold sortWorld
  rw [heap_grow_old _ _ (by simpa using hi)]
  simp [putRow, mapBlock, Sort.ahead, Array.getElem?_modify, hne]
set_option maxRecDepth 100000 in
set_option maxHeartbeats 1000000 in
theorem sets_any (n : Nat) (w : World) (hn : n ≤ 7) :
    Calls Try.prog 73 #[.int .i64 n] w fun e w' => ∃ v, e = .returned v ∧ v ≠ .slice none 0 0 ∧ GOwn w' (some w.heap.size) w.heap.size v (setsL n) ∧ Kp w w' := by
  obtain ⟨P, HP, hpw, hP⟩ := pow_wrap (n : Int) (by omega) (by omega)
  rw [Int.toNat_natCast] at hpw
  have HP' : Hid (P = 2 ^ n) := by show P = _; simpa using HP.out
  have hpu := u64_one_shl (n : Int) (by omega) (by omega)
  rw [Int.toNat_natCast, ← HP'.out] at hpu
  have hP128 : P ≤ 128 := by rw [HP'.out]; exact Nat.pow_le_pow_right (by omega) hn
  have hP1 : 1 ≤ P := by rw [HP'.out]; exact Nat.one_le_two_pow
  go_enter Try.func73, Try.ntmps73
  go_wp2_with fail
  go_loopw [3, 4] (fun ov bv wr => ∃ b : Nat, 1 ≤ b ∧ b ≤ P ∧ bv = .int .u64 (b : Nat) ∧ Hid (ov ≠ .slice none 0 0) ∧ GOwn wr (some w.heap.size) w.heap.size ov (rowsTo n (b - 1)) ∧ Kp w wr) (fun _ bv _ => P - (intOf bv).toNat)
  case atStart => exact ⟨1, by omega, by omega, rfl, by show _ ≠ _; simp, gown_new w _ w.heap.size (Nat.le_refl _), (Kp.refl _).alloc _⟩
  case round =>
    obtain ⟨b, hb1, hk, rfl, Hv, hown, hkb⟩ := hrel
    by_cases hlt : b < P
    · have hb : b < 2 ^ n := by rw [← HP'.out]; exact hlt
      have Hb := Lib.hid hb
      clear hb
      have hlen := Lib.hid (rowsTo_len n (b - 1))
      have hlen2 : Hid ((rowsTo n (b - 1)).length < 1048576) := by show _ < _; rw [hlen.out]; omega
      have hg := Lib.hid (GOwn.lt hown)
      have hst : Hid (rowsTo n (b + 1 - 1) = rowsTo n (b - 1) ++ [bitsL n b]) := by
        show _ = _
        have := rowsTo_succ n (b - 1)
        rw [show b - 1 + 1 = b by omega] at this
        exact this
      have hkw := hkb
      go_wp2_with fail
      have CC := Lib.hid (list_any b n wr Hb.out (by omega))
      with_reducible refine Calls.mono CC.out ?_
      rintro e w1 ⟨v, rfl, ho, hk1⟩
      clear CC
      replace hkb := hkb.trans hk1
      replace hown := hown.kp hk1
      have hrp := Lib.hid ((RowP.of_own ho (by have := bitsL_len n b; omega)).mono (b' := w.heap.size) hkw.le)
      have hap := Lib.hid (fun (g : Nat) (e : v.ownBlock = some g) => (ho.lt g e).1)
      obtain ⟨Av, cv, hve, _⟩ := ho.ints (by have := bitsL_len n b; omega)
      subst hve
      clear ho
      go_wp2_with (at_builtin; refine wpl_appg rfl (.tmp 12) (.tmp 15) rfl w.heap.size _ (rowsTo n (b - 1)) (bitsL n b) (.slice Av (bitsL n b).length cv) rfl rfl hown hrp.out (fun _ g e hh => by have h1 := hap.out g e; have h2 := (hg.out _ hh).2; omega) hkb.le hlen2.out ?_; intro v' w' ho' ht' h4'; have hkb' := hkb.turn ht' (fun i hi => (hown.lt i hi).1))
      go_roundw
      case rel => exact ⟨b + 1, by omega, by omega, by go_num, ho'.not_nil (by simp), by rw [hst.out]; exact ho', hkb'⟩
      case measure => simp [intOf]; omega
    · have hkp : Hid (rowsTo n (b - 1) = codesL n) := by show _ = _; rw [codesL_to, ← HP'.out, show b = P by omega]
      have hl : Hid ((rowsTo n (b - 1)).length ≤ 1000000) := by show _ ≤ _; rw [rowsTo_len]; omega
      go_wp2_with fail
      have CC := Lib.hid (sort_any (n := n) hown Hv.out (by rw [hkp.out]) hl.out)
      with_reducible refine Calls.mono CC.out ?_
      rintro e w1 ⟨rfl, ho2, ht2⟩
      clear CC
      have hkb2 := hkb.turn ht2 (fun i hi => (hown.lt i hi).1)
      go_wp2_with fail
      go_ret
      exact ⟨_, rfl, Hv.out, ho2, hkb2⟩
end Go.Proofs.Ytbefnhagmejpcaa

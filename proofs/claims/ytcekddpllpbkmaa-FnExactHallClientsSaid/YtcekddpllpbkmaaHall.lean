/- The sites of a set within a length of some clients: the reference's walk. No condition. -/
import Derived.Test.YtcekddpllpbkmaaOver
import Derived.Test.YtcekddpllpbkmaaNeeds
import Derived.Test.YtcekddpllpbkmaaRoom
import Derived.Test.YtcekddpllpbkmaaTaken2
namespace Go.Proofs.Ytcekddpllpbkmaa
open Go.RowKit Go.Sort

def nearB (F : Fld) (C : List Int) (r a : Int) : Bool := C.any fun c => decide (dAt F c.toNat a ≤ r)
def withinTo (F : Fld) (C S : List Int) (r : Int) (k : Nat) : List Int := (S.take k).filter (nearB F C r)
def withinL (F : Fld) (C S : List Int) (r : Int) : List Int := S.filter (nearB F C r)
theorem within_yes {F : Fld} {C S : List Int} {r : Int} {k : Nat} (hk : k < S.length) (h : nearB F C r S[k] = true) : withinTo F C S r (k + 1) = withinTo F C S r k ++ [S[k]] := by
  unfold withinTo
  rw [List.take_succ_eq_append_getElem hk, List.filter_append]; simp [h]
theorem within_no {F : Fld} {C S : List Int} {r : Int} {k : Nat} (hk : k < S.length) (h : nearB F C r S[k] = false) : withinTo F C S r (k + 1) = withinTo F C S r k := by
  unfold withinTo
  rw [List.take_succ_eq_append_getElem hk, List.filter_append]; simp [h]
theorem within_len (F : Fld) (C S : List Int) (r : Int) (k : Nat) : (withinTo F C S r k).length ≤ k := by
  unfold withinTo
  exact Nat.le_trans (List.length_filter_le _ _) (by simp; omega)
theorem within_all {F : Fld} {C S : List Int} {r : Int} {k : Nat} (hk : S.length ≤ k) : withinTo F C S r k = withinL F C S r := by
  unfold withinTo withinL
  rw [List.take_of_length_le hk]
theorem near_succ {F : Fld} {C : List Int} {r a : Int} {k : Nat} (hk : k < C.length) : nearB F (C.take (k + 1)) r a = (nearB F (C.take k) r a || decide (dAt F C[k].toNat a ≤ r)) := by
  unfold nearB
  rw [List.take_succ_eq_append_getElem hk, List.any_append]; simp
set_option maxRecDepth 100000 in
set_option maxHeartbeats 2000000 in
theorem l7Within_any (f : Value) (F : Fld) (A0 : Option Addr) (C : List Int) (n0 c0 : Nat) (A1 : Option Addr) (S : List Int) (n1 c1 : Nat) (r : Int) (w : World) (hf : FldAt w f F) (hC : IntsAt w A0 C) (hn0 : C.length = n0) (hS : IntsAt w A1 S) (hn1 : S.length = n1) (hg : goodF F = true) (hs : setB F S = true) (hc : ∀ x ∈ C, 0 ≤ x ∧ x < F.di.length) :
    Calls Try.prog 57 #[f, .slice A0 n0 c0, .slice A1 n1 c1, .int .i64 r] w fun e w' => ∃ v, e = .returned v ∧ Own w' w.heap.size v (withinL F C S r) ∧ Kp w w' := by
  obtain ⟨A, c, B, d, rfl, hA, hB⟩ := hf
  have hk0 : Kp w (w.alloc (.cells #[.slice A F.op.length c, .slice B F.di.length d] 29)) := (Kp.refl w).alloc _
  obtain ⟨d0, d1⟩ := box2 w (.slice A F.op.length c) (.slice B F.di.length d) 29
  have hFA := FldAt.kp (show FldAt w (.agg #[.slice A F.op.length c, .slice B F.di.length d]) F from ⟨A, c, B, d, rfl, hA, hB⟩) hk0
  have hC0 := hC.kp hk0
  have hS0 := hS.kp hk0
  have hB0 := hB.kp hk0
  have Hn0 := Lib.hid hn0; have Hn1 := Lib.hid hn1
  have Hc := Lib.hid hc; have Hm := Lib.hid (set_mem hs)
  have HG := Lib.hid hg
  have hn7 : n1 ≤ 7 := by have := risB_len hs; have := (goodF_iff.1 hg).1.2; omega
  have hm0 : n0 ≤ 9223372036854775807 := hn0 ▸ hC.1
  clear hA hB hn0 hn1 hC hS hg hs hc
  go_enter Try.func57, Try.ntmps57
  go_wp2_with fail
  have hsz : Hid ((w.alloc (.cells #[.slice A F.op.length c, .slice B F.di.length d] 29)).heap.size = w.heap.size + 1) := by show _ = _; simp
  generalize w.alloc (.cells #[.slice A F.op.length c, .slice B F.di.length d] 29) = wb at *
  have hkb : Kp wb wb := Kp.refl _
  have hkw := hk0
  have hs1 : w.heap.size + 1 ≤ wb.heap.size := by rw [hsz.out]; exact Nat.le_refl _
  have ho0 := own_new0 wb (w.heap.size + 1) hs1
  have hkn := (Kp.refl wb).alloc (.cells #[] 3)
  rw [hsz.out] at ho0
  go_loopw [9, 10] (fun ov ix wr => ∃ a : Nat, a ≤ n1 ∧ ix = .int .i64 a ∧ Own wr (w.heap.size + 1) ov (withinTo F C S r a) ∧ Kp wb wr) (fun _ ix _ => n1 - (intOf ix).toNat)
  case atStart => exact ⟨0, by omega, rfl, ho0, hkn⟩
  case round =>
    clear ho0
    obtain ⟨a, ha, rfl, hown, hkp⟩ := hrel
    obtain ⟨wo, rfl⟩ : ∃ wo : World, wo = wr := ⟨_, rfl⟩
    by_cases hlt : a < n1
    · have lx : a < S.length := by rw [Hn1.out]; exact hlt
      obtain ⟨sd, rfl, hsc⟩ := (hS0.kp hkp).at_ lx
      obtain ⟨z0, z1⟩ := Hm.out _ (List.getElem_mem lx)
      go_wp2_with fail
      go_loopw [11, 12] (fun nv kx wr => ∃ k : Nat, k ≤ n0 ∧ kx = .int .i64 k ∧ nv = .bool (nearB F (C.take k) r S[a]) ∧ Kp wo wr) (fun _ kx _ => n0 - (intOf kx).toNat)
      case atStart => exact ⟨0, by omega, rfl, rfl, Kp.refl _⟩
      case round =>
        obtain ⟨k, hk, rfl, rfl, hkr⟩ := hrel
        by_cases hlk : k < n0
        · have lk : k < C.length := by rw [Hn0.out]; exact hlk
          obtain ⟨cd, rfl, hcc⟩ := (hC0.kp (hkp.trans hkr)).at_ lk
          have hns := near_succ (F := F) (r := r) (a := S[a]) lk
          obtain ⟨y0, y1⟩ := Hc.out _ (List.getElem_mem lk)
          obtain ⟨b, hb⟩ := Int.eq_ofNat_of_zero_le y0
          rw [hb] at hcc hns y1
          have hbl : b < F.di.length := by omega
          obtain ⟨bd, A2, c2, rfl, hcr, hr⟩ := (hB0.kp (hkp.trans hkr)).at_ hbl
          have hrl := goodRow HG.out hbl
          obtain ⟨rd, rfl, _⟩ := hr.at_ (k := 0) (by omega)
          have hdc := dCell hbl hr z0 (by omega)
          have hsc2 := hkr.get hsc
          have q0 := (hkp.trans hkr).get d0
          have q1 := (hkp.trans hkr).get d1
          rw [show ((b : Nat) : Int).toNat = b from rfl] at hns
          replace hns := Lib.hid hns
          have z2 : S[a].toNat < F.di[b].length := by omega
          replace hrl := Lib.hid hrl
          clear hb
          cases hnb : nearB F (C.take k) r S[a]
          · have Hy : Hid (nearB F (C.take (k + 1)) r S[a] = decide (dAt F b S[a] ≤ r)) := by show _ = _; rw [hns.out, hnb]; rfl
            clear hnb
            go_wp2_with fail
            go_quiet (fail)
            go_wp2_with fail
            go_roundw
            case rel => exact ⟨k + 1, by omega, by go_num, by rw [Hy.out], hkr.drewN nq⟩
            case measure => simp [intOf]; omega
          · have Hy : Hid (nearB F (C.take (k + 1)) r S[a] = true) := by show _ = _; rw [hns.out, hnb]; rfl
            clear hnb
            go_wp2_with fail
            go_quiet (fail)
            go_wp2_with fail
            go_roundw
            case rel => exact ⟨k + 1, by omega, by go_num, by rw [Hy.out], hkr.drewN nq⟩
            case measure => simp [intOf]; omega
        · have hta := Lib.hid (show C.take k = C from List.take_of_length_le (by rw [Hn0.out]; omega))
          have hsc2 := hkr.get hsc
          have hkq := hkp.trans hkr
          have ho2 := hown.kp hkr
          have hbq : w.heap.size + 1 ≤ wr.heap.size := Nat.le_trans hs1 hkq.le
          have hwl := within_len F C S r a
          cases hnb : nearB F (C.take k) r S[a]
          · have Hy := Lib.hid (within_no (r := r) (F := F) (C := C) lx (by rw [← hta.out]; exact hnb))
            clear hnb
            go_wp2_with fail
            go_roundw
            case rel => exact ⟨a + 1, by omega, by go_num, by rw [Hy.out]; exact ho2, hkq⟩
            case measure => simp [intOf]; omega
          · have Hy := Lib.hid (within_yes (r := r) (F := F) (C := C) lx (by rw [← hta.out]; exact hnb))
            clear hnb
            go_wp2_with (at_builtin; go_loud (refine wpl_app rfl (.tmp 46) (.tmp 51) rfl (w.heap.size + 1) _ (withinTo F C S r a) S[a] rfl rfl ho2 hbq (by omega) ?_); intro v' w' ho' ht' _; have hk4 := ho2.kp_turn hkq (by rw [hsz.out]; exact Nat.le_refl _) ht')
            go_roundw
            case rel => exact ⟨a + 1, by omega, by go_num, by rw [Hy.out]; exact ho', hk4⟩
            case measure => simp [intOf]; omega
    · have Hy := Lib.hid (within_all (F := F) (C := C) (S := S) (r := r) (k := a) (by rw [Hn1.out]; omega))
      go_wp2_with fail
      go_ret
      exact ⟨_, rfl, by rw [← Hy.out]; exact hown.mono (Nat.le_succ _), hkw.trans hkp⟩
def hallB (F : Fld) (rooms needs S : List Int) (r : Int) (C : List Int) : Bool := decide (roomS rooms (withinL F C S r) < roomS needs C)
def hcIn (F : Fld) (rooms needs S : List Int) (r : Int) : Bool := haulB F rooms needs S && decide (0 ≤ r)
def hcV (F : Fld) (rooms needs S : List Int) (r : Int) : List Int := ((setsL F.di.length).find? (hallB F rooms needs S r)).getD []
def hcL (F : Fld) (rooms needs S : List Int) (r : Int) : List Int := if hcIn F rooms needs S r = true then hcV F rooms needs S r else []
def hcOk (F : Fld) (rooms needs S : List Int) (r : Int) : Bool := hcIn F rooms needs S r && !(hcV F rooms needs S r).isEmpty
theorem hcV_len (F : Fld) (rooms needs S : List Int) (r : Int) : (hcV F rooms needs S r).length ≤ F.di.length := by
  unfold hcV
  cases h : (setsL F.di.length).find? (hallB F rooms needs S r) with
  | none => simp
  | some C =>
    have := List.mem_of_find?_eq_some h
    exact risB_len (mem_setsL.1 this).2
theorem hcIn_parts {F : Fld} {rooms needs S : List Int} {r : Int} (h : hcIn F rooms needs S r = true) : haulB F rooms needs S = true ∧ 0 ≤ r := by
  simpa [hcIn] using h
theorem hcL_len (F : Fld) (rooms needs S : List Int) (r : Int) : (hcL F rooms needs S r).length ≤ 1048576 := by
  unfold hcL
  by_cases h : hcIn F rooms needs S r = true
  · rw [if_pos h]
    have h1 := hcV_len F rooms needs S r
    have h2 := (goodF_iff.1 (openedB_parts (haulB_iff.1 (hcIn_parts h).1).1).1).2.2.1
    omega
  · rw [if_neg h]; simp
theorem bits_mem (n b : Nat) : ∀ x ∈ bitsL n b, 0 ≤ x ∧ x < n := fun x hx => by
  have := (ris_iff.1 (bitsL_ris n b _ (Int.le_refl _))).2 x hx
  omega
theorem within_mem {F : Fld} {C S : List Int} {r : Int} : ∀ x ∈ withinL F C S r, x ∈ S := fun x hx => (List.mem_filter.1 hx).1
theorem withinL_len (F : Fld) (C S : List Int) (r : Int) : (withinL F C S r).length ≤ S.length := List.length_filter_le _ _
end Go.Proofs.Ytcekddpllpbkmaa

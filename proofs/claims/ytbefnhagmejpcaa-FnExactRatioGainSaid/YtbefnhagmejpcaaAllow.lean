/- Which sets are allowed: the program's answer and the reference's. No condition. -/
import Derived.Test.YtbefnhagmejpcaaSlot
import Derived.Test.YtbefnhagmejpcaaGain
import Derived.Test.YtbefnhagmejpcaaClone
import Derived.Test.YtbefnhagmejpcaaMono
namespace Go.Proofs.Ytbefnhagmejpcaa
open Go.RowKit Go.Sort

/-- How many of the first k sites are of class c. -/
def cntC (cl : List Int) (S : List Int) (c : Nat) : Nat := S.countP fun a => cl.getD a.toNat 0 == (c : Int)
def allowB (cl li S : List Int) : Bool := (List.range li.length).all fun c => decide ((cntC cl S c : Int) ≤ li.getD c 0)
def clsB (F : Fld) (cl li : List Int) : Bool := (cl.length == F.op.length) && allB cl 0 6 && (li.length == 7) && allB li 0 7
def allowOk (F : Fld) (cl li S : List Int) : Bool := goodF F && setB F S && clsB F cl li
theorem clsB_iff {F : Fld} {cl li : List Int} : clsB F cl li = true ↔ cl.length = F.op.length ∧ (∀ x ∈ cl, 0 ≤ x ∧ x ≤ 6) ∧ li.length = 7 ∧ ∀ x ∈ li, 0 ≤ x ∧ x ≤ 7 := by
  simp only [clsB, Bool.and_eq_true, beq_iff_eq, allB_iff]
  constructor
  · rintro ⟨⟨⟨h1, h2⟩, h3⟩, h4⟩; exact ⟨h1, h2, h3, h4⟩
  · rintro ⟨h1, h2, h3, h4⟩; exact ⟨⟨⟨h1, h2⟩, h3⟩, h4⟩
theorem row6_iff {n : Nat} {r : List Int} {hi : Int} : (allB r 0 hi && (r.length == n)) = true ↔ (∀ x ∈ r, 0 ≤ x ∧ x ≤ hi) ∧ r.length = n := by simp [allB_iff]

/- The reference's row check at any bound. -/
set_option maxHeartbeats 400000 in
theorem l2RowH_any (A : Option Addr) (xs : List Int) (m c n : Nat) (hi : Int) (w : World) (hx : IntsAt w A xs) (hnx : xs.length = m) :
    Calls Try.prog 76 #[.slice A m c, .int .i64 n, .int .i64 hi] w fun e w' => e = .returned (.bool (allB xs 0 hi && (xs.length == n))) ∧ w = w' := by
  have hm : m ≤ 9223372036854775807 := hnx ▸ hx.1
  have Hx := Lib.hid hnx; clear hnx
  go_enter Try.func76, Try.ntmps76
  go_wp2_with fail
  go_loop [7] (fun i => ∃ k : Nat, k ≤ m ∧ i = .int .i64 k ∧ Hid ((xs.take k).all (fun x => inB x 0 hi) = true)) (fun i => m - (intOf i).toNat)
  case atStart => exact ⟨0, by omega, rfl, rfl⟩
  case round =>
    obtain ⟨k, hk, rfl, Hp⟩ := hrel
    by_cases hlt : k < m
    · have lx : k < xs.length := by rw [Hx.out]; exact hlt
      obtain ⟨ad, rfl, hc⟩ := hx.at_ lx
      go_wp2_with fail
      refine (l1In_any _ _ _ _).mono ?_
      rintro e w' ⟨rfl, rfl⟩
      cases hpk : inB xs[k] 0 hi
      · go_wp2_with fail
        go_ret
        refine ⟨ret_bool ?_, rfl⟩
        have : allB xs 0 hi = false := all_false_of (p := fun x => inB x 0 hi) lx hpk
        simp [this, Array.getD]
      · go_wp2_with fail
        go_round
        case rel => exact ⟨k + 1, by omega, by go_num, all_take_succ Hp.out lx hpk⟩
        case measure => simp [intOf]; omega
    · go_wp2_with fail
      go_ret
      refine ⟨ret_bool ?_, rfl⟩
      have hp := Hp.out
      have e := Hx.out
      rw [List.take_of_length_le (by omega)] at hp
      have : allB xs 0 hi = true := hp
      rw [this, e, Bool.true_and, Bool.eq_iff_iff]
      simp [Array.getD]
      try omega

theorem l8Classes_any (f : Value) (F : Fld) (A1 : Option Addr) (cl : List Int) (n1 c1 : Nat) (A2 : Option Addr) (li : List Int) (n2 c2 : Nat) (w : World) (hf : FldAt w f F) (h1 : IntsAt w A1 cl) (hn1 : cl.length = n1) (h2 : IntsAt w A2 li) (hn2 : li.length = n2) :
    Calls Try.prog 46 #[f, .slice A1 n1 c1, .slice A2 n2 c2] w fun e w' => e = .returned (.bool (clsB F cl li)) ∧ Kp w w' := by
  obtain ⟨A, c, B, d, rfl, hA, hB⟩ := hf
  have hk0 : Kp w (w.alloc (.cells #[.slice A F.op.length c, .slice B F.di.length d] 29)) := (Kp.refl w).alloc _
  have Hn1 := Lib.hid hn1; have Hn2 := Lib.hid hn2; clear hn1 hn2
  go_enter Try.func46, Try.ntmps46
  go_wp2_with fail
  have CC := Lib.hid (l2RowH_any A1 cl n1 c1 F.op.length 6 _ (h1.kp hk0) Hn1.out)
  with_reducible refine Calls.mono CC.out ?_
  rintro e w1 ⟨rfl, hw⟩
  obtain rfl := hw
  clear CC
  cases hq : (allB cl 0 6 && (cl.length == F.op.length))
  · have Hq := Lib.hid hq; clear hq
    go_wp2_with fail
    go_ret
    refine ⟨ret_bool ?_, hk0⟩
    have := Hq.out
    rw [Bool.and_comm] at this
    simp [clsB, this, Array.getD]
  have Hq := Lib.hid hq; clear hq
  go_wp2_with fail
  have CC := Lib.hid (l2RowH_any A2 li n2 c2 7 7 _ (h2.kp hk0) Hn2.out)
  with_reducible refine Calls.mono CC.out ?_
  rintro e w1 ⟨rfl, hw⟩
  obtain rfl := hw
  clear CC
  go_wp2_with fail
  go_ret
  refine ⟨ret_bool ?_, hk0⟩
  have := Hq.out
  rw [Bool.and_comm] at this
  show (allB li 0 7 && (li.length == 7)) = _
  rw [clsB, this, Bool.true_and, Bool.and_comm]

theorem areLimits_any (f : Value) (F : Fld) (A1 : Option Addr) (cl : List Int) (n1 c1 : Nat) (A2 : Option Addr) (li : List Int) (n2 c2 : Nat) (w : World) (hf : FldAt w f F) (h1 : IntsAt w A1 cl) (hn1 : cl.length = n1) (h2 : IntsAt w A2 li) (hn2 : li.length = n2) :
    Calls Try.prog 48 #[f, .slice A1 n1 c1, .slice A2 n2 c2] w fun e w' => e = .returned (.bool (clsB F cl li)) ∧ Kp w w' := by
  obtain ⟨A, c, B, d, rfl, hA, hB⟩ := hf
  have hk0 : Kp w (w.alloc (.cells #[.slice A F.op.length c, .slice B F.di.length d] 29)) := (Kp.refl w).alloc _
  have Hn1 := Lib.hid hn1; have Hn2 := Lib.hid hn2; clear hn1 hn2
  by_cases hl : n1 = F.op.length
  · have t1 : ((n1 : Int) == (F.op.length : Int)) = true := by simp [hl]
    have Hl := Lib.hid hl; clear hl
    go_enter Try.func48, Try.ntmps48
    go_wp2_with fail
    have CC := Lib.hid (areBetween_any A1 cl n1 c1 0 6 _ (h1.kp hk0) Hn1.out)
    with_reducible refine Calls.mono CC.out ?_
    rintro e w1 ⟨rfl, hk1⟩
    clear CC
    cases hq : allB cl 0 6
    · have Hq := Lib.hid hq; clear hq
      go_wp2_with fail
      go_ret
      exact ⟨ret_bool (by simp [clsB, Hq.out, Array.getD]), hk0.trans hk1⟩
    have Hq := Lib.hid hq; clear hq
    by_cases h7 : n2 = 7
    · have t2 : ((n2 : Int) == 7) = true := by simp [h7]
      have H7 := Lib.hid h7; clear h7
      go_wp2_with fail
      have CC := Lib.hid (areBetween_any A2 li n2 c2 0 7 _ ((h2.kp hk0).kp hk1) Hn2.out)
      with_reducible refine Calls.mono CC.out ?_
      rintro e w2 ⟨rfl, hk2⟩
      clear CC
      go_wp2_with fail
      go_ret
      refine ⟨ret_bool ?_, (hk0.trans hk1).trans hk2⟩
      have e1 : (cl.length == F.op.length) = true := by rw [Hn1.out, Hl.out]; simp
      have e2 : (li.length == 7) = true := by rw [Hn2.out, H7.out]; simp
      rw [clsB, e1, e2, Hq.out]; rfl
    · have t2 : ((n2 : Int) == 7) = false := by simp; omega
      go_wp2_with fail
      go_ret
      refine ⟨ret_bool ?_, hk0.trans hk1⟩
      have e2 : (li.length == 7) = false := by rw [Hn2.out]; simp [h7]
      simp [clsB, e2, Array.getD]
  · have t1 : ((n1 : Int) == (F.op.length : Int)) = false := by simp; omega
    go_enter Try.func48, Try.ntmps48
    go_wp2_with fail
    go_ret
    refine ⟨ret_bool ?_, hk0⟩
    have e2 : (cl.length == F.op.length) = false := by rw [Hn1.out]; simp [hl]
    simp [clsB, e2, Array.getD]

theorem cnt_succ {cl S : List Int} {c k : Nat} (hk : k < S.length) : cntC cl (S.take (k + 1)) c = cntC cl (S.take k) c + if (cl.getD (S[k]).toNat 0 == (c : Int)) = true then 1 else 0 := count_take_succ hk
theorem cnt_le (cl S : List Int) (c k : Nat) : cntC cl (S.take k) c ≤ k := count_le_len _ _ _
set_option maxRecDepth 100000 in
set_option maxHeartbeats 1000000 in
theorem l8Allowed_any (A1 : Option Addr) (cl : List Int) (n1 c1 : Nat) (A2 : Option Addr) (li : List Int) (n2 c2 : Nat) (A3 : Option Addr) (S : List Int) (n3 c3 : Nat) (w : World) (h1 : IntsAt w A1 cl) (hn1 : cl.length = n1) (h2 : IntsAt w A2 li) (hn2 : li.length = n2) (h3 : IntsAt w A3 S) (hn3 : S.length = n3)
    (hS : ∀ x ∈ S, 0 ≤ x ∧ x < cl.length) :
    Calls Try.prog 47 #[.slice A1 n1 c1, .slice A2 n2 c2, .slice A3 n3 c3] w fun e w' => e = .returned (.bool (allowB cl li S)) ∧ w = w' := by
  have hm1 : n1 ≤ 9223372036854775807 := hn1 ▸ h1.1
  have hm2 : n2 ≤ 9223372036854775807 := hn2 ▸ h2.1
  have hm3 : n3 ≤ 9223372036854775807 := hn3 ▸ h3.1
  have Hn1 := Lib.hid hn1; have Hn2 := Lib.hid hn2; have Hn3 := Lib.hid hn3; clear hn1 hn2 hn3
  have HS := Lib.hid hS; clear hS
  go_enter Try.func47, Try.ntmps47
  go_wp2_with fail
  go_loop [7, 8, 9] (fun cv _ _ => ∃ k : Nat, k ≤ n2 ∧ cv = .int .i64 k ∧ Hid ((List.range k).all (fun c => decide ((cntC cl S c : Int) ≤ li.getD c 0)) = true)) (fun cv _ _ => n2 - (intOf cv).toNat)
  case atStart => exact ⟨0, by omega, rfl, rfl⟩
  case round =>
    obtain ⟨c, hc, rfl, Hp⟩ := hrel
    by_cases hlt : c < n2
    · have lx : c < li.length := by rw [Hn2.out]; exact hlt
      obtain ⟨ld, rfl, hcl⟩ := h2.at_ lx
      go_wp2_with fail
      go_loop [8, 9] (fun sv iv => ∃ k : Nat, k ≤ n3 ∧ iv = .int .i64 k ∧ sv = .int .i64 (cntC cl (S.take k) c)) (fun _ iv => n3 - (intOf iv).toNat)
      case atStart => exact ⟨0, by omega, rfl, by simp [cntC]⟩
      case round =>
        obtain ⟨k, hk, rfl, rfl⟩ := hrel
        have hct := cnt_le cl S c k
        by_cases hlk : k < n3
        · have ly : k < S.length := by rw [Hn3.out]; exact hlk
          obtain ⟨sd, rfl, hcs⟩ := h3.at_ ly
          obtain ⟨s0, s1⟩ := HS.out _ (List.getElem_mem ly)
          rw [Hn1.out] at s1
          have lz : (S[k]).toNat < cl.length := by rw [Hn1.out]; omega
          obtain ⟨cd, rfl, hcc⟩ := h1.at_ lz
          have hsucc := Lib.hid (cnt_succ (cl := cl) (c := c) ly)
          have hgd := Lib.hid (show cl.getD (S[k]).toNat 0 = cl[(S[k]).toNat] from by simp [List.getD, lz])
          cases ht : (cl[(S[k]).toNat] == (c : Int))
          · go_wp2_with fail
            go_round
            case rel => exact ⟨k + 1, by omega, by go_num, by rw [hsucc.out, hgd.out, ht]; simp⟩
            case measure => simp [intOf]; omega
          · go_wp2_with fail
            go_round
            case rel => exact ⟨k + 1, by omega, by go_num, by rw [hsucc.out, hgd.out, ht]; simp⟩
            case measure => simp [intOf]; omega
        · obtain rfl : k = n3 := by omega
          have hgl := Lib.hid (show li.getD c 0 = li[c] from by simp [List.getD, lx])
          have htk := Lib.hid (show S.take k = S from List.take_of_length_le (by rw [Hn3.out]; omega))
          rw [htk.out] at hct ⊢
          go_wp2_with fail
          · have hgt : li[c] < (cntC cl S c : Int) := by assumption
            go_ret
            refine ⟨ret_bool ?_, rfl⟩
            have : allowB cl li S = false := all_range_false lx (by rw [hgl.out]; simp; omega)
            rw [this]
          · have hgt : (cntC cl S c : Int) ≤ li[c] := by assumption
            go_round
            case rel => exact ⟨c + 1, by omega, by go_num, all_next Hp (by rw [hgl.out]; simpa using hgt)⟩
            case measure => simp [intOf]; omega
    · obtain rfl : c = n2 := by omega
      go_wp2_with fail
      go_ret
      refine ⟨ret_bool ?_, rfl⟩
      have := Hp.out
      rw [← Hn2.out] at this
      exact this.symm

def leftTo (cl li S : List Int) (k : Nat) : List Int := (List.range li.length).map fun c => li.getD c 0 - (cntC cl (S.take k) c : Int)
theorem leftTo_len (cl li S : List Int) (k : Nat) : (leftTo cl li S k).length = li.length := by simp [leftTo]
theorem leftTo_zero (cl li S : List Int) : leftTo cl li S 0 = li := by
  apply List.ext_getElem (by simp [leftTo])
  intro i h1 h2
  simp [leftTo, cntC, List.getD, h2]
theorem leftTo_get {cl li S : List Int} {k c : Nat} (h : c < li.length) : (leftTo cl li S k).getD c 0 = li.getD c 0 - (cntC cl (S.take k) c : Int) := by
  simp [leftTo, List.getD, h]
theorem leftTo_succ {cl li S : List Int} {k : Nat} (hk : k < S.length) (h0 : 0 ≤ cl.getD (S[k]).toNat 0) :
    (leftTo cl li S k).set (cl.getD (S[k]).toNat 0).toNat ((leftTo cl li S k).getD (cl.getD (S[k]).toNat 0).toNat 0 - 1) = leftTo cl li S (k + 1) := by
  apply List.ext_getElem (by simp [leftTo])
  intro c h1 h2
  have hc : c < li.length := by simpa [leftTo] using h2
  rw [List.getElem_set]
  by_cases e : (cl.getD (S[k]).toNat 0).toNat = c
  · rw [if_pos e, e, leftTo_get hc]
    have e2 : (cl.getD (S[k]).toNat 0 == (c : Int)) = true := by rw [beq_iff_eq]; omega
    simp only [leftTo, List.getElem_map, List.getElem_range]
    rw [cnt_succ hk, e2]
    simp; omega
  · rw [if_neg e]
    have e2 : (cl.getD (S[k]).toNat 0 == (c : Int)) = false := by rw [beq_eq_false_iff_ne]; omega
    simp only [leftTo, List.getElem_map, List.getElem_range]
    rw [cnt_succ hk, e2]
    simp

set_option maxRecDepth 100000 in
set_option maxHeartbeats 1000000 in
theorem allowsClo_any (A3 : Option Addr) (S : List Int) (n3 c3 : Nat) (pl pc : Addr) (ld : Addr) (li : List Int) (n2 c2 : Nat) (A1 : Option Addr) (cl : List Int) (n1 c1 : Nat) (w : World) (hpl : w.cell? pl = some (.slice (some ld) n2 c2)) (hpc : w.cell? pc = some (.slice A1 n1 c1))
    (h1 : IntsAt w A1 cl) (hn1 : cl.length = n1) (h2 : IntsAt w (some ld) li) (hn2 : li.length = n2) (h3 : IntsAt w A3 S) (hn3 : S.length = n3) (hS : ∀ x ∈ S, 0 ≤ x ∧ x < cl.length) (hcl : ∀ x ∈ cl, 0 ≤ x ∧ x < li.length) (hli : ∀ x ∈ li, 0 ≤ x ∧ x ≤ 7) (hb : n2 ≤ 1048576) (hp : 0 < n2) :
    Calls Try.prog 78 #[.slice A3 n3 c3, .pointer (some pl), .pointer (some pc)] w fun e w' => e = .returned (.bool (allowB cl li S)) ∧ Kp w w' := by
  have hm1 : n1 ≤ 9223372036854775807 := hn1 ▸ h1.1
  have hm3 : n3 ≤ 9223372036854775807 := hn3 ▸ h3.1
  have Hn1 := Lib.hid hn1; have Hn2 := Lib.hid hn2; have Hn3 := Lib.hid hn3; clear hn1 hn2 hn3
  have HS := Lib.hid hS; have Hcl := Lib.hid hcl; have Hli := Lib.hid hli; clear hS hcl hli
  go_enter Try.func78, Try.ntmps78
  go_wp2_with fail
  have CC := Lib.hid (clone_some ld li n2 c2 w h2 Hn2.out hb)
  with_reducible refine Calls.mono CC.out ?_
  rintro e w1 ⟨v, rfl, hv, hk1⟩
  clear CC
  obtain ⟨g, cap, rfl⟩ : ∃ g cap, v = .slice (some ⟨g, 0, none⟩) n2 cap := by
    rcases hv.2 with ⟨_, h0⟩ | ⟨g, cap, cur, e, _⟩
    · have := Hn2.out; omega
    · exact ⟨g, cap, by rw [e, Hn2.out]⟩
  have e1 := hk1.get hpl; have e2 := hk1.get hpc
  go_wp2_with fail
  go_loopw [12] (fun ix wr => ∃ k : Nat, k ≤ n3 ∧ ix = .int .i64 k ∧ Own wr w.heap.size (.slice (some ⟨g, 0, none⟩) n2 cap) (leftTo cl li S k) ∧ Kp w wr) (fun ix _ => n3 - (intOf ix).toNat)
  case atStart => exact ⟨0, by omega, rfl, by rw [leftTo_zero]; exact hv, hk1⟩
  case round =>
    obtain ⟨k, hk, rfl, hown, hkp⟩ := hrel
    have f2 := hkp.get hpc
    by_cases hlt : k < n3
    · have ly : k < S.length := by rw [Hn3.out]; exact hlt
      obtain ⟨sd, rfl, hcs⟩ := (h3.kp hkp).at_ ly
      obtain ⟨s0, s1⟩ := HS.out _ (List.getElem_mem ly)
      rw [Hn1.out] at s1
      have lz : (S[k]).toNat < cl.length := by rw [Hn1.out]; omega
      obtain ⟨cd, rfl, hcc⟩ := (h1.kp hkp).at_ lz
      obtain ⟨q0, q1⟩ := Hcl.out _ (List.getElem_mem lz)
      rw [Hn2.out] at q1
      have hgd : cl.getD (S[k]).toNat 0 = cl[(S[k]).toNat] := by simp [List.getD, lz]
      have hsl := hown.slot (j := (cl[(S[k]).toNat]).toNat) (by rw [leftTo_len, Hn2.out]) (by omega)
      obtain ⟨c1', c2', hput⟩ := hsl
      have hcnt := cnt_le cl S (cl[(S[k]).toNat]).toNat k
      have hlv : (leftTo cl li S k).getD (cl[(S[k]).toNat]).toNat 0 = li.getD (cl[(S[k]).toNat]).toNat 0 - (cntC cl (S.take k) (cl[(S[k]).toNat]).toNat : Int) := leftTo_get (by rw [Hn2.out]; omega)
      have hli2 := Hli.out (li.getD (cl[(S[k]).toNat]).toNat 0) (by
        have : (cl[(S[k]).toNat]).toNat < li.length := by rw [Hn2.out]; omega
        simp [List.getD, this])
      obtain ⟨L, hL⟩ : ∃ L, L = (leftTo cl li S k).getD (cl[(S[k]).toNat]).toNat 0 := ⟨_, rfl⟩
      have hL1 : L ≤ 7 := by omega
      have hL2 : -9223372036854775808 < L := by omega
      have hsucc := leftTo_succ (cl := cl) (li := li) (S := S) (k := k) ly (by rw [hgd]; exact q0)
      rw [hgd, ← hL] at hsucc
      rw [← hL] at c1'
      have hpt := hput (L - 1)
      rw [hsucc] at hpt
      have Hpt := Lib.hid hpt
      have hgb : Hid (w.heap.size ≤ g) := (hown.lt g rfl).1
      clear hput hpt hsucc hlv hgd hL hli2 hcnt hown
      go_wp2_with fail
      go_roundw
      case rel => exact ⟨k + 1, by omega, by go_num, Hpt.out.1, hkp.setCell (p := ⟨g, _, none⟩) hgb.out _⟩
      case measure => simp [intOf]; omega
    · obtain rfl : k = n3 := by omega
      have htk := Lib.hid (show S.take k = S from List.take_of_length_le (by rw [Hn3.out]; omega))
      have hll := Lib.hid (leftTo_len cl li S k)
      go_wp2_with fail
      have CC := Lib.hid (min_any (some ⟨g, 0, none⟩) (leftTo cl li S k) n2 cap wr (hown.intsOf (by rw [hll.out, Hn2.out]; omega)) (by rw [hll.out, Hn2.out]) hp)
      with_reducible refine Calls.mono CC.out ?_
      rintro e w2 ⟨r, rfl, hr1, hr2, hw⟩
      obtain rfl := hw
      clear CC
      have Hr1 := Lib.hid hr1; have Hr2 := Lib.hid hr2; clear hr1 hr2
      go_wp2_with fail
      go_ret
      refine ⟨ret_bool ?_, hkp⟩
      show decide (0 ≤ r) = allowB cl li S
      rw [Bool.eq_iff_iff, decide_eq_true_eq, allowB, List.all_eq_true]
      constructor
      · intro h0 c hc
        have hc' : c < li.length := by simpa using hc
        have := Hr2.out ((leftTo cl li S k).getD c 0) (by
          have : c < (leftTo cl li S k).length := by rw [leftTo_len]; exact hc'
          simp [List.getD, this])
        rw [leftTo_get hc', htk.out] at this
        simp only [decide_eq_true_eq]; omega
      · intro h
        obtain ⟨c, hc, e⟩ := List.getElem_of_mem Hr1.out
        have hc' : c < li.length := by rw [leftTo_len] at hc; exact hc
        have h1 := h c (by simpa using hc')
        have e3 : (leftTo cl li S k).getD c 0 = r := by rw [← e]; simp [List.getD, hc]
        rw [leftTo_get hc', htk.out] at e3
        simp only [decide_eq_true_eq] at h1
        omega

def allowR (F : Fld) (cl li S : List Int) : Bool := allowOk F cl li S && allowB cl li S
theorem allow_no {F : Fld} {cl li S : List Int} (h : allowOk F cl li S = false) : Ending.returned (.tuple #[.bool (allowR F cl li S), .bool (allowOk F cl li S)]) = .returned (.tuple #[.bool false, .bool false]) := by simp [allowR, h]
theorem allow_yes {F : Fld} {cl li S : List Int} (h : allowOk F cl li S = true) : Ending.returned (.tuple #[.bool (allowR F cl li S), .bool (allowOk F cl li S)]) = .returned (.tuple #[.bool (allowB cl li S), .bool true]) := by simp [allowR, h]
theorem allowOk_parts {F : Fld} {cl li S : List Int} (h : allowOk F cl li S = true) : goodF F = true ∧ (∀ x ∈ S, 0 ≤ x ∧ x < cl.length) ∧ (∀ x ∈ cl, 0 ≤ x ∧ x < li.length) ∧ (∀ x ∈ li, 0 ≤ x ∧ x ≤ 7) ∧ li.length = 7 ∧ cl.length = F.op.length := by
  simp only [allowOk, Bool.and_eq_true] at h
  obtain ⟨⟨h1, h2⟩, h3⟩ := h
  obtain ⟨a, b, c, d⟩ := clsB_iff.1 h3
  exact ⟨h1, fun x hx => by rw [a]; exact set_mem h2 x hx, fun x hx => by have := b x hx; omega, d, c, a⟩

theorem allows_any {A1 A2 : Option Addr} {n1 c1 n2 c2 : Nat} (w : World) :
    Calls Try.prog 49 #[.slice A1 n1 c1, .slice A2 n2 c2] w fun e w' => e = .returned (.func (.func 78) #[] #[.pointer (some ⟨w.heap.size + 1, 0, none⟩), .pointer (some ⟨w.heap.size, 0, none⟩)]) ∧ (w.alloc (.cells #[.slice A1 n1 c1] 22)).alloc (.cells #[.slice A2 n2 c2] 22) = w' := by
  have hmf : ∀ (fn : Fn) (first cap : Array Value) (w : World), (Instr.makeFunc fn first cap).run Try.prog w = .ok (.func fn first cap) w := fun _ _ _ _ => rfl
  go_enter Try.func49, Try.ntmps49
  go_wp2_with fail
  go_ret
  exact ⟨rfl, rfl⟩

end Go.Proofs.Ytbefnhagmejpcaa

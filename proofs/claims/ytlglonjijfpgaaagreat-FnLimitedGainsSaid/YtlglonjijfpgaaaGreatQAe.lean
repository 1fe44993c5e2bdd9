/- Which sets are allowed: the program's answer and the reference's; Sums over the first numbers; Greedy sites within limits have at least half of the best gain; UpperGain: plain words: the marginal gains in falling order, put in one after the other, and sorted; No set of at most as many sites gains more than the upper gain of any set tells. No condition. -/
import Derived.Test.YtlglonjijfpgaaaGreatQAd
import Derived.Test.YtlglonjijfpgaaaGreatQAc
namespace Go.Proofs.YtlglonjijfpgaaaGreat
open Go.RowKit Go.Sort

/-- How many of the first k sites are of class c. -/
def cntC (cl : List Int) (S : List Int) (c : Nat) : Nat := S.countP fun a => cl.getD a.toNat 0 == (c : Int)
def allowB (cl li S : List Int) : Bool := (List.range li.length).all fun c => decide ((cntC cl S c : Int) ≤ li.getD c 0)
def clsB (F : Fld) (cl li : List Int) : Bool := (cl.length == F.op.length) && allB cl 0 6 && (li.length == 7) && allB li 0 7
def allowOk (F : Fld) (cl li S : List Int) : Bool := goodF F && setB F S && clsB F cl li
theorem clsB_iff {F : Fld} {cl li : List Int} : clsB F cl li = true ↔ cl.length = F.op.length ∧ (∀ x ∈ cl, 0 ≤ x ∧ x ≤ 6) ∧ li.length = 7 ∧ ∀ x ∈ li, 0 ≤ x ∧ x ≤ 7 := by
  simp only [clsB, Bool.and_eq_true, beq_iff_eq, allB_iff]
  constructor
  · rintro ⟨⟨⟨h1, h2⟩, h3⟩, h4⟩; exact ⟨h1, h2, h3, h4⟩
  · rintro ⟨h1, h2, h3, h4⟩; exact ⟨⟨⟨h1, h2⟩, h3⟩, h4⟩
theorem row6_iff {n : Nat} {r : List Int} {hi : Int} : (allB r 0 hi && (r.length == n)) = true ↔ (∀ x ∈ r, 0 ≤ x ∧ x ≤ hi) ∧ r.length = n := by simp [allB_iff]

/- The reference's row check at any bound. -/
set_option maxHeartbeats 400000 in
theorem l2RowH_any (A : Option Addr) (xs : List Int) (m c n : Nat) (hi : Int) (w : World) (hx : IntsAt w A xs) (hnx : xs.length = m) :
    Calls Tryz.prog 64 #[.slice A m c, .int .i64 n, .int .i64 hi] w fun e w' => e = .returned (.bool (allB xs 0 hi && (xs.length == n))) ∧ w = w' := by
  have hm : m ≤ 9223372036854775807 := hnx ▸ hx.1
  have Hx := Lib.hid hnx; clear hnx
  go_enter Tryz.func64, Tryz.ntmps64
  go_wp2_with fail
  go_loop [7] (fun i => ∃ k : Nat, k ≤ m ∧ i = .int .i64 k ∧ Hid ((xs.take k).all (fun x => inB x 0 hi) = true)) (fun i => m - (intOf i).toNat)
  case atStart => exact ⟨0, by omega, rfl, rfl⟩
  case round =>
    obtain ⟨k, hk, rfl, Hp⟩ := hrel
    by_cases hlt : k < m
    · have lx : k < xs.length := by rw [Hx.out]; exact hlt
      obtain ⟨ad, rfl, hc⟩ := hx.at_ lx
      go_wp2_with fail
      refine (l1In_any _ _ _ _).mono ?_
      rintro e w' ⟨rfl, rfl⟩
      cases hpk : inB xs[k] 0 hi
      · go_wp2_with fail
        go_ret
        refine ⟨ret_bool ?_, rfl⟩
        have : allB xs 0 hi = false := all_false_of (p := fun x => inB x 0 hi) lx hpk
        simp [this, Array.getD]
      · go_wp2_with fail
        go_round
        case rel => exact ⟨k + 1, by omega, by go_num, all_take_succ Hp.out lx hpk⟩
        case measure => simp [intOf]; omega
    · go_wp2_with fail
      go_ret
      refine ⟨ret_bool ?_, rfl⟩
      have hp := Hp.out
      have e := Hx.out
      rw [List.take_of_length_le (by omega)] at hp
      have : allB xs 0 hi = true := hp
      rw [this, e, Bool.true_and, Bool.eq_iff_iff]
      simp [Array.getD]
      try omega

theorem l8Classes_any (f : Value) (F : Fld) (A1 : Option Addr) (cl : List Int) (n1 c1 : Nat) (A2 : Option Addr) (li : List Int) (n2 c2 : Nat) (w : World) (hf : FldAt w f F) (h1 : IntsAt w A1 cl) (hn1 : cl.length = n1) (h2 : IntsAt w A2 li) (hn2 : li.length = n2) :
    Calls Tryz.prog 28 #[f, .slice A1 n1 c1, .slice A2 n2 c2] w fun e w' => e = .returned (.bool (clsB F cl li)) ∧ Kp w w' := by
  obtain ⟨A, c, B, d, rfl, hA, hB⟩ := hf
  have hk0 : Kp w (w.alloc (.cells #[.slice A F.op.length c, .slice B F.di.length d] 27)) := (Kp.refl w).alloc _
  have Hn1 := Lib.hid hn1; have Hn2 := Lib.hid hn2; clear hn1 hn2
  go_enter Tryz.func28, Tryz.ntmps28
  go_wp2_with fail
  have CC := Lib.hid (l2RowH_any A1 cl n1 c1 F.op.length 6 _ (h1.kp hk0) Hn1.out)
  with_reducible refine Calls.mono CC.out ?_
  rintro e w1 ⟨rfl, hw⟩
  obtain rfl := hw
  clear CC
  cases hq : (allB cl 0 6 && (cl.length == F.op.length))
  · have Hq := Lib.hid hq; clear hq
    go_wp2_with fail
    go_ret
    refine ⟨ret_bool ?_, hk0⟩
    have := Hq.out
    rw [Bool.and_comm] at this
    simp [clsB, this, Array.getD]
  have Hq := Lib.hid hq; clear hq
  go_wp2_with fail
  have CC := Lib.hid (l2RowH_any A2 li n2 c2 7 7 _ (h2.kp hk0) Hn2.out)
  with_reducible refine Calls.mono CC.out ?_
  rintro e w1 ⟨rfl, hw⟩
  obtain rfl := hw
  clear CC
  go_wp2_with fail
  go_ret
  refine ⟨ret_bool ?_, hk0⟩
  have := Hq.out
  rw [Bool.and_comm] at this
  show (allB li 0 7 && (li.length == 7)) = _
  rw [clsB, this, Bool.true_and, Bool.and_comm]

theorem areLimits_any (f : Value) (F : Fld) (A1 : Option Addr) (cl : List Int) (n1 c1 : Nat) (A2 : Option Addr) (li : List Int) (n2 c2 : Nat) (w : World) (hf : FldAt w f F) (h1 : IntsAt w A1 cl) (hn1 : cl.length = n1) (h2 : IntsAt w A2 li) (hn2 : li.length = n2) :
    Calls Tryz.prog 24 #[f, .slice A1 n1 c1, .slice A2 n2 c2] w fun e w' => e = .returned (.bool (clsB F cl li)) ∧ Kp w w' := by
  obtain ⟨A, c, B, d, rfl, hA, hB⟩ := hf
  have hk0 : Kp w (w.alloc (.cells #[.slice A F.op.length c, .slice B F.di.length d] 27)) := (Kp.refl w).alloc _
  have Hn1 := Lib.hid hn1; have Hn2 := Lib.hid hn2; clear hn1 hn2
  by_cases hl : n1 = F.op.length
  · have t1 : ((n1 : Int) == (F.op.length : Int)) = true := by simp [hl]
    have Hl := Lib.hid hl; clear hl
    go_enter Tryz.func24, Tryz.ntmps24
    go_wp2_with fail
    have CC := Lib.hid (areBetween_any A1 cl n1 c1 0 6 _ (h1.kp hk0) Hn1.out)
    with_reducible refine Calls.mono CC.out ?_
    rintro e w1 ⟨rfl, hk1⟩
    clear CC
    cases hq : allB cl 0 6
    · have Hq := Lib.hid hq; clear hq
      go_wp2_with fail
      go_ret
      exact ⟨ret_bool (by simp [clsB, Hq.out, Array.getD]), hk0.trans hk1⟩
    have Hq := Lib.hid hq; clear hq
    by_cases h7 : n2 = 7
    · have t2 : ((n2 : Int) == 7) = true := by simp [h7]
      have H7 := Lib.hid h7; clear h7
      go_wp2_with fail
      have CC := Lib.hid (areBetween_any A2 li n2 c2 0 7 _ ((h2.kp hk0).kp hk1) Hn2.out)
      with_reducible refine Calls.mono CC.out ?_
      rintro e w2 ⟨rfl, hk2⟩
      clear CC
      go_wp2_with fail
      go_ret
      refine ⟨ret_bool ?_, (hk0.trans hk1).trans hk2⟩
      have e1 : (cl.length == F.op.length) = true := by rw [Hn1.out, Hl.out]; simp
      have e2 : (li.length == 7) = true := by rw [Hn2.out, H7.out]; simp
      rw [clsB, e1, e2, Hq.out]; rfl
    · have t2 : ((n2 : Int) == 7) = false := by simp; omega
      go_wp2_with fail
      go_ret
      refine ⟨ret_bool ?_, hk0.trans hk1⟩
      have e2 : (li.length == 7) = false := by rw [Hn2.out]; simp [h7]
      simp [clsB, e2, Array.getD]
  · have t1 : ((n1 : Int) == (F.op.length : Int)) = false := by simp; omega
    go_enter Tryz.func24, Tryz.ntmps24
    go_wp2_with fail
    go_ret
    refine ⟨ret_bool ?_, hk0⟩
    have e2 : (cl.length == F.op.length) = false := by rw [Hn1.out]; simp [hl]
    simp [clsB, e2, Array.getD]

theorem cnt_succ {cl S : List Int} {c k : Nat} (hk : k < S.length) : cntC cl (S.take (k + 1)) c = cntC cl (S.take k) c + if (cl.getD (S[k]).toNat 0 == (c : Int)) = true then 1 else 0 := count_take_succ hk
theorem cnt_le (cl S : List Int) (c k : Nat) : cntC cl (S.take k) c ≤ k := count_le_len _ _ _
set_option maxRecDepth 100000 in
set_option maxHeartbeats 1000000 in
theorem l8Allowed_any (A1 : Option Addr) (cl : List Int) (n1 c1 : Nat) (A2 : Option Addr) (li : List Int) (n2 c2 : Nat) (A3 : Option Addr) (S : List Int) (n3 c3 : Nat) (w : World) (h1 : IntsAt w A1 cl) (hn1 : cl.length = n1) (h2 : IntsAt w A2 li) (hn2 : li.length = n2) (h3 : IntsAt w A3 S) (hn3 : S.length = n3)
    (hS : ∀ x ∈ S, 0 ≤ x ∧ x < cl.length) :
    Calls Tryz.prog 30 #[.slice A1 n1 c1, .slice A2 n2 c2, .slice A3 n3 c3] w fun e w' => e = .returned (.bool (allowB cl li S)) ∧ w = w' := by
  have hm1 : n1 ≤ 9223372036854775807 := hn1 ▸ h1.1
  have hm2 : n2 ≤ 9223372036854775807 := hn2 ▸ h2.1
  have hm3 : n3 ≤ 9223372036854775807 := hn3 ▸ h3.1
  have Hn1 := Lib.hid hn1; have Hn2 := Lib.hid hn2; have Hn3 := Lib.hid hn3; clear hn1 hn2 hn3
  have HS := Lib.hid hS; clear hS
  go_enter Tryz.func30, Tryz.ntmps30
  go_wp2_with fail
  go_loop [7, 8, 9] (fun cv _ _ => ∃ k : Nat, k ≤ n2 ∧ cv = .int .i64 k ∧ Hid ((List.range k).all (fun c => decide ((cntC cl S c : Int) ≤ li.getD c 0)) = true)) (fun cv _ _ => n2 - (intOf cv).toNat)
  case atStart => exact ⟨0, by omega, rfl, rfl⟩
  case round =>
    obtain ⟨c, hc, rfl, Hp⟩ := hrel
    by_cases hlt : c < n2
    · have lx : c < li.length := by rw [Hn2.out]; exact hlt
      obtain ⟨ld, rfl, hcl⟩ := h2.at_ lx
      go_wp2_with fail
      go_loop [8, 9] (fun sv iv => ∃ k : Nat, k ≤ n3 ∧ iv = .int .i64 k ∧ sv = .int .i64 (cntC cl (S.take k) c)) (fun _ iv => n3 - (intOf iv).toNat)
      case atStart => exact ⟨0, by omega, rfl, by simp [cntC]⟩
      case round =>
        obtain ⟨k, hk, rfl, rfl⟩ := hrel
        have hct := cnt_le cl S c k
        by_cases hlk : k < n3
        · have ly : k < S.length := by rw [Hn3.out]; exact hlk
          obtain ⟨sd, rfl, hcs⟩ := h3.at_ ly
          obtain ⟨s0, s1⟩ := HS.out _ (List.getElem_mem ly)
          rw [Hn1.out] at s1
          have lz : (S[k]).toNat < cl.length := by rw [Hn1.out]; omega
          obtain ⟨cd, rfl, hcc⟩ := h1.at_ lz
          have hsucc := Lib.hid (cnt_succ (cl := cl) (c := c) ly)
          have hgd := Lib.hid (show cl.getD (S[k]).toNat 0 = cl[(S[k]).toNat] from by simp [List.getD, lz])
          cases ht : (cl[(S[k]).toNat] == (c : Int))
          · go_wp2_with fail
            go_round
            case rel => exact ⟨k + 1, by omega, by go_num, by rw [hsucc.out, hgd.out, ht]; simp⟩
            case measure => simp [intOf]; omega
          · go_wp2_with fail
            go_round
            case rel => exact ⟨k + 1, by omega, by go_num, by rw [hsucc.out, hgd.out, ht]; simp⟩
            case measure => simp [intOf]; omega
        · obtain rfl : k = n3 := by omega
          have hgl := Lib.hid (show li.getD c 0 = li[c] from by simp [List.getD, lx])
          have htk := Lib.hid (show S.take k = S from List.take_of_length_le (by rw [Hn3.out]; omega))
          rw [htk.out] at hct ⊢
          go_wp2_with fail
          · have hgt : li[c] < (cntC cl S c : Int) := by assumption
            go_ret
            refine ⟨ret_bool ?_, rfl⟩
            have : allowB cl li S = false := all_range_false lx (by rw [hgl.out]; simp; omega)
            rw [this]
          · have hgt : (cntC cl S c : Int) ≤ li[c] := by assumption
            go_round
            case rel => exact ⟨c + 1, by omega, by go_num, all_next Hp (by rw [hgl.out]; simpa using hgt)⟩
            case measure => simp [intOf]; omega
    · obtain rfl : c = n2 := by omega
      go_wp2_with fail
      go_ret
      refine ⟨ret_bool ?_, rfl⟩
      have := Hp.out
      rw [← Hn2.out] at this
      exact this.symm

def leftTo (cl li S : List Int) (k : Nat) : List Int := (List.range li.length).map fun c => li.getD c 0 - (cntC cl (S.take k) c : Int)
theorem leftTo_len (cl li S : List Int) (k : Nat) : (leftTo cl li S k).length = li.length := by simp [leftTo]
theorem leftTo_zero (cl li S : List Int) : leftTo cl li S 0 = li := by
  apply List.ext_getElem (by simp [leftTo])
  intro i h1 h2
  simp [leftTo, cntC, List.getD, h2]
theorem leftTo_get {cl li S : List Int} {k c : Nat} (h : c < li.length) : (leftTo cl li S k).getD c 0 = li.getD c 0 - (cntC cl (S.take k) c : Int) := by
  simp [leftTo, List.getD, h]
theorem leftTo_succ {cl li S : List Int} {k : Nat} (hk : k < S.length) (h0 : 0 ≤ cl.getD (S[k]).toNat 0) :
    (leftTo cl li S k).set (cl.getD (S[k]).toNat 0).toNat ((leftTo cl li S k).getD (cl.getD (S[k]).toNat 0).toNat 0 - 1) = leftTo cl li S (k + 1) := by
  apply List.ext_getElem (by simp [leftTo])
  intro c h1 h2
  have hc : c < li.length := by simpa [leftTo] using h2
  rw [List.getElem_set]
  by_cases e : (cl.getD (S[k]).toNat 0).toNat = c
  · rw [if_pos e, e, leftTo_get hc]
    have e2 : (cl.getD (S[k]).toNat 0 == (c : Int)) = true := by rw [beq_iff_eq]; omega
    simp only [leftTo, List.getElem_map, List.getElem_range]
    rw [cnt_succ hk, e2]
    simp; omega
  · rw [if_neg e]
    have e2 : (cl.getD (S[k]).toNat 0 == (c : Int)) = false := by rw [beq_eq_false_iff_ne]; omega
    simp only [leftTo, List.getElem_map, List.getElem_range]
    rw [cnt_succ hk, e2]
    simp

set_option maxRecDepth 100000 in
set_option maxHeartbeats 1000000 in
theorem allowsClo_any (A3 : Option Addr) (S : List Int) (n3 c3 : Nat) (pl pc : Addr) (ld : Addr) (li : List Int) (n2 c2 : Nat) (A1 : Option Addr) (cl : List Int) (n1 c1 : Nat) (w : World) (hpl : w.cell? pl = some (.slice (some ld) n2 c2)) (hpc : w.cell? pc = some (.slice A1 n1 c1))
    (h1 : IntsAt w A1 cl) (hn1 : cl.length = n1) (h2 : IntsAt w (some ld) li) (hn2 : li.length = n2) (h3 : IntsAt w A3 S) (hn3 : S.length = n3) (hS : ∀ x ∈ S, 0 ≤ x ∧ x < cl.length) (hcl : ∀ x ∈ cl, 0 ≤ x ∧ x < li.length) (hli : ∀ x ∈ li, 0 ≤ x ∧ x ≤ 7) (hb : n2 ≤ 1048576) (hp : 0 < n2) :
    Calls Tryz.prog 60 #[.slice A3 n3 c3, .pointer (some pl), .pointer (some pc)] w fun e w' => e = .returned (.bool (allowB cl li S)) ∧ Kp w w' := by
  have hm1 : n1 ≤ 9223372036854775807 := hn1 ▸ h1.1
  have hm3 : n3 ≤ 9223372036854775807 := hn3 ▸ h3.1
  have Hn1 := Lib.hid hn1; have Hn2 := Lib.hid hn2; have Hn3 := Lib.hid hn3; clear hn1 hn2 hn3
  have HS := Lib.hid hS; have Hcl := Lib.hid hcl; have Hli := Lib.hid hli; clear hS hcl hli
  go_enter Tryz.func60, Tryz.ntmps60
  go_wp2_with fail
  have CC := Lib.hid (clone_some ld li n2 c2 w h2 Hn2.out hb)
  with_reducible refine Calls.mono CC.out ?_
  rintro e w1 ⟨v, rfl, hv, hk1⟩
  clear CC
  obtain ⟨g, cap, rfl⟩ : ∃ g cap, v = .slice (some ⟨g, 0, none⟩) n2 cap := by
    rcases hv.2 with ⟨_, h0⟩ | ⟨g, cap, cur, e, _⟩
    · have := Hn2.out; omega
    · exact ⟨g, cap, by rw [e, Hn2.out]⟩
  have e1 := hk1.get hpl; have e2 := hk1.get hpc
  go_wp2_with fail
  go_loopw [12] (fun ix wr => ∃ k : Nat, k ≤ n3 ∧ ix = .int .i64 k ∧ Own wr w.heap.size (.slice (some ⟨g, 0, none⟩) n2 cap) (leftTo cl li S k) ∧ Kp w wr) (fun ix _ => n3 - (intOf ix).toNat)
  case atStart => exact ⟨0, by omega, rfl, by rw [leftTo_zero]; exact hv, hk1⟩
  case round =>
    obtain ⟨k, hk, rfl, hown, hkp⟩ := hrel
    have f2 := hkp.get hpc
    by_cases hlt : k < n3
    · have ly : k < S.length := by rw [Hn3.out]; exact hlt
      obtain ⟨sd, rfl, hcs⟩ := (h3.kp hkp).at_ ly
      obtain ⟨s0, s1⟩ := HS.out _ (List.getElem_mem ly)
      rw [Hn1.out] at s1
      have lz : (S[k]).toNat < cl.length := by rw [Hn1.out]; omega
      obtain ⟨cd, rfl, hcc⟩ := (h1.kp hkp).at_ lz
      obtain ⟨q0, q1⟩ := Hcl.out _ (List.getElem_mem lz)
      rw [Hn2.out] at q1
      have hgd : cl.getD (S[k]).toNat 0 = cl[(S[k]).toNat] := by simp [List.getD, lz]
      have hsl := hown.slot (j := (cl[(S[k]).toNat]).toNat) (by rw [leftTo_len, Hn2.out]) (by omega)
      obtain ⟨c1', c2', hput⟩ := hsl
      have hcnt := cnt_le cl S (cl[(S[k]).toNat]).toNat k
      have hlv : (leftTo cl li S k).getD (cl[(S[k]).toNat]).toNat 0 = li.getD (cl[(S[k]).toNat]).toNat 0 - (cntC cl (S.take k) (cl[(S[k]).toNat]).toNat : Int) := leftTo_get (by rw [Hn2.out]; omega)
      have hli2 := Hli.out (li.getD (cl[(S[k]).toNat]).toNat 0) (by
        have : (cl[(S[k]).toNat]).toNat < li.length := by rw [Hn2.out]; omega
        simp [List.getD, this])
      obtain ⟨L, hL⟩ : ∃ L, L = (leftTo cl li S k).getD (cl[(S[k]).toNat]).toNat 0 := ⟨_, rfl⟩
      have hL1 : L ≤ 7 := by omega
      have hL2 : -9223372036854775808 < L := by omega
      have hsucc := leftTo_succ (cl := cl) (li := li) (S := S) (k := k) ly (by rw [hgd]; exact q0)
      rw [hgd, ← hL] at hsucc
      rw [← hL] at c1'
      have hpt := hput (L - 1)
      rw [hsucc] at hpt
      have Hpt := Lib.hid hpt
      have hgb : Hid (w.heap.size ≤ g) := (hown.lt g rfl).1
      clear hput hpt hsucc hlv hgd hL hli2 hcnt hown
      go_wp2_with fail
      go_roundw
      case rel => exact ⟨k + 1, by omega, by go_num, Hpt.out.1, hkp.setCell (p := ⟨g, _, none⟩) hgb.out _⟩
      case measure => simp [intOf]; omega
    · obtain rfl : k = n3 := by omega
      have htk := Lib.hid (show S.take k = S from List.take_of_length_le (by rw [Hn3.out]; omega))
      have hll := Lib.hid (leftTo_len cl li S k)
      go_wp2_with fail
      have CC := Lib.hid (min_any (some ⟨g, 0, none⟩) (leftTo cl li S k) n2 cap wr (hown.intsOf (by rw [hll.out, Hn2.out]; omega)) (by rw [hll.out, Hn2.out]) hp)
      with_reducible refine Calls.mono CC.out ?_
      rintro e w2 ⟨r, rfl, hr1, hr2, hw⟩
      obtain rfl := hw
      clear CC
      have Hr1 := Lib.hid hr1; have Hr2 := Lib.hid hr2; clear hr1 hr2
      go_wp2_with fail
      go_ret
      refine ⟨ret_bool ?_, hkp⟩
      show decide (0 ≤ r) = allowB cl li S
      rw [Bool.eq_iff_iff, decide_eq_true_eq, allowB, List.all_eq_true]
      constructor
      · intro h0 c hc
        have hc' : c < li.length := by simpa using hc
        have := Hr2.out ((leftTo cl li S k).getD c 0) (by
          have : c < (leftTo cl li S k).length := by rw [leftTo_len]; exact hc'
          simp [List.getD, this])
        rw [leftTo_get hc', htk.out] at this
        simp only [decide_eq_true_eq]; omega
      · intro h
        obtain ⟨c, hc, e⟩ := List.getElem_of_mem Hr1.out
        have hc' : c < li.length := by rw [leftTo_len] at hc; exact hc
        have h1 := h c (by simpa using hc')
        have e3 : (leftTo cl li S k).getD c 0 = r := by rw [← e]; simp [List.getD, hc]
        rw [leftTo_get hc', htk.out] at e3
        simp only [decide_eq_true_eq] at h1
        omega

def allowR (F : Fld) (cl li S : List Int) : Bool := allowOk F cl li S && allowB cl li S
theorem allow_no {F : Fld} {cl li S : List Int} (h : allowOk F cl li S = false) : Ending.returned (.tuple #[.bool (allowR F cl li S), .bool (allowOk F cl li S)]) = .returned (.tuple #[.bool false, .bool false]) := by simp [allowR, h]
theorem allow_yes {F : Fld} {cl li S : List Int} (h : allowOk F cl li S = true) : Ending.returned (.tuple #[.bool (allowR F cl li S), .bool (allowOk F cl li S)]) = .returned (.tuple #[.bool (allowB cl li S), .bool true]) := by simp [allowR, h]
theorem allowOk_parts {F : Fld} {cl li S : List Int} (h : allowOk F cl li S = true) : goodF F = true ∧ (∀ x ∈ S, 0 ≤ x ∧ x < cl.length) ∧ (∀ x ∈ cl, 0 ≤ x ∧ x < li.length) ∧ (∀ x ∈ li, 0 ≤ x ∧ x ≤ 7) ∧ li.length = 7 ∧ cl.length = F.op.length := by
  simp only [allowOk, Bool.and_eq_true] at h
  obtain ⟨⟨h1, h2⟩, h3⟩ := h
  obtain ⟨a, b, c, d⟩ := clsB_iff.1 h3
  exact ⟨h1, fun x hx => by rw [a]; exact set_mem h2 x hx, fun x hx => by have := b x hx; omega, d, c, a⟩

set_option maxHeartbeats 1000000 in
theorem specIsAllowed_any (f : Value) (F : Fld) (A1 : Option Addr) (cl : List Int) (n1 c1 : Nat) (A2 : Option Addr) (li : List Int) (n2 c2 : Nat) (A3 : Option Addr) (S : List Int) (n3 c3 : Nat) (w : World) (hf : FldAt w f F) (h1 : IntsAt w A1 cl) (hn1 : cl.length = n1) (h2 : IntsAt w A2 li) (hn2 : li.length = n2) (h3 : IntsAt w A3 S) (hn3 : S.length = n3) :
    Calls Tryz.prog 15 #[f, .slice A1 n1 c1, .slice A2 n2 c2, .slice A3 n3 c3] w fun e w' => e = .returned (.tuple #[.bool (allowR F cl li S), .bool (allowOk F cl li S)]) ∧ Kp w w' := by
  obtain ⟨A, c, B, d, rfl, hA, hB⟩ := hf
  have hk0 : Kp w (w.alloc (.cells #[.slice A F.op.length c, .slice B F.di.length d] 27)) := (Kp.refl w).alloc _
  obtain ⟨d0, d1⟩ := box2 w (.slice A F.op.length c) (.slice B F.di.length d) 27
  have hFA := FldAt.kp (show FldAt w (.agg #[.slice A F.op.length c, .slice B F.di.length d]) F from ⟨A, c, B, d, rfl, hA, hB⟩) hk0
  have Hn1 := Lib.hid hn1; have Hn2 := Lib.hid hn2; have Hn3 := Lib.hid hn3; clear hn1 hn2 hn3
  go_enter Tryz.func15, Tryz.ntmps15
  go_wp2_with fail
  generalize w.alloc (.cells #[.slice A F.op.length c, .slice B F.di.length d] 27) = wb at *
  have CC := Lib.hid (l2Good_any _ F _ hFA)
  with_reducible refine Calls.mono CC.out ?_
  rintro e w1 ⟨rfl, hk1⟩
  clear CC
  have K := hk0.trans hk1
  have e0 := hk1.get d0; have e1 := hk1.get d1
  cases hg : goodF F
  · have Hg := Lib.hid hg; clear hg
    go_wp2_with fail
    go_ret2
    exact ⟨(allow_no (by simp [allowOk, Hg.out])).symm, K⟩
  have Hg := Lib.hid hg; clear hg
  go_wp2_with fail
  have CC := Lib.hid (l8Classes_any _ F A1 cl n1 c1 A2 li n2 c2 _ (hFA.kp hk1) (h1.kp K) Hn1.out (h2.kp K) Hn2.out)
  with_reducible refine Calls.mono CC.out ?_
  rintro e w2 ⟨rfl, hk2⟩
  clear CC
  replace K := K.trans hk2
  replace e0 := hk2.get e0; replace e1 := hk2.get e1
  cases hq : clsB F cl li
  · have Hq := Lib.hid hq; clear hq
    go_wp2_with fail
    go_ret2
    exact ⟨(allow_no (by simp [allowOk, Hq.out])).symm, K⟩
  have Hq := Lib.hid hq; clear hq
  go_wp2_with fail
  have CC := Lib.hid (l2Set_any _ F A3 S n3 c3 _ ((hFA.kp hk1).kp hk2) (h3.kp K) Hn3.out)
  with_reducible refine Calls.mono CC.out ?_
  rintro e w3 ⟨rfl, hk3⟩
  clear CC
  replace K := K.trans hk3
  cases ht : setB F S
  · have Ht := Lib.hid ht; clear ht
    go_wp2_with fail
    go_ret2
    exact ⟨(allow_no (by simp [allowOk, Ht.out])).symm, K⟩
  have Ht := Lib.hid ht; clear ht
  have HO : Hid (allowOk F cl li S = true) := by show allowOk F cl li S = true; rw [allowOk, Hg.out, Ht.out, Hq.out]; rfl
  have HP := Lib.hid (allowOk_parts HO.out)
  go_wp2_with fail
  have CC := Lib.hid (l8Allowed_any A1 cl n1 c1 A2 li n2 c2 A3 S n3 c3 w3 (h1.kp K) Hn1.out (h2.kp K) Hn2.out (h3.kp K) Hn3.out HP.out.2.1)
  with_reducible refine Calls.mono CC.out ?_
  rintro e w4 ⟨rfl, hw⟩
  obtain rfl := hw
  clear CC
  go_wp2_with fail
  go_ret2
  exact ⟨(allow_yes HO.out).symm, K⟩

theorem allows_any {A1 A2 : Option Addr} {n1 c1 n2 c2 : Nat} (w : World) :
    Calls Tryz.prog 26 #[.slice A1 n1 c1, .slice A2 n2 c2] w fun e w' => e = .returned (.func (.func 60) #[] #[.pointer (some ⟨w.heap.size + 1, 0, none⟩), .pointer (some ⟨w.heap.size, 0, none⟩)]) ∧ (w.alloc (.cells #[.slice A1 n1 c1] 24)).alloc (.cells #[.slice A2 n2 c2] 24) = w' := by
  have hmf : ∀ (fn : Fn) (first cap : Array Value) (w : World), (Instr.makeFunc fn first cap).run Tryz.prog w = .ok (.func fn first cap) w := fun _ _ _ _ => rfl
  go_enter Tryz.func26, Tryz.ntmps26
  go_wp2_with fail
  go_ret
  exact ⟨rfl, rfl⟩

set_option maxHeartbeats 1000000 in
theorem implIsAllowed_any (f : Value) (F : Fld) (A1 : Option Addr) (cl : List Int) (n1 c1 : Nat) (A2 : Option Addr) (li : List Int) (n2 c2 : Nat) (A3 : Option Addr) (S : List Int) (n3 c3 : Nat) (w : World) (hf : FldAt w f F) (h1 : IntsAt w A1 cl) (hn1 : cl.length = n1) (h2 : IntsAt w A2 li) (hn2 : li.length = n2) (h3 : IntsAt w A3 S) (hn3 : S.length = n3) :
    Calls Tryz.prog 11 #[f, .slice A1 n1 c1, .slice A2 n2 c2, .slice A3 n3 c3] w fun e w' => e = .returned (.tuple #[.bool (allowR F cl li S), .bool (allowOk F cl li S)]) ∧ Kp w w' := by
  obtain ⟨A, c, B, d, rfl, hA, hB⟩ := hf
  have hk0 : Kp w (w.alloc (.cells #[.slice A F.op.length c, .slice B F.di.length d] 27)) := (Kp.refl w).alloc _
  obtain ⟨d0, d1⟩ := box2 w (.slice A F.op.length c) (.slice B F.di.length d) 27
  have hFA := FldAt.kp (show FldAt w (.agg #[.slice A F.op.length c, .slice B F.di.length d]) F from ⟨A, c, B, d, rfl, hA, hB⟩) hk0
  have Hn1 := Lib.hid hn1; have Hn2 := Lib.hid hn2; have Hn3 := Lib.hid hn3; clear hn1 hn2 hn3
  go_enter Tryz.func11, Tryz.ntmps11
  go_wp2_with fail
  generalize w.alloc (.cells #[.slice A F.op.length c, .slice B F.di.length d] 27) = wb at *
  have CC := Lib.hid (isWorth_any _ F 0 A3 S n3 c3 _ hFA (h3.kp hk0) Hn3.out)
  with_reducible refine Calls.mono CC.out ?_
  rintro e w1 ⟨rfl, hk1⟩
  clear CC
  have K := hk0.trans hk1
  have e0 := hk1.get d0; have e1 := hk1.get d1
  cases hg : gainOk F 0 S
  · have Hg := Lib.hid hg; clear hg
    go_wp2_with fail
    go_ret2
    refine ⟨(allow_no ?_).symm, K⟩
    have := Hg.out
    simp [gainOk, worthB, inB] at this
    simp [allowOk]
    intro a b
    rw [this a] at b
    simp at b
  have Hg := Lib.hid hg; clear hg
  go_wp2_with fail
  have CC := Lib.hid (areLimits_any _ F A1 cl n1 c1 A2 li n2 c2 _ (hFA.kp hk1) (h1.kp K) Hn1.out (h2.kp K) Hn2.out)
  with_reducible refine Calls.mono CC.out ?_
  rintro e w2 ⟨rfl, hk2⟩
  clear CC
  replace K := K.trans hk2
  cases hq : clsB F cl li
  · have Hq := Lib.hid hq; clear hq
    go_wp2_with fail
    go_ret2
    exact ⟨(allow_no (by simp [allowOk, Hq.out])).symm, K⟩
  have Hq := Lib.hid hq; clear hq
  obtain ⟨p1, p2, _, _⟩ := gainOk_parts Hg.out
  have HO : Hid (allowOk F cl li S = true) := by show allowOk F cl li S = true; rw [allowOk, p1, p2, Hq.out]; rfl
  clear p1 p2
  have HP := Lib.hid (allowOk_parts HO.out)
  have h7 : n2 ≤ 7 := by have := HP.out.2.2.2.2.1; rw [Hn2.out] at this; omega
  have h70 : 0 < n2 := by have := HP.out.2.2.2.2.1; rw [Hn2.out] at this; omega
  have hA2 := (h2.kp K).at_ (k := 0) (by rw [Hn2.out]; exact h70)
  obtain ⟨ld, hl2, _⟩ := hA2
  subst hl2
  go_wp2_with fail
  have CC := Lib.hid (allows_any (A1 := A1) (n1 := n1) (c1 := c1) (A2 := some ld) (n2 := n2) (c2 := c2) w2)
  with_reducible refine Calls.mono CC.out ?_
  rintro e w3 ⟨rfl, hw⟩
  clear CC
  have k3 : Kp w2 w3 := by rw [← hw]; exact ((Kp.refl w2).alloc _).alloc _
  have x0 : w3.cell? ⟨w2.heap.size, 0, none⟩ = some (.slice A1 n1 c1) := by
    rw [← hw, World.cell?_alloc_past _ _ _ (by simp), World.cell?_alloc_at _ _ _ _ rfl]; rfl
  have x1 : w3.cell? ⟨w2.heap.size + 1, 0, none⟩ = some (.slice (some ld) n2 c2) := by
    rw [← hw, World.cell?_alloc_at _ _ _ _ (by simp)]; rfl
  clear hw
  replace K := K.trans k3
  go_wp2_with fail
  have CC := Lib.hid (allowsClo_any A3 S n3 c3 _ _ ld li n2 c2 A1 cl n1 c1 w3 x1 x0 (h1.kp K) Hn1.out (h2.kp K) Hn2.out (h3.kp K) Hn3.out HP.out.2.1 HP.out.2.2.1 HP.out.2.2.2.1 (by omega) h70)
  with_reducible refine Calls.mono CC.out ?_
  rintro e w4 ⟨rfl, hk4⟩
  clear CC
  go_wp2_with fail
  go_ret2
  exact ⟨(allow_yes HO.out).symm, K.trans hk4⟩
end Go.Proofs.YtlglonjijfpgaaaGreat

namespace Go.Proofs.YtlglonjijfpgaaaGreat
theorem sumTo_addf (g h : Nat → Int) : ∀ k, sumTo (fun i => g i + h i) k = sumTo g k + sumTo h k
  | 0 => by simp [sumTo_zero]
  | k + 1 => by rw [sumTo_succ, sumTo_succ, sumTo_succ, sumTo_addf g h k]; omega
theorem sumTo_congr {g h : Nat → Int} : ∀ {k : Nat}, (∀ i, i < k → g i = h i) → sumTo g k = sumTo h k
  | 0, _ => rfl
  | k + 1, e => by rw [sumTo_succ, sumTo_succ, sumTo_congr (fun i hi => e i (by omega)), e k (by omega)]
theorem sumTo_mono' {g h : Nat → Int} : ∀ {k : Nat}, (∀ i, i < k → g i ≤ h i) → sumTo g k ≤ sumTo h k
  | 0, _ => Int.le_refl _
  | k + 1, e => by rw [sumTo_succ, sumTo_succ]; have := sumTo_mono' (fun i hi => e i (by omega) : ∀ i, i < k → g i ≤ h i); have := e k (by omega); omega
theorem sumTo_lt {g h : Nat → Int} {a : Nat} : ∀ {k : Nat}, (∀ i, i < k → g i ≤ h i) → a < k → g a < h a → sumTo g k < sumTo h k
  | 0, _, ha, _ => by omega
  | k + 1, e, ha, hl => by
    rw [sumTo_succ, sumTo_succ]
    by_cases h1 : a = k
    · subst h1; have := sumTo_mono' (fun i hi => e i (by omega) : ∀ i, i < a → g i ≤ h i); omega
    · have := sumTo_lt (fun i hi => e i (by omega) : ∀ i, i < k → g i ≤ h i) (by omega) hl; have := e k (by omega); omega
theorem sumTo_c0 (k : Nat) : sumTo (fun _ => 0) k = 0 := by
  induction k with
  | zero => rfl
  | succ k ih => rw [sumTo_succ, ih]; rfl
theorem sumTo_sub (g h : Nat → Int) : ∀ k, sumTo (fun i => g i - h i) k = sumTo g k - sumTo h k
  | 0 => by simp [sumTo_zero]
  | k + 1 => by rw [sumTo_succ, sumTo_succ, sumTo_succ, sumTo_sub g h k]; omega
theorem sumTo_mulc (g : Nat → Int) (c : Int) : ∀ k, sumTo (fun i => g i * c) k = sumTo g k * c
  | 0 => by simp [sumTo_zero]
  | k + 1 => by rw [sumTo_succ, sumTo_succ, sumTo_mulc g c k, Int.add_mul]
theorem sumTo_swap (g : Nat → Nat → Int) (k : Nat) : ∀ m, sumTo (fun i => sumTo (g i) k) m = sumTo (fun j => sumTo (fun i => g i j) m) k
  | 0 => by simp only [sumTo_zero]; rw [sumTo_c0]
  | m + 1 => by
    rw [sumTo_succ, sumTo_swap g k m, ← sumTo_addf]
    exact sumTo_congr (fun j _ => (sumTo_succ _ _).symm)
theorem sumTo_nn {g : Nat → Int} {k : Nat} (h : ∀ i, i < k → 0 ≤ g i) : 0 ≤ sumTo g k := by
  have := sumTo_mono' (g := fun _ => 0) h
  rwa [sumTo_c0] at this
theorem sumTo_ge {g : Nat → Int} {a : Nat} : ∀ {k : Nat}, (∀ i, i < k → 0 ≤ g i) → a < k → g a ≤ sumTo g k
  | 0, _, ha => by omega
  | k + 1, h, ha => by
    rw [sumTo_succ]
    by_cases h1 : a = k
    · subst h1; have := sumTo_nn (fun i hi => h i (by omega) : ∀ i, i < a → 0 ≤ g i); omega
    · have := sumTo_ge (fun i hi => h i (by omega) : ∀ i, i < k → 0 ≤ g i) (show a < k by omega); have := h k (by omega); omega
theorem sumTo_pos' {g : Nat → Int} {k : Nat} (h : ∀ i, i < k → 0 ≤ g i) (hs : 0 < sumTo g k) : ∃ i, i < k ∧ 0 < g i := by
  by_cases hh : ∃ i, i < k ∧ 0 < g i
  · exact hh
  · exfalso
    have : ∀ i, i < k → g i ≤ (fun _ => (0 : Int)) i := fun i hi => by
      have := h i hi
      by_cases h2 : 0 < g i
      · exact absurd ⟨i, hi, h2⟩ hh
      · show g i ≤ 0; omega
    have := sumTo_mono' this
    rw [sumTo_c0] at this; omega
/-- Change at one place. -/
def upd {α : Type} (g : Nat → α) (j : Nat) (x : α) (i : Nat) : α := if i = j then x else g i
def upd2 (f : Nat → Nat → Int) (j a : Nat) (x : Int) (i b : Nat) : Int := if i = j then upd (f j) a x b else f i b
theorem upd_at {α : Type} {g : Nat → α} {j : Nat} {x : α} : upd g j x j = x := if_pos rfl
theorem upd_ne {α : Type} {g : Nat → α} {j i : Nat} {x : α} (h : i ≠ j) : upd g j x i = g i := if_neg h
theorem sumTo_ones (n : Nat) : sumTo (fun _ => 1) n = (n : Int) := by
  induction n with
  | zero => rfl
  | succ n ih => rw [sumTo_succ, ih]; omega
theorem sumTo_single {g : Nat → Int} {p : Nat} : ∀ {n : Nat}, p < n → (∀ i, i < n → i ≠ p → g i = 0) → sumTo g n = g p
  | 0, h, _ => by omega
  | n + 1, h, h0 => by
    rw [sumTo_succ]
    by_cases e : p = n
    · subst e
      rw [sumTo_congr (h := fun _ => 0) (fun i hi => h0 i (by omega) (by omega)), sumTo_c0]; omega
    · rw [sumTo_single (show p < n by omega) (fun i hi hn => h0 i (by omega) hn), h0 n (by omega) (by omega)]; omega
theorem sumTo_one {p n : Nat} (h : p < n) : sumTo (fun i => if i = p then 1 else 0) n = 1 := by
  rw [sumTo_single h (fun i _ hn => if_neg hn), if_pos rfl]
theorem upd2_at {f : Nat → Nat → Int} {j a : Nat} {x : Int} : upd2 f j a x j a = x := by unfold upd2; rw [if_pos rfl, upd_at]
theorem upd2_ne {f : Nat → Nat → Int} {j a i b : Nat} {x : Int} (h : i ≠ j ∨ b ≠ a) : upd2 f j a x i b = f i b := by
  unfold upd2
  by_cases e : i = j
  · subst e; rw [if_pos rfl]
    rcases h with h | h
    · exact absurd rfl h
    · exact upd_ne h
  · rw [if_neg e]
end Go.Proofs.YtlglonjijfpgaaaGreat

namespace Go.Proofs.YtlglonjijfpgaaaGreat
open Go.RowKit Go.Sort

theorem putL_perm {S : List Int} {a : Int} (h : a ∉ S) : (putL S a).Perm (a :: S) := by
  unfold putL
  rw [if_neg h]
  have e : S.takeWhile (fun x => decide (x < a)) ++ S.dropWhile (fun x => decide (x < a)) = S := List.takeWhile_append_dropWhile
  have := List.perm_middle (a := a) (l₁ := S.takeWhile (fun x => decide (x < a))) (l₂ := S.dropWhile (fun x => decide (x < a)))
  rw [e] at this
  exact this
theorem cnt_put {cl S : List Int} {a : Int} (h : a ∉ S) (c : Nat) : cntC cl (putL S a) c = cntC cl S c + if (cl.getD a.toNat 0 == (c : Int)) = true then 1 else 0 := by
  unfold cntC
  rw [(putL_perm h).countP_eq, List.countP_cons]
theorem may_iff {cl li S : List Int} : allowB cl li S = true ↔ ∀ c : Nat, c < li.length → (cntC cl S c : Int) ≤ li.getD c 0 := by
  simp [allowB]
/-- A site of the same class may be put in just so. -/
theorem may_same {cl li S : List Int} {a t : Int} (ha : a ∉ S) (ht : t ∉ S) (hc : cl.getD a.toNat 0 = cl.getD t.toNat 0) (h : allowB cl li (putL S a) = true) : allowB cl li (putL S t) = true := by
  rw [may_iff] at h ⊢
  intro c hc2
  have := h c hc2
  rw [cnt_put ha, hc] at this
  rw [cnt_put ht]
  exact this
theorem may_less {cl li S : List Int} {a : Int} (ha : a ∉ S) (h : allowB cl li (putL S a) = true) : allowB cl li S = true := by
  rw [may_iff] at h ⊢
  intro c hc2
  have := h c hc2
  rw [cnt_put ha] at this
  omega
/-- What the greedy rounds leave: the set, and for each class what its sites have added. -/
structure GrE (F : Fld) (worth : Int) (cl li : List Int) (R S E : List Int) (D : Nat → Int) : Prop where
  set_ : setB F E = true
  may_ : allowB cl li E = true
  sup : ∀ x ∈ S, x ∈ E
  mem_ : ∀ x, x ∈ R ↔ x ∈ E
  nn : ∀ c, 0 ≤ D c
  sum_ : sumTo D 7 = gainF F worth E - gainF F worth S
  each : ∀ t, 0 ≤ t → t < (F.op.length : Int) → t ∉ E → ((cntC cl E (cl.getD t.toNat 0).toNat : Int) - (cntC cl S (cl.getD t.toNat 0).toNat : Int)) * moreF F worth E t ≤ D (cl.getD t.toNat 0).toNat
  most : ∀ t, 0 ≤ t → t < (F.op.length : Int) → t ∉ E → allowB cl li (putL E t) = true → moreF F worth E t ≤ 0
theorem grE_stop {F : Fld} {worth : Int} {cl li R S : List Int} (hs : setB F S = true) (hm : allowB cl li S = true) (hR : ∀ x, x ∈ R ↔ x ∈ S) (h : ∀ t, 0 ≤ t → t < (F.op.length : Int) → t ∉ S → allowB cl li (putL S t) = true → moreF F worth S t ≤ 0) : GrE F worth cl li R S S (fun _ => 0) :=
  ⟨hs, hm, fun _ h => h, hR, fun _ => Int.le_refl _, by rw [sumTo_c0]; omega, fun t _ _ _ => by rw [Int.sub_self, Int.zero_mul]; exact Int.le_refl _, h⟩
theorem cls_bd {F : Fld} {cl li : List Int} (hc : clsB F cl li = true) (t : Int) : 0 ≤ cl.getD t.toNat 0 ∧ cl.getD t.toNat 0 ≤ 6 := by
  have h := (clsB_iff.1 hc).2.1
  by_cases hi : t.toNat < cl.length
  · have e : cl.getD t.toNat 0 = cl[t.toNat] := by simp [List.getD, hi]
    rw [e]; exact h _ (List.getElem_mem hi)
  · rw [List.getD_eq_getElem?_getD, List.getElem?_eq_none (by omega)]; simp
theorem sum_bump (D : Nat → Int) {z n : Nat} (x : Int) (hz : z < n) : sumTo (fun c => D c + if c = z then x else 0) n = sumTo D n + x := by
  rw [sumTo_addf]
  have := sumTo_single (g := fun c => if c = z then x else 0) hz (fun i _ hne => if_neg hne)
  rw [this, if_pos rfl]
theorem gr_end {F : Fld} {worth : Int} {cl li : List Int} (hc : clsB F cl li = true) : ∀ (j : Nat) (out S : List Int), setB F S = true → allowB cl li S = true → (∀ x, x ∈ out ↔ x ∈ S) → F.op.length ≤ S.length + j →
    ∃ E D, GrE F worth cl li (grd F worth (allowB cl li) j out S) S E D
  | 0, out, S, hs, hm, ho, hl => by
    rw [grd_zero]
    refine ⟨S, _, grE_stop hs hm ho (fun t h0 h1 hn _ => ?_)⟩
    have h3 := setB_len (setB_put hs h0 h1)
    rw [putL_new hn] at h3
    omega
  | j + 1, out, S, hs, hm, ho, hl => by
    have hmax : ∀ t, 0 ≤ t → t < (F.op.length : Int) → allowB cl li (putL S t) = true → moreF F worth S t ≤ (nextF F worth (allowB cl li) S).2 := fun t h0 h1 hp => next_max h0 h1 (.inl hp)
    by_cases hstop : (nextF F worth (allowB cl li) S).1 < 0
    · rw [grd_stop hstop]
      refine ⟨S, _, grE_stop hs hm ho (fun t h0 h1 hn hp => ?_)⟩
      have := hmax t h0 h1 hp
      have hz : (nextF F worth (allowB cl li) S).2 = 0 := (pick_neg _ _ _).1 hstop
      rw [hz] at this
      exact this
    · rw [grd_go hstop]
      have hmo := next_more hstop
      obtain ⟨hnew, hlt⟩ := next_new hstop
      have hok : allowB cl li (putL S (nextF F worth (allowB cl li) S).1) = true := by
        rcases pick_inv (okF (allowB cl li) S) (fun a => moreF F worth S a) F.op.length with e | ⟨a, _, h2, _, e⟩
        · exact absurd (show (pickTo _ _ _).1 < 0 by rw [e]; decide) hstop
        · have e2 : (nextF F worth (allowB cl li) S).1 = (a : Int) := by
            show (pickTo _ _ _).1 = _
            rw [e]
          rw [e2]
          simp only [okF, Bool.and_eq_true] at h2
          exact h2.2
      obtain ⟨a, ha⟩ : ∃ a, a = (nextF F worth (allowB cl li) S).1 := ⟨_, rfl⟩
      rw [← ha] at hmo hnew hlt hok hstop ⊢
      have h0 : 0 ≤ a := by omega
      obtain ⟨E, D, hE⟩ := gr_end hc j (out ++ [a]) (putL S a) (setB_put hs h0 hlt) hok (fun x => by rw [mem_putL, List.mem_append, ho x]; simp) (by rw [putL_new hnew]; omega)
      have hz := cls_bd hc a
      have hnn := more_nn F worth S a
      refine ⟨E, fun c => D c + if c = (cl.getD a.toNat 0).toNat then moreF F worth S a else 0, ⟨hE.set_, hE.may_, fun x hx => hE.sup x (mem_putL.2 (.inl hx)), hE.mem_, fun c => ?_, ?_, fun t t0 t1 tn => ?_, hE.most⟩⟩
      · have := hE.nn c
        split <;> omega
      · rw [sum_bump D _ (by omega), hE.sum_, gain_put]; omega
      · have hi := hE.each t t0 t1 tn
        have htS : t ∉ S := fun h => tn (hE.sup t (mem_putL.2 (.inl h)))
        have hct := cls_bd hc t
        rw [cnt_put hnew] at hi
        show _ ≤ D (cl.getD t.toNat 0).toNat + if (cl.getD t.toNat 0).toNat = (cl.getD a.toNat 0).toNat then moreF F worth S a else 0
        by_cases hcc : cl.getD a.toNat 0 = cl.getD t.toNat 0
        · rw [if_pos (by rw [hcc])]
          have e1 : (cl.getD a.toNat 0 == (((cl.getD t.toNat 0).toNat : Nat) : Int)) = true := by rw [hcc]; exact beq_iff_eq.2 (by omega)
          rw [if_pos e1] at hi
          have h5 := hmax t t0 t1 (may_same hnew htS hcc hok)
          have h6 := more_anti (F := F) (worth := worth) (S := S) (S' := E) (a := t) (fun x hx => hE.sup x (mem_putL.2 (.inl hx)))
          rw [hmo] at h5
          have e2 : ((cntC cl E (cl.getD t.toNat 0).toNat : Int) - (cntC cl S (cl.getD t.toNat 0).toNat : Int)) * moreF F worth E t = ((cntC cl E (cl.getD t.toNat 0).toNat : Int) - ((cntC cl S (cl.getD t.toNat 0).toNat + 1 : Nat) : Int)) * moreF F worth E t + moreF F worth E t := by
            rw [Int.natCast_add, show ((1 : Nat) : Int) = 1 from rfl, Int.sub_mul, Int.sub_mul, Int.add_mul, Int.one_mul]; omega
          rw [e2]; omega
        · have hne : ¬ (cl.getD t.toNat 0).toNat = (cl.getD a.toNat 0).toNat := by omega
          rw [if_neg hne]
          have e1 : ¬ (cl.getD a.toNat 0 == (((cl.getD t.toNat 0).toNat : Nat) : Int)) = true := by
            intro h
            have := eq_of_beq h
            omega
          rw [if_neg e1] at hi
          rw [Nat.add_zero] at hi
          omega
theorem sum_cls {g : Int → Int} {k : Int → Nat} {n : Nat} : ∀ (T : List Int), (∀ x ∈ T, k x < n) → (T.map g).sum = sumTo (fun c => ((T.filter fun x => decide (k x = c)).map g).sum) n
  | [], _ => by
    have : (fun c : Nat => ((([] : List Int).filter fun x => decide (k x = c)).map g).sum) = fun _ => 0 := by funext c; simp
    rw [this, sumTo_c0]; rfl
  | x :: t, h => by
    have ih := sum_cls (g := g) t (fun y hy => h y (List.mem_cons_of_mem _ hy))
    have e : (fun c : Nat => (((x :: t).filter fun x => decide (k x = c)).map g).sum) = fun c => ((t.filter fun x => decide (k x = c)).map g).sum + if c = k x then g x else 0 := by
      funext c
      by_cases hc : k x = c
      · subst hc
        rw [List.filter_cons, if_pos (by simp), if_pos rfl, List.map_cons, List.sum_cons]; omega
      · rw [List.filter_cons, if_neg (by simpa using hc), if_neg (fun e => hc e.symm)]; omega
    rw [e, sum_bump _ _ (h x List.mem_cons_self), ← ih, List.map_cons, List.sum_cons]
    omega
theorem sum_cap {g : Int → Int} {m d : Int} : ∀ {T : List Int}, (∀ x ∈ T, m * g x ≤ d) → m * (T.map g).sum ≤ T.length * d
  | [], _ => by simp
  | x :: t, h => by
    have h1 := sum_cap (T := t) (fun y hy => h y (List.mem_cons_of_mem _ hy))
    have h2 := h x List.mem_cons_self
    rw [List.map_cons, List.sum_cons, List.length_cons, Int.natCast_add, Int.add_mul, Int.mul_add]
    omega
/-- Half of what any set within the limits gains. -/
theorem lim_half {F : Fld} {worth : Int} {cl li R E T : List Int} {D : Nat → Int} (hc : clsB F cl li = true) (hE : GrE F worth cl li R [] E D) (hT : setB F T = true) (hm : allowB cl li T = true) : gainF F worth T ≤ 2 * gainF F worth E := by
  have hli := (clsB_iff.1 hc).2.2.1
  have h1 := gain_more (F := F) (worth := worth) E T
  have hs := hE.sum_
  rw [gainF_nil] at hs
  have h2 := sum_cls (g := moreF F worth E) (k := fun x => (cl.getD x.toNat 0).toNat) (n := 7) T (fun x _ => by have := cls_bd hc x; show (cl.getD x.toNat 0).toNat < 7; omega)
  have h3 : ∀ c, c < 7 → ((T.filter fun x => decide ((cl.getD x.toNat 0).toNat = c)).map (moreF F worth E)).sum ≤ D c := fun c hc7 => by
    obtain ⟨U, hU⟩ : ∃ U, U = T.filter fun x => decide ((cl.getD x.toNat 0).toNat = c) := ⟨_, rfl⟩
    rw [← hU]
    have hlen : U.length = cntC cl T c := by
      unfold cntC
      rw [hU, List.countP_eq_length_filter]
      congr 1
      refine List.filter_congr (fun x _ => ?_)
      have := cls_bd hc x
      rw [Bool.eq_iff_iff, decide_eq_true_eq, beq_iff_eq]
      omega
    have hlim := may_iff.1 hm c (by omega)
    by_cases h0 : U = []
    · rw [h0]; exact hE.nn c
    · have hpos : 0 < U.length := List.length_pos_iff.2 h0
      have hcap := sum_cap (g := moreF F worth E) (m := li.getD c 0) (d := D c) (T := U) (fun t ht => by
        rw [hU, List.mem_filter, decide_eq_true_eq] at ht
        obtain ⟨htT, htc⟩ := ht
        have hts := set_mem hT t htT
        have hnn := more_nn F worth E t
        by_cases hin : t ∈ E
        · rw [more_in hin, Int.mul_zero]; exact hE.nn c
        · by_cases hp : allowB cl li (putL E t) = true
          · have := hE.most t hts.1 hts.2 hin hp
            have e0 : moreF F worth E t = 0 := by omega
            rw [e0, Int.mul_zero]; exact hE.nn c
          · have hfull : li.getD c 0 ≤ (cntC cl E c : Int) := by
              rw [may_iff] at hp
              have hEm := may_iff.1 hE.may_
              by_cases hle : li.getD c 0 ≤ (cntC cl E c : Int)
              · exact hle
              · refine absurd (fun c' hc' => ?_) hp
                rw [cnt_put hin]
                have h7 := hEm c' hc'
                have hb := cls_bd hc t
                by_cases e : (cl.getD t.toNat 0 == (c' : Int)) = true
                · rw [if_pos e]
                  have e2 := eq_of_beq e
                  have : c' = c := by omega
                  subst this; omega
                · rw [if_neg e]; omega
            have h8 := hE.each t hts.1 hts.2 hin
            rw [htc] at h8
            have e0 : (cntC cl [] c : Int) = 0 := rfl
            rw [e0, Int.sub_zero] at h8
            have := Int.mul_le_mul_of_nonneg_right hfull hnn
            omega)
      have hm1 : 1 ≤ li.getD c 0 := by omega
      have hD := hE.nn c
      have h9 : (U.length : Int) * D c ≤ li.getD c 0 * D c := Int.mul_le_mul_of_nonneg_right (by omega) hD
      exact Int.le_of_mul_le_mul_left (Int.le_trans hcap h9) (by omega)
  have h4 := sumTo_mono' (k := 7) h3
  omega
end Go.Proofs.YtlglonjijfpgaaaGreat

namespace Go.Proofs.YtlglonjijfpgaaaGreat
open Go.RowKit Go.Sort

def insD (m : Int) (L : List Int) : List Int := L.takeWhile (fun x => decide (m ≤ x)) ++ m :: L.dropWhile (fun x => decide (m ≤ x))
theorem insD_at {L : List Int} {m : Int} {k : Nat} (h1 : ∀ x ∈ L.take k, m ≤ x) (h2 : ∀ h : k < L.length, L[k] < m) : insD m L = L.take k ++ m :: L.drop k := by
  have e : L = L.take k ++ L.drop k := (List.take_append_drop k L).symm
  have hd : (L.drop k).takeWhile (fun x => decide (m ≤ x)) = [] ∧ (L.drop k).dropWhile (fun x => decide (m ≤ x)) = L.drop k := by
    by_cases hk : k < L.length
    · have := h2 hk
      rw [List.drop_eq_getElem_cons hk, List.takeWhile_cons, List.dropWhile_cons, if_neg (by simp; omega), if_neg (by simp; omega)]
      exact ⟨rfl, rfl⟩
    · rw [List.drop_eq_nil_of_le (by omega)]; exact ⟨rfl, rfl⟩
  have e1 : L.takeWhile (fun x => decide (m ≤ x)) = L.take k := by
    conv => lhs; rw [e]
    rw [List.takeWhile_append_of_pos (by intro x hx; simpa using h1 x hx), hd.1, List.append_nil]
  have e2 : L.dropWhile (fun x => decide (m ≤ x)) = L.drop k := by
    conv => lhs; rw [e]
    rw [List.dropWhile_append_of_pos (by intro x hx; simpa using h1 x hx), hd.2]
  rw [insD, e1, e2]
theorem insD_perm (m : Int) (L : List Int) : (insD m L).Perm (m :: L) := by
  have h : (insD m L).Perm (m :: (L.takeWhile (fun x => decide (m ≤ x)) ++ L.dropWhile (fun x => decide (m ≤ x)))) := List.perm_middle
  rwa [List.takeWhile_append_dropWhile] at h
theorem insD_len (m : Int) (L : List Int) : (insD m L).length = L.length + 1 := (insD_perm m L).length_eq
theorem insD_drop {m : Int} : ∀ {L : List Int}, L.Pairwise (fun a b => b ≤ a) → ∀ x ∈ L.dropWhile (fun x => decide (m ≤ x)), x < m
  | [], _, x, hx => by simp at hx
  | y :: t, hs, x, hx => by
    rw [List.pairwise_cons] at hs
    rw [List.dropWhile_cons] at hx
    by_cases h : m ≤ y
    · rw [if_pos (by simpa using h)] at hx
      exact insD_drop hs.2 x hx
    · rw [if_neg (by simpa using h)] at hx
      rcases List.mem_cons.1 hx with rfl | hx
      · omega
      · have := hs.1 x hx; omega
theorem insD_take {m : Int} : ∀ {L : List Int}, ∀ x ∈ L.takeWhile (fun x => decide (m ≤ x)), m ≤ x
  | [], x, hx => by simp at hx
  | y :: t, x, hx => by
    rw [List.takeWhile_cons] at hx
    by_cases h : m ≤ y
    · rw [if_pos (by simpa using h)] at hx
      rcases List.mem_cons.1 hx with rfl | hx
      · exact h
      · exact insD_take x hx
    · rw [if_neg (by simpa using h)] at hx
      simp at hx
theorem insD_sorted {m : Int} {L : List Int} (hs : L.Pairwise (fun a b => b ≤ a)) : (insD m L).Pairwise (fun a b => b ≤ a) := by
  unfold insD
  rw [List.pairwise_append, List.pairwise_cons]
  have hd := insD_drop (m := m) hs
  refine ⟨hs.sublist (List.takeWhile_sublist _), ⟨fun x hx => by have := hd x hx; omega, hs.sublist (List.dropWhile_sublist _)⟩, fun x hx y hy => ?_⟩
  have h1 := insD_take x hx
  rcases List.mem_cons.1 hy with rfl | hy
  · exact h1
  · have := hd y hy; omega
def desc (M : List Int) : List Int := M.foldl (fun L m => insD m L) []
theorem desc_snoc (M : List Int) (m : Int) : desc (M ++ [m]) = insD m (desc M) := by rw [desc, List.foldl_append]; rfl
theorem desc_both (M : List Int) : (desc M).Perm M ∧ (desc M).Pairwise (fun a b => b ≤ a) := by
  have key : ∀ (M L : List Int), L.Pairwise (fun a b => b ≤ a) → (M.foldl (fun L m => insD m L) L).Perm (M ++ L) ∧ (M.foldl (fun L m => insD m L) L).Pairwise (fun a b => b ≤ a) := by
    intro M
    induction M with
    | nil => intro L h; exact ⟨List.Perm.refl _, h⟩
    | cons m t ih =>
      intro L h
      have := ih (insD m L) (insD_sorted h)
      refine ⟨this.1.trans ?_, this.2⟩
      exact ((insD_perm m L).append_left t).trans List.perm_middle
  have := key M [] List.Pairwise.nil
  rw [List.append_nil] at this
  exact this
theorem desc_len (M : List Int) : (desc M).length = M.length := (desc_both M).1.length_eq
theorem desc_mem {M : List Int} {x : Int} (h : x ∈ desc M) : x ∈ M := (desc_both M).1.subset h
theorem desc_sort (M : List Int) : (M.mergeSort fun x y => decide (x ≤ y)).reverse = desc M := by
  have h1 := List.pairwise_mergeSort (le := fun (x y : Int) => decide (x ≤ y)) (fun a b c h h' => by simp at *; omega) (fun a b => by simp; omega) M
  have h2 : ((M.mergeSort fun x y => decide (x ≤ y)).reverse).Pairwise (fun a b => b ≤ a) := by
    rw [List.pairwise_reverse]
    exact h1.imp (by intro a b h; simpa using h)
  exact List.Perm.eq_of_pairwise (fun a b _ _ h h' => by omega) h2 (desc_both M).2 (((List.reverse_perm _).trans (List.mergeSort_perm _ _)).trans (desc_both M).1.symm)
/-- The marginal gains of the sites below k that are not in the set. -/
def margsTo (F : Fld) (worth : Int) (S : List Int) (k : Nat) : List Int := ((List.range k).filter fun (a : Nat) => !(S.any fun x => x == (a : Int))).map fun (a : Nat) => moreF F worth S (a : Int)
theorem margs_no {F : Fld} {worth : Int} {S : List Int} {k : Nat} (h : (S.any fun x => x == (k : Int)) = true) : margsTo F worth S (k + 1) = margsTo F worth S k := by
  simp only [margsTo, List.range_succ, List.filter_append, List.map_append]
  rw [show [k].filter (fun (a : Nat) => !(S.any fun x => x == (a : Int))) = [] from by simp [List.filter, h]]
  simp
theorem margs_yes {F : Fld} {worth : Int} {S : List Int} {k : Nat} (h : (S.any fun x => x == (k : Int)) = false) : margsTo F worth S (k + 1) = margsTo F worth S k ++ [moreF F worth S k] := by
  simp only [margsTo, List.range_succ, List.filter_append, List.map_append]
  rw [show [k].filter (fun (a : Nat) => !(S.any fun x => x == (a : Int))) = [k] from by simp [List.filter, h]]
  simp
theorem margs_len (F : Fld) (worth : Int) (S : List Int) (k : Nat) : (margsTo F worth S k).length ≤ k := by
  rw [margsTo, List.length_map]
  exact Nat.le_trans (List.length_filter_le _ _) (by simp)
theorem margs_bd {F : Fld} (hg : goodF F = true) {worth : Int} (h0 : 0 ≤ worth) (h1 : worth ≤ 999) (S : List Int) (k : Nat) : ∀ x ∈ margsTo F worth S k, -6993 ≤ x ∧ x ≤ 6993 := by
  intro x hx
  rw [margsTo, List.mem_map] at hx
  obtain ⟨a, _, rfl⟩ := hx
  exact moreF_bd hg h0 h1 S a
theorem sum_bd {b : Int} : ∀ {L : List Int}, (∀ x ∈ L, -b ≤ x ∧ x ≤ b) → -(L.length * b) ≤ L.sum ∧ L.sum ≤ L.length * b
  | [], _ => by simp
  | x :: t, h => by
    have h1 := sum_bd (L := t) fun y hy => h y (List.mem_cons_of_mem _ hy)
    have h2 := h x (by simp)
    have e : (((x :: t).length : Nat) : Int) * b = t.length * b + b := by rw [List.length_cons, Int.natCast_add, Int.add_mul]; simp
    rw [List.sum_cons, e]; omega
def allM (F : Fld) (worth : Int) (S : List Int) : List Int := desc (margsTo F worth S F.op.length)
theorem allM_facts {F : Fld} (hg : goodF F = true) {worth : Int} (h0 : 0 ≤ worth) (h1 : worth ≤ 999) (S : List Int) : (allM F worth S).length ≤ 7 ∧ (∀ x ∈ allM F worth S, -6993 ≤ x ∧ x ≤ 6993) ∧ ∀ q : Nat, -48951 ≤ ((allM F worth S).take q).sum ∧ ((allM F worth S).take q).sum ≤ 48951 := by
  have h7 := (goodF_iff.1 hg).1.2
  have hl : (allM F worth S).length ≤ 7 := by rw [allM, desc_len]; have := margs_len F worth S F.op.length; omega
  have hm : ∀ x ∈ allM F worth S, -6993 ≤ x ∧ x ≤ 6993 := fun x hx => margs_bd hg h0 h1 S _ x (desc_mem hx)
  refine ⟨hl, hm, fun q => ?_⟩
  have := sum_bd (b := 6993) (L := (allM F worth S).take q) fun x hx => hm x (List.mem_of_mem_take hx)
  have hq : ((allM F worth S).take q).length ≤ 7 := by rw [List.length_take]; omega
  omega
def upF (F : Fld) (worth : Int) (S : List Int) (K : Nat) : Int := gainF F worth S + ((allM F worth S).take K).sum
theorem upF_bd {F : Fld} (hg : goodF F = true) {worth : Int} (h0 : 0 ≤ worth) (h1 : worth ≤ 999) (S : List Int) (K : Nat) : -48951 ≤ upF F worth S K ∧ upF F worth S K ≤ 55944 := by
  have a := gainF_bd hg h0 h1 S
  have b := (allM_facts hg h0 h1 S).2.2 K
  unfold upF; omega
end Go.Proofs.YtlglonjijfpgaaaGreat

namespace Go.Proofs.YtlglonjijfpgaaaGreat
open Go.RowKit Go.Sort

theorem perm_sumG {L M : List Int} (h : L.Perm M) : L.sum = M.sum := by
  induction h with
  | nil => rfl
  | cons x _ ih => rw [List.sum_cons, List.sum_cons, ih]
  | swap x y l => simp only [List.sum_cons]; omega
  | trans _ _ h1 h2 => rw [h1, h2]
theorem sum_nnG {l : List Int} (h : ∀ x ∈ l, 0 ≤ x) : 0 ≤ l.sum := by
  induction l with
  | nil => simp
  | cons a t ih =>
    rw [List.sum_cons]
    have := h a List.mem_cons_self
    have := ih (fun x hx => h x (List.mem_cons_of_mem _ hx))
    omega
theorem sum_subG {g : Int → Int} (hg : ∀ x, 0 ≤ g x) : ∀ (L T : List Int), L.Nodup → (∀ x ∈ L, x ∈ T ∨ g x = 0) → (L.map g).sum ≤ (T.map g).sum
  | [], T, _, _ => by
    rw [List.map_nil, List.sum_nil]
    exact sum_nnG (fun x hx => by obtain ⟨y, _, rfl⟩ := List.mem_map.1 hx; exact hg y)
  | a :: t, T, hn, hs => by
    rw [List.nodup_cons] at hn
    rcases hs a List.mem_cons_self with ha | ha
    · obtain ⟨T1, T2, rfl⟩ := List.append_of_mem ha
      have ih := sum_subG hg t (T1 ++ T2) hn.2 (fun x hx => by
        have := hs x (List.mem_cons_of_mem _ hx)
        rw [List.mem_append, List.mem_cons] at this
        rw [List.mem_append]
        rcases this with (h | h | h) | h
        · exact .inl (.inl h)
        · exact absurd (h ▸ hx) hn.1
        · exact .inl (.inr h)
        · exact .inr h)
      rw [List.map_append, List.sum_append] at ih
      rw [List.map_cons, List.sum_cons, List.map_append, List.sum_append, List.map_cons, List.sum_cons]
      omega
    · have ih := sum_subG hg t T hn.2 (fun x hx => hs x (List.mem_cons_of_mem _ hx))
      rw [List.map_cons, List.sum_cons, ha]
      omega
theorem map_leG {g h : Int → Int} {C : List Int} (hl : ∀ x ∈ C, g x ≤ h x) : (C.map g).sum ≤ (C.map h).sum := by
  induction C with
  | nil => simp
  | cons a t ih =>
    rw [List.map_cons, List.map_cons, List.sum_cons, List.sum_cons]
    have := hl a List.mem_cons_self
    have := ih (fun x hx => hl x (List.mem_cons_of_mem _ hx))
    omega
theorem sum_addG (g h : Int → Int) : ∀ C : List Int, (C.map fun x => g x + h x).sum = (C.map g).sum + (C.map h).sum
  | [] => by simp
  | a :: t => by
    have := sum_addG g h t
    rw [List.map_cons, List.map_cons, List.map_cons, List.sum_cons, List.sum_cons, List.sum_cons, this]
    omega
theorem sum_constG (c : Int) : ∀ C : List Int, (C.map fun _ => c).sum = C.length * c
  | [] => by simp
  | a :: t => by
    have := sum_constG c t
    rw [List.map_cons, List.sum_cons, this, List.length_cons, Int.natCast_add, Int.add_mul]
    omega
/-- In a falling list the first ones exceed a bound together as much as all do. -/
theorem over_take {L : List Int} {K : Nat} {t : Int} (h1 : ∀ x ∈ L.take K, t ≤ x) (h2 : ∀ x ∈ L.drop K, x ≤ t) : (L.map fun x => max 0 (x - t)).sum = (L.take K).sum - ((L.take K).length : Int) * t := by
  conv => lhs; rw [← List.take_append_drop K L]
  rw [List.map_append, List.sum_append]
  have e1 : ((L.take K).map fun x => max 0 (x - t)) = (L.take K).map fun x => x + -t := List.map_congr_left (fun x hx => by have := h1 x hx; omega)
  have e2 : ((L.drop K).map fun x => max 0 (x - t)) = (L.drop K).map fun _ => 0 := List.map_congr_left (fun x hx => by have := h2 x hx; omega)
  have e3 : ((L.take K).map fun x => x + -t).sum = (L.take K).sum + ((L.take K).length : Int) * -t := by
    have := sum_addG (fun x => x) (fun _ => -t) (L.take K)
    rw [sum_constG, List.map_id'] at this
    exact this
  rw [e1, e2, e3, sum_constG, Int.mul_zero, Int.mul_neg]
  omega
theorem margs_sites (F : Fld) (worth : Int) (S : List Int) : margsTo F worth S F.op.length = (((List.range F.op.length).filter fun (a : Nat) => !(S.any fun x => x == (a : Int))).map fun (a : Nat) => (a : Int)).map (moreF F worth S) := by
  unfold margsTo
  rw [List.map_map]; rfl
theorem mem_sites {n : Nat} {S : List Int} {x : Int} (h0 : 0 ≤ x) (h1 : x < n) (h : x ∉ S) : x ∈ ((List.range n).filter fun (a : Nat) => !(S.any fun x => x == (a : Int))).map fun (a : Nat) => (a : Int) := by
  obtain ⟨a, rfl⟩ := Int.eq_ofNat_of_zero_le h0
  refine List.mem_map.2 ⟨a, List.mem_filter.2 ⟨List.mem_range.2 (by omega), ?_⟩, rfl⟩
  rw [Bool.not_eq_true', List.any_eq_false]
  intro y hy e
  have : y = (a : Int) := by simpa using e
  subst this
  exact h hy
/-- The upper gain. -/
theorem up_ge {F : Fld} {worth : Int} {S T : List Int} {K : Nat} (hT : setB F T = true) (hl : T.length ≤ K) : gainF F worth T ≤ upF F worth S K := by
  have h1 := gain_more (F := F) (worth := worth) S T
  have hm := set_mem hT
  have hnd : T.Nodup := (ris_iff.1 hT).1.imp (fun h => by omega)
  obtain ⟨M, hM⟩ : ∃ M, M = ((List.range F.op.length).filter fun (a : Nat) => !(S.any fun x => x == (a : Int))).map fun (a : Nat) => (a : Int) := ⟨_, rfl⟩
  have hms := margs_sites F worth S
  rw [← hM] at hms
  have hmem : ∀ x ∈ T, x ∈ M ∨ x ∈ S := fun x hx => by
    by_cases h : x ∈ S
    · exact .inr h
    · rw [hM]; exact .inl (mem_sites (hm x hx).1 (hm x hx).2 h)
  obtain ⟨hp, hs⟩ := desc_both (margsTo F worth S F.op.length)
  have hnn : ∀ x ∈ desc (margsTo F worth S F.op.length), 0 ≤ x := fun x hx => by
    have := hp.subset hx
    rw [hms] at this
    obtain ⟨a, _, rfl⟩ := List.mem_map.1 this
    exact more_nn _ _ _ _
  have hsum : (desc (margsTo F worth S F.op.length)).sum = (M.map (moreF F worth S)).sum := by rw [← hms]; exact perm_sumG hp
  have hal : allM F worth S = desc (margsTo F worth S F.op.length) := rfl
  unfold upF
  rw [hal]
  obtain ⟨L, hL⟩ : ∃ L, L = desc (margsTo F worth S F.op.length) := ⟨_, rfl⟩
  rw [← hL] at hp hs hnn hsum ⊢
  by_cases hk : K < L.length
  · obtain ⟨t, ht⟩ : ∃ t, t = L[K] := ⟨_, rfl⟩
    have ht0 : 0 ≤ t := by rw [ht]; exact hnn _ (List.getElem_mem hk)
    have hta : ∀ x ∈ L.take K, t ≤ x := fun x hx => by
      obtain ⟨i, hi, rfl⟩ := List.getElem_of_mem hx
      rw [List.length_take] at hi
      rw [List.getElem_take, ht]
      exact List.pairwise_iff_getElem.1 hs i K (by omega) hk (by omega)
    have htd : ∀ x ∈ L.drop K, x ≤ t := fun x hx => by
      obtain ⟨i, hi, rfl⟩ := List.getElem_of_mem hx
      rw [List.length_drop] at hi
      rw [List.getElem_drop, ht]
      by_cases h0 : i = 0
      · subst h0; exact Int.le_refl _
      · exact List.pairwise_iff_getElem.1 hs K (K + i) hk (by omega) (by omega)
    have e1 := over_take hta htd
    have e2 : (L.map fun x => max 0 (x - t)).sum = (M.map fun a => max 0 (moreF F worth S a - t)).sum := by
      have := perm_sumG (hp.map fun x => max 0 (x - t))
      rw [this, hms, List.map_map]; rfl
    have e3 : (T.map (moreF F worth S)).sum ≤ (T.map fun a => max 0 (moreF F worth S a - t) + t).sum := map_leG (fun x _ => by omega)
    rw [sum_addG, sum_constG] at e3
    have e4 : (T.map fun a => max 0 (moreF F worth S a - t)).sum ≤ (M.map fun a => max 0 (moreF F worth S a - t)).sum := sum_subG (fun x => by omega) T M hnd (fun x hx => (hmem x hx).imp id (fun h => by rw [more_in h]; omega))
    have e5 : ((L.take K).length : Int) = K := by rw [List.length_take]; omega
    have e6 : (T.length : Int) * t ≤ (K : Int) * t := Int.mul_le_mul_of_nonneg_right (by omega) ht0
    rw [e5] at e1
    omega
  · rw [List.take_of_length_le (by omega), hsum]
    have := sum_subG (g := moreF F worth S) (fun x => more_nn _ _ _ _) T M hnd (fun x hx => (hmem x hx).imp id more_in)
    omega
end Go.Proofs.YtlglonjijfpgaaaGreat

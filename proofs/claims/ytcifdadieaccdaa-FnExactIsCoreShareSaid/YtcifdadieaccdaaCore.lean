/- Core shares: the sets whose shares are greater than their cost. No condition. -/
import Derived.Test.YtcifdadieaccdaaCost2
import Derived.Test.YtcifdadieaccdaaRoom
namespace Go.Proofs.Ytcifdadieaccdaa
open Go.RowKit Go.Sort

def sharesB (F : Fld) (xs : List Int) : Bool := goodF F && decide (xs.length = F.di.length) && allB xs (-1400) 1400
theorem sharesB_iff {F : Fld} {xs : List Int} : sharesB F xs = true ↔ goodF F = true ∧ xs.length = F.di.length ∧ ∀ x ∈ xs, -1400 ≤ x ∧ x ≤ 1400 := by
  simp [sharesB, allB_iff, and_assoc]
def excS (F : Fld) (xs C : List Int) : Int := roomS xs C - costF F C
set_option maxRecDepth 100000 in
set_option maxHeartbeats 400000 in
theorem isShared_any (f : Value) (F : Fld) (A1 : Option Addr) (xs : List Int) (n1 c1 : Nat) (w : World) (hf : FldAt w f F) (h1 : IntsAt w A1 xs) (hn1 : xs.length = n1) :
    Calls Try.prog 44 #[f, .slice A1 n1 c1] w fun e w' => e = .returned (.bool (sharesB F xs)) ∧ Kp w w' := by
  obtain ⟨A, c, B, d, rfl, hA, hB⟩ := hf
  have hk0 : Kp w (w.alloc (.cells #[.slice A F.op.length c, .slice B F.di.length d] 29)) := (Kp.refl w).alloc _
  obtain ⟨d0, d1⟩ := box2 w (.slice A F.op.length c) (.slice B F.di.length d) 29
  have hFA := FldAt.kp (show FldAt w (.agg #[.slice A F.op.length c, .slice B F.di.length d]) F from ⟨A, c, B, d, rfl, hA, hB⟩) hk0
  replace h1 := h1.kp hk0
  have Hn1 := Lib.hid hn1
  clear hA hB hn1
  go_enter Try.func44, Try.ntmps44
  go_wp2_with fail
  have hsz : Hid ((w.alloc (.cells #[.slice A F.op.length c, .slice B F.di.length d] 29)).heap.size = w.heap.size + 1) := by show _ = _; simp
  generalize w.alloc (.cells #[.slice A F.op.length c, .slice B F.di.length d] 29) = wb at *
  have hkb : Kp wb wb := Kp.refl _
  have hkw := hk0
  have CC := Lib.hid (isField_any _ F _ (hFA.kp hkb))
  with_reducible refine Calls.mono CC.out ?_
  rintro e w1 ⟨rfl, hk1⟩
  clear CC
  replace hkb := hkb.trans hk1
  cases hg_ : goodF F
  · have Hg : Hid (sharesB F xs = false) := by show _ = _; simp [sharesB, hg_]
    clear hg_
    have q_d0 := hkb.get d0
    have q_d1 := hkb.get d1
    go_wp2_with fail
    go_ret
    exact ⟨ret_bool Hg.out.symm, hkw.trans hkb⟩
  have Hg := Lib.hid hg_; clear hg_
  by_cases hl : n1 = F.di.length
  · have hl2 : ((n1 : Int) == (F.di.length : Int)) = true := by simp [hl]
    have Hl := Lib.hid (show sharesB F xs = allB xs (-1400) 1400 from by simp [sharesB, Hg.out, Hn1.out, hl])
    have q_d0 := hkb.get d0
    have q_d1 := hkb.get d1
    go_wp2_with fail
    have CC := Lib.hid (areBetween_any A1 xs F.di.length c1 (-1400) 1400 _ (h1.kp hkb) (Hn1.out.trans hl))
    with_reducible refine Calls.mono CC.out ?_
    rintro e w2 ⟨rfl, hk2⟩
    clear CC q_d0 q_d1
    replace hkb := hkb.trans hk2
    have q_d0 := hkb.get d0
    have q_d1 := hkb.get d1
    go_wp2_with fail
    go_ret
    exact ⟨ret_bool Hl.out.symm, hkw.trans hkb⟩
  · have hl2 : ((n1 : Int) == (F.di.length : Int)) = false := by simp; omega
    have Hl := Lib.hid (show sharesB F xs = false from by simp [sharesB, Hg.out, Hn1.out, hl])
    have q_d0 := hkb.get d0
    have q_d1 := hkb.get d1
    go_wp2_with fail
    go_ret
    exact ⟨ret_bool Hl.out.symm, hkw.trans hkb⟩
set_option maxRecDepth 100000 in
set_option maxHeartbeats 400000 in
theorem l9Shares_any (f : Value) (F : Fld) (A1 : Option Addr) (xs : List Int) (n1 c1 : Nat) (w : World) (hf : FldAt w f F) (h1 : IntsAt w A1 xs) (hn1 : xs.length = n1) :
    Calls Try.prog 42 #[f, .slice A1 n1 c1] w fun e w' => e = .returned (.bool (sharesB F xs)) ∧ Kp w w' := by
  obtain ⟨A, c, B, d, rfl, hA, hB⟩ := hf
  have hk0 : Kp w (w.alloc (.cells #[.slice A F.op.length c, .slice B F.di.length d] 29)) := (Kp.refl w).alloc _
  obtain ⟨d0, d1⟩ := box2 w (.slice A F.op.length c) (.slice B F.di.length d) 29
  have hFA := FldAt.kp (show FldAt w (.agg #[.slice A F.op.length c, .slice B F.di.length d]) F from ⟨A, c, B, d, rfl, hA, hB⟩) hk0
  replace h1 := h1.kp hk0
  have hm1 : n1 ≤ 9223372036854775807 := hn1 ▸ h1.1
  have Hn1 := Lib.hid hn1
  clear hA hB hn1
  go_enter Try.func42, Try.ntmps42
  go_wp2_with fail
  have hsz : Hid ((w.alloc (.cells #[.slice A F.op.length c, .slice B F.di.length d] 29)).heap.size = w.heap.size + 1) := by show _ = _; simp
  generalize w.alloc (.cells #[.slice A F.op.length c, .slice B F.di.length d] 29) = wb at *
  have hkb : Kp wb wb := Kp.refl _
  have hkw := hk0
  go_loopw [5] (fun iv wr => ∃ k : Nat, k ≤ n1 ∧ iv = .int .i64 k ∧ Hid (∀ x ∈ xs.take k, -1400 ≤ x ∧ x ≤ 1400) ∧ Kp wb wr) (fun iv _ => n1 - (intOf iv).toNat)
  case atStart => exact ⟨0, by omega, rfl, by show ∀ x ∈ xs.take 0, _; simp, Kp.refl _⟩
  case round =>
    clear hkb
    obtain ⟨k, hk, rfl, Hp, hkb⟩ := hrel
    by_cases hlt : k < n1
    · have lx : k < xs.length := by rw [Hn1.out]; exact hlt
      obtain ⟨ad, rfl, hc⟩ := (h1.kp hkb).at_ lx
      have q_d0 := hkb.get d0
      have q_d1 := hkb.get d1
      go_wp2_with fail
      with_reducible refine Calls.mono (l1In_any _ _ _ _) ?_
      rintro e w1 ⟨rfl, hw⟩
      obtain rfl := hw
      clear q_d0 q_d1
      cases hb : inB xs[k] (-1400) 1400
      · have Hno : Hid (sharesB F xs = false) := by
          show _ = _
          have h0 : allB xs (-1400) 1400 = false := by
            cases h : allB xs (-1400) 1400 with
            | false => rfl
            | true =>
              have := allB_iff.1 h _ (List.getElem_mem lx)
              have h3 : inB xs[k] (-1400) 1400 = true := inB_iff.2 this
              rw [hb] at h3; cases h3
          simp [sharesB, h0]
        clear hb
        have q_d0 := hkb.get d0
        have q_d1 := hkb.get d1
        go_wp2_with fail
        go_ret
        exact ⟨ret_bool Hno.out.symm, hkw.trans hkb⟩
      · have hb2 := inB_iff.1 hb
        have Hy : Hid (∀ x ∈ xs.take (k + 1), -1400 ≤ x ∧ x ≤ 1400) := by
          show ∀ x ∈ xs.take (k + 1), _
          intro x hx
          rw [List.take_succ_eq_append_getElem lx, List.mem_append] at hx
          rcases hx with hx | hx
          · exact Hp.out x hx
          · have e : x = xs[k] := by simpa using hx
            rw [e]; exact hb2
        clear hb hb2
        have q_d0 := hkb.get d0
        have q_d1 := hkb.get d1
        go_wp2_with fail
        go_roundw
        case rel => exact ⟨k + 1, by omega, by go_num, Hy, hkb⟩
        case measure => simp [intOf]; omega
    · have Hall : Hid (allB xs (-1400) 1400 = true) := by
        show _ = _
        have := Hp.out
        rw [List.take_of_length_le (by rw [Hn1.out]; omega)] at this
        exact allB_iff.2 this
      have q_d0 := hkb.get d0
      have q_d1 := hkb.get d1
      go_wp2_with fail
      have CC := Lib.hid (l2Good_any _ F _ (hFA.kp hkb))
      with_reducible refine Calls.mono CC.out ?_
      rintro e w2 ⟨rfl, hk2⟩
      clear CC q_d0 q_d1
      replace hkb := hkb.trans hk2
      cases hg_ : goodF F
      · have Hg : Hid (sharesB F xs = false) := by show _ = _; simp [sharesB, hg_]
        clear hg_
        have q_d0 := hkb.get d0
        have q_d1 := hkb.get d1
        go_wp2_with fail
        go_ret
        exact ⟨ret_bool Hg.out.symm, hkw.trans hkb⟩
      have Hg := Lib.hid hg_; clear hg_
      by_cases hl : n1 = F.di.length
      · have hl2 : ((n1 : Int) == (F.di.length : Int)) = true := by simp [hl]
        have Hl := Lib.hid (show sharesB F xs = true from by simp [sharesB, Hg.out, Hn1.out, hl, Hall.out])
        have q_d0 := hkb.get d0
        have q_d1 := hkb.get d1
        go_wp2_with fail
        go_ret
        exact ⟨ret_bool (by rw [Hl.out] <;> first | rfl | exact hl2), hkw.trans hkb⟩
      · have hl2 : ((n1 : Int) == (F.di.length : Int)) = false := by simp; omega
        have Hl := Lib.hid (show sharesB F xs = false from by simp [sharesB, Hg.out, Hn1.out, hl])
        have q_d0 := hkb.get d0
        have q_d1 := hkb.get d1
        go_wp2_with fail
        go_ret
        exact ⟨ret_bool (by rw [Hl.out] <;> first | rfl | exact hl2), hkw.trans hkb⟩
theorem exc_bd {F : Fld} {xs C : List Int} (h : sharesB F xs = true) (hc : crowdB F C = true) : -800000 ≤ excS F xs C ∧ excS F xs C ≤ 800000 ∧ -700000 ≤ roomS xs C ∧ roomS xs C ≤ 700000 ∧ 0 ≤ costF F C ∧ costF F C ≤ 1386 := by
  have hp := sharesB_iff.1 h
  have h7 := (goodF_iff.1 hp.1).2.2.1
  have h1 := roomS_bd (C := C) (M := 1400) (by omega) (by omega) hp.2.2 (by have := crowd_len hc; omega)
  have h2 := cost_bd hp.1 hc
  unfold excS; omega
set_option maxRecDepth 100000 in
set_option maxHeartbeats 400000 in
theorem excess_any (f : Value) (F : Fld) (A1 : Option Addr) (xs : List Int) (n1 c1 : Nat) (A2 : Option Addr) (C : List Int) (n c0 : Nat) (w : World) (hf : FldAt w f F) (h1 : IntsAt w A1 xs) (hn1 : xs.length = n1) (h2 : IntsAt w A2 C) (hn : C.length = n) (hs : sharesB F xs = true) (hc : crowdB F C = true) :
    Calls Try.prog 46 #[f, .slice A1 n1 c1, .slice A2 n c0] w fun e w' => e = .returned (.int .i64 (excS F xs C)) ∧ Kp w w' := by
  obtain ⟨A, c, B, d, rfl, hA, hB⟩ := hf
  have hk0 : Kp w (w.alloc (.cells #[.slice A F.op.length c, .slice B F.di.length d] 29)) := (Kp.refl w).alloc _
  obtain ⟨d0, d1⟩ := box2 w (.slice A F.op.length c) (.slice B F.di.length d) 29
  have hFA := FldAt.kp (show FldAt w (.agg #[.slice A F.op.length c, .slice B F.di.length d]) F from ⟨A, c, B, d, rfl, hA, hB⟩) hk0
  replace h1 := h1.kp hk0
  replace h2 := h2.kp hk0
  have hp := sharesB_iff.1 hs
  have h7 := (goodF_iff.1 hp.1).2.2.1
  have hn7 : n ≤ 7 := by have := crowd_len hc; omega
  obtain ⟨e1, e2, e3, e4, e5, e6⟩ := exc_bd hs hc
  have hd : Hid (excS F xs C = roomS xs C - costF F C) := rfl
  have HP := Lib.hid hp
  have Hn1 := Lib.hid hn1; have Hn := Lib.hid hn; have HC := Lib.hid hc
  clear hA hB hn1 hn hs hc hp
  have HM := Lib.hid (crowd_mem HC.out)
  go_enter Try.func46, Try.ntmps46
  go_wp2_with fail
  have hsz : Hid ((w.alloc (.cells #[.slice A F.op.length c, .slice B F.di.length d] 29)).heap.size = w.heap.size + 1) := by show _ = _; simp
  generalize w.alloc (.cells #[.slice A F.op.length c, .slice B F.di.length d] 29) = wb at *
  have hkb : Kp wb wb := Kp.refl _
  have hkw := hk0
  have C1 := Lib.hid (fun (wx : World) (hx : Kp wb wx) => part_any A1 xs n1 c1 A2 C n c0 1400 wx (h1.kp hx) Hn1.out (h2.kp hx) Hn.out (fun x hx2 => by have := HM.out x hx2; have := HP.out.2.1; have := Hn1.out; omega) hn7 (by omega) (by omega) HP.out.2.2)
  have C2 := Lib.hid (fun (wx : World) (hx : Kp wb wx) => costOf_any _ F A2 C n c0 wx (hFA.kp hx) (h2.kp hx) Hn.out HP.out.1 HC.out)
  generalize roomS xs C = p at *
  generalize costF F C = r at *
  have q_d0 := hkb.get d0
  have q_d1 := hkb.get d1
  have tok1 : True := trivial
  go_wp2_with fail
  go_region_held3 (fun w' => w'.cell? ⟨w.heap.size, 0, none⟩ = some (.slice A F.op.length c) ∧ w'.cell? ⟨w.heap.size, 1, none⟩ = some (.slice B F.di.length d) ∧ Kp wb w')
    (first | (refine keepc2 d0 d1 ?_; exact (by repeat (first | with_reducible assumption | with_reducible exact Kp.refl _ | with_reducible refine Kp.drew ?_ | with_reducible refine Kp.alloc ?_ _ | with_reducible refine Kp.drewN ?_ _))) | fail)
    (first
      | (have _t := tok1; go_at_call 75; with_reducible refine Calls.mono (C1.out _ (by repeat (first | with_reducible assumption | with_reducible exact Kp.refl _ | with_reducible refine Kp.drew ?_ | with_reducible refine Kp.alloc ?_ _ | with_reducible refine Kp.drewN ?_ _))) ?_; rintro e wr1 ⟨rfl, hw⟩; obtain rfl := hw; have tok2 : True := trivial; clear tok1 _t)
      | (have _t := tok2; go_at_call 36; with_reducible refine Calls.mono (C2.out _ (by repeat (first | with_reducible assumption | with_reducible exact Kp.refl _ | with_reducible refine Kp.drew ?_ | with_reducible refine Kp.alloc ?_ _ | with_reducible refine Kp.drewN ?_ _))) ?_; rintro e wr2 ⟨rfl, hka⟩; have hr2 : Kp wb wr2 := Kp.trans (by repeat (first | with_reducible assumption | with_reducible exact Kp.refl _ | with_reducible refine Kp.drew ?_ | with_reducible refine Kp.alloc ?_ _ | with_reducible refine Kp.drewN ?_ _)) hka; have tok3 : True := trivial; clear tok2 _t)
      | fail)
  go_wp2_with fail
  go_ret
  exact ⟨ret_int (by rw [hd.out] <;> first | omega | (rw [IntWalk.i64_in _ (by omega)] <;> omega)), hkw.trans hr2⟩
def posB (F : Fld) (xs C : List Int) : Bool := decide (0 < excS F xs C)
/-- The first set of clients whose shares are greater than its cost; none: the set without clients. -/
def ovL (F : Fld) (xs : List Int) : List Int := ((setsL F.di.length).find? (posB F xs)).getD []
theorem setsD_most {F : Fld} (h : goodF F = true) : (setsL F.di.length).length ≤ 127 := by
  have h1 := (goodF_iff.1 h).2.2.1
  rw [setsL_len]
  have : 2 ^ F.di.length ≤ 2 ^ 7 := Nat.pow_le_pow_right (by omega) h1
  omega
theorem setsD_crowd {F : Fld} : ∀ C ∈ setsL F.di.length, crowdB F C = true ∧ C ≠ [] := fun C h => ⟨(mem_setsL.1 h).2, (mem_setsL.1 h).1⟩
theorem find_at {l : List (List Int)} {p : List Int → Bool} {k : Nat} (hk : k < l.length) (h1 : ∀ x ∈ l.take k, p x = false) (h2 : p l[k] = true) : l.find? p = some l[k] := by
  have e : l = l.take k ++ l[k] :: l.drop (k + 1) := by rw [List.getElem_cons_drop, List.take_append_drop]
  conv => lhs; rw [e]
  rw [List.find?_append]
  have : (l.take k).find? p = none := List.find?_eq_none.2 (fun x hx => by simp [h1 x hx])
  rw [this, Option.none_or, List.find?_cons_of_pos h2]
theorem find_no {l : List (List Int)} {p : List Int → Bool} (h1 : ∀ x ∈ l, p x = false) : l.find? p = none := List.find?_eq_none.2 (fun x hx => by simp [h1 x hx])
def coOk (F : Fld) (xs : List Int) : Bool := sharesB F xs && !(ovL F xs).isEmpty
def coL (F : Fld) (xs : List Int) : List Int := if sharesB F xs = true then ovL F xs else []
theorem ov_crowd {F : Fld} {xs : List Int} : crowdB F (ovL F xs) = true := by
  unfold ovL
  cases h : (setsL F.di.length).find? (posB F xs) with
  | none => rfl
  | some C => exact (setsD_crowd C (List.mem_of_find?_eq_some h)).1
theorem coL_len (F : Fld) (xs : List Int) : (coL F xs).length ≤ 1048576 := by
  unfold coL
  by_cases h : sharesB F xs = true
  · rw [if_pos h]
    have h1 := crowd_len (ov_crowd (F := F) (xs := xs))
    have h2 := (goodF_iff.1 (sharesB_iff.1 h).1).2.2.1
    omega
  · rw [if_neg h]; simp
set_option maxRecDepth 100000 in
set_option maxHeartbeats 1000000 in
theorem implCb_any (f : Value) (F : Fld) (A1 : Option Addr) (xs : List Int) (n1 c1 : Nat) (w : World) (hf : FldAt w f F) (h1 : IntsAt w A1 xs) (hn1 : xs.length = n1) :
    Calls Try.prog 22 #[f, .slice A1 n1 c1] w fun e w' => ∃ v, e = .returned (.tuple #[v, .bool (coOk F xs)]) ∧ Own w' w.heap.size v (coL F xs) ∧ Kp w w' := by
  obtain ⟨A, c, B, d, rfl, hA, hB⟩ := hf
  have hk0 : Kp w (w.alloc (.cells #[.slice A F.op.length c, .slice B F.di.length d] 29)) := (Kp.refl w).alloc _
  obtain ⟨d0, d1⟩ := box2 w (.slice A F.op.length c) (.slice B F.di.length d) 29
  have hFA := FldAt.kp (show FldAt w (.agg #[.slice A F.op.length c, .slice B F.di.length d]) F from ⟨A, c, B, d, rfl, hA, hB⟩) hk0
  replace h1 := h1.kp hk0
  have Hn1 := Lib.hid hn1
  clear hA hB hn1
  go_enter Try.func22, Try.ntmps22
  go_wp2_with fail
  have hsz : Hid ((w.alloc (.cells #[.slice A F.op.length c, .slice B F.di.length d] 29)).heap.size = w.heap.size + 1) := by show _ = _; simp
  generalize w.alloc (.cells #[.slice A F.op.length c, .slice B F.di.length d] 29) = wb at *
  have hkb : Kp wb wb := Kp.refl _
  have hkw := hk0
  have CC := Lib.hid (isShared_any _ F A1 xs n1 c1 _ (hFA.kp hkb) (h1.kp hkb) Hn1.out)
  with_reducible refine Calls.mono CC.out ?_
  rintro e w1 ⟨rfl, hk1⟩
  clear CC
  replace hkb := hkb.trans hk1
  cases hg_ : sharesB F xs
  · have Hno : Hid (coOk F xs = false) := by show _ = _; simp [coOk, hg_]
    have Hnl : Hid (coL F xs = []) := by show _ = _; simp [coL, hg_]
    clear hg_
    have q_d0 := hkb.get d0
    have q_d1 := hkb.get d1
    go_wp2_with fail
    go_ret2
    exact ⟨_, by rw [Hno.out]; rfl, by rw [Hnl.out]; exact Own.nil _ _, hkw.trans hkb⟩
  have Hs := Lib.hid hg_; clear hg_
  have HP := Lib.hid (sharesB_iff.1 Hs.out)
  have hd7 := (goodF_iff.1 HP.out.1).2.2.1
  have Hov : Hid (coL F xs = ovL F xs) := by show _ = _; simp [coL, Hs.out]
  have Hok : Hid (coOk F xs = !(ovL F xs).isEmpty) := by show _ = _; simp [coOk, Hs.out]
  have q_d0 := hkb.get d0
  have q_d1 := hkb.get d1
  go_wp2_with fail
  have CC := Lib.hid (sets_any F.di.length w1 hd7)
  with_reducible refine Calls.mono CC.out ?_
  rintro e w2 ⟨v, rfl, hvn, hgo, hk2⟩
  clear CC q_d0 q_d1
  replace hkb := hkb.trans hk2
  obtain ⟨ad, cx, hve, hcx, hrows⟩ := hgo.rows_some (by have := setsD_most HP.out.1; omega) hvn
  subst hve
  clear hgo hvn
  have hw1le := (hkw.trans hk1).le
  obtain ⟨rows, hre⟩ : ∃ rows, rows = setsL F.di.length := ⟨_, rfl⟩
  rw [← hre] at hrows hcx ⊢
  have Hfind : Hid (ovL F xs = (rows.find? (posB F xs)).getD []) := by show _ = _; rw [hre]; rfl
  have Hset : Hid (∀ C ∈ rows, crowdB F C = true ∧ C ≠ []) := by show ∀ C ∈ rows, _; rw [hre]; exact setsD_crowd
  have l1 : rows.length ≤ 127 := by rw [hre]; exact setsD_most HP.out.1
  obtain ⟨m, hml⟩ : ∃ m, m = rows.length := ⟨_, rfl⟩
  rw [← hml] at l1 ⊢
  replace hml := Lib.hid hml
  clear hre
  have g0 := hkb.get d0
  have g1 := hkb.get d1
  have hFl := hFA.kp hkb
  have h1l := h1.kp hkb
  have hkl := hkw.trans hkb
  obtain ⟨wl, rfl⟩ : ∃ wl : World, wl = w2 := ⟨_, rfl⟩
  clear hkb d0 d1 hFA h1
  go_wp2_with fail
  go_loopw [17] (fun iv wr => ∃ k : Nat, k ≤ m ∧ iv = .int .i64 k ∧ Hid (∀ x ∈ rows.take k, posB F xs x = false) ∧ Kp wl wr) (fun iv _ => m - (intOf iv).toNat)
  case atStart => exact ⟨0, by omega, rfl, by show ∀ x ∈ rows.take 0, _; simp, Kp.refl _⟩
  case round =>
    obtain ⟨j, hj, rfl, Hp, hkr⟩ := hrel
    by_cases hlt : j < m
    · have lx : j < rows.length := by rw [← hml.out]; exact hlt
      obtain ⟨A3, c3, hcl, hc3, hri, hrq⟩ := (hrows.kp hkr).some_ lx
      have q1 := Lib.hid (Hset.out _ (List.getElem_mem lx))
      have z0 := hkr.get g0
      have z1 := hkr.get g1
      have q_g0 := hkr.get g0
      have q_g1 := hkr.get g1
      go_wp2_with fail
      have CC := Lib.hid (excess_any _ F A1 xs n1 c1 A3 rows[j] _ c3 _ (hFl.kp hkr) (h1l.kp hkr) Hn1.out hri rfl Hs.out q1.out.1)
      with_reducible refine Calls.mono CC.out ?_
      rintro e w3 ⟨rfl, hk3⟩
      clear CC q_g0 q_g1
      replace hkr := hkr.trans hk3
      replace hri := hri.kp hk3
      replace hrq := hrq.kp hk3
      by_cases hpos : 0 < excS F xs rows[j]
      · have He : Hid (ovL F xs = rows[j]) := by show _ = _; rw [Hfind.out, find_at lx Hp.out (by simp [posB, hpos])]; rfl
        have He2 : Hid (coOk F xs = true) := by
          show _ = _
          rw [Hok.out, He.out]
          have := q1.out.2
          cases h : rows[j] with
          | nil => exact absurd h this
          | cons a t => rfl
        have q_g0 := hkr.get g0
        have q_g1 := hkr.get g1
        go_wp2_with fail
        go_ret2
        exact ⟨_, by rw [He2.out]; rfl, by rw [Hov.out, He.out]; exact (hrq.2 _ rfl).mono hw1le, hkl.trans hkr⟩
      · have Hy : Hid (∀ x ∈ rows.take (j + 1), posB F xs x = false) := by
          show ∀ x ∈ rows.take (j + 1), _
          intro x hx
          rw [List.take_succ_eq_append_getElem lx, List.mem_append] at hx
          rcases hx with hx | hx
          · exact Hp.out x hx
          · have e : x = rows[j] := by simpa using hx
            rw [e]; simp [posB]; omega
        have q_g0 := hkr.get g0
        have q_g1 := hkr.get g1
        go_wp2_with fail
        go_roundw
        case rel => exact ⟨j + 1, by omega, by go_num, Hy, hkr⟩
        case measure => simp [intOf]; omega
    · have He : Hid (ovL F xs = []) := by
        show _ = _
        have h := Hp.out
        rw [List.take_of_length_le (by rw [← hml.out]; omega)] at h
        rw [Hfind.out, find_no h]; rfl
      have He2 : Hid (coOk F xs = false) := by show _ = _; rw [Hok.out, He.out]; rfl
      go_wp2_with fail
      go_ret2
      exact ⟨_, by rw [He2.out]; rfl, by rw [Hov.out, He.out]; exact Own.nil _ _, hkl.trans hkr⟩
end Go.Proofs.Ytcifdadieaccdaa

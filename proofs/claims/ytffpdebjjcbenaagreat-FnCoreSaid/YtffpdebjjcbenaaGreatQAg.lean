/- CostOfClients and CostTable: reference and program; Sums of numbers of some places: reference and program; Core shares: the sets whose shares are greater than their cost; Core shares: the reference's search; The best one is no worse than any; CoreBreak's reference; GreatestExcess. No condition. -/
import Derived.Test.YtffpdebjjcbenaaGreatQAf
import Derived.Test.YtffpdebjjcbenaaGreatQAe
import Derived.Test.YtffpdebjjcbenaaGreatQAd
namespace Go.Proofs.YtffpdebjjcbenaaGreat
open Go.RowKit Go.Sort

def cocOk (F : Fld) (C : List Int) : Bool := goodF F && crowdB F C
def cocR (F : Fld) (C : List Int) : Int := if cocOk F C = true then costF F C else 0
theorem coc_no {F : Fld} {C : List Int} (h : cocOk F C = false) : Ending.returned (.tuple #[.int .i64 0, .bool false]) = .returned (.tuple #[.int .i64 (cocR F C), .bool (cocOk F C)]) := by rw [cocR, h]; rfl
theorem coc_yes {F : Fld} {C : List Int} (h : cocOk F C = true) : Ending.returned (.tuple #[.int .i64 (costF F C), .bool true]) = .returned (.tuple #[.int .i64 (cocR F C), .bool (cocOk F C)]) := by rw [cocR, h, if_pos rfl]
set_option maxRecDepth 100000 in
set_option maxHeartbeats 400000 in
theorem isCrowd_any (f : Value) (F : Fld) (A0 : Option Addr) (C : List Int) (n c0 : Nat) (w : World) (hf : FldAt w f F) (hC : IntsAt w A0 C) (hn : C.length = n) :
    Calls Tryz.prog 33 #[f, .slice A0 n c0] w fun e w' => e = .returned (.bool (goodF F && crowdB F C)) ∧ Kp w w' := by
  obtain ⟨A, c, B, d, rfl, hA, hB⟩ := hf
  have hk0 : Kp w (w.alloc (.cells #[.slice A F.op.length c, .slice B F.di.length d] 27)) := (Kp.refl w).alloc _
  obtain ⟨d0, d1⟩ := box2 w (.slice A F.op.length c) (.slice B F.di.length d) 27
  have hFA := FldAt.kp (show FldAt w (.agg #[.slice A F.op.length c, .slice B F.di.length d]) F from ⟨A, c, B, d, rfl, hA, hB⟩) hk0
  replace hC := hC.kp hk0
  have hdl := hB.1
  have Hn := Lib.hid hn
  clear hA hB hn
  go_enter Tryz.func33, Tryz.ntmps33
  go_wp2_with fail
  have hsz : Hid ((w.alloc (.cells #[.slice A F.op.length c, .slice B F.di.length d] 27)).heap.size = w.heap.size + 1) := by show _ = _; simp
  generalize w.alloc (.cells #[.slice A F.op.length c, .slice B F.di.length d] 27) = wb at *
  have hkb : Kp wb wb := Kp.refl _
  have hkw := hk0
  have CC := Lib.hid (isField_any _ F _ (hFA.kp hkb))
  with_reducible refine Calls.mono CC.out ?_
  rintro e w1 ⟨rfl, hk1⟩
  clear CC
  replace hkb := hkb.trans hk1
  cases hg_ : goodF F
  · have Hg := Lib.hid hg_
    clear hg_
    have q_d0 := hkb.get d0
    have q_d1 := hkb.get d1
    go_wp2_with fail
    go_ret
    exact ⟨ret_bool (by rw [Hg.out]; rfl), hkw.trans hkb⟩
  have Hg := Lib.hid hg_
  clear hg_
  have q_d0 := hkb.get d0
  have q_d1 := hkb.get d1
  go_wp2_with fail
  have CC := Lib.hid (isRising_any A0 C n c0 (F.di.length : Int) _ (hC.kp hkb) Hn.out (by omega) (by omega))
  with_reducible refine Calls.mono CC.out ?_
  rintro e w2 ⟨rfl, hw⟩
  obtain rfl := hw
  clear CC q_d0 q_d1
  have q_d0 := hkb.get d0
  have q_d1 := hkb.get d1
  go_wp2_with fail
  go_ret
  exact ⟨ret_bool (by rw [Hg.out]; rfl), hkw.trans hkb⟩
set_option maxRecDepth 100000 in
set_option maxHeartbeats 400000 in
theorem implCoc_any (f : Value) (F : Fld) (A0 : Option Addr) (C : List Int) (n c0 : Nat) (w : World) (hf : FldAt w f F) (hC : IntsAt w A0 C) (hn : C.length = n) :
    Calls Tryz.prog 13 #[f, .slice A0 n c0] w fun e w' => e = .returned (.tuple #[.int .i64 (cocR F C), .bool (cocOk F C)]) ∧ Kp w w' := by
  obtain ⟨A, c, B, d, rfl, hA, hB⟩ := hf
  have hk0 : Kp w (w.alloc (.cells #[.slice A F.op.length c, .slice B F.di.length d] 27)) := (Kp.refl w).alloc _
  obtain ⟨d0, d1⟩ := box2 w (.slice A F.op.length c) (.slice B F.di.length d) 27
  have hFA := FldAt.kp (show FldAt w (.agg #[.slice A F.op.length c, .slice B F.di.length d]) F from ⟨A, c, B, d, rfl, hA, hB⟩) hk0
  replace hC := hC.kp hk0
  have hdl := hB.1
  have Hn := Lib.hid hn
  clear hA hB hn
  go_enter Tryz.func13, Tryz.ntmps13
  go_wp2_with fail
  have hsz : Hid ((w.alloc (.cells #[.slice A F.op.length c, .slice B F.di.length d] 27)).heap.size = w.heap.size + 1) := by show _ = _; simp
  generalize w.alloc (.cells #[.slice A F.op.length c, .slice B F.di.length d] 27) = wb at *
  have hkb : Kp wb wb := Kp.refl _
  have hkw := hk0
  have CC := Lib.hid (isCrowd_any _ F A0 C n c0 _ (hFA.kp hkb) (hC.kp hkb) Hn.out)
  with_reducible refine Calls.mono CC.out ?_
  rintro e w1 ⟨rfl, hk1⟩
  clear CC
  replace hkb := hkb.trans hk1
  cases hg_ : ((goodF F && crowdB F C))
  · have Hg := Lib.hid hg_; clear hg_
    have q_d0 := hkb.get d0
    have q_d1 := hkb.get d1
    go_wp2_with fail
    go_ret2
    exact ⟨coc_no Hg.out, hkw.trans hkb⟩
  have Hg := Lib.hid hg_; clear hg_
  have HP : Hid (goodF F = true ∧ crowdB F C = true) := by show _ ∧ _; simpa using Hg.out
  have q_d0 := hkb.get d0
  have q_d1 := hkb.get d1
  go_wp2_with fail
  have CC := Lib.hid (costOf_any _ F A0 C n c0 _ (hFA.kp hkb) (hC.kp hkb) Hn.out HP.out.1 HP.out.2)
  with_reducible refine Calls.mono CC.out ?_
  rintro e w2 ⟨rfl, hk2⟩
  clear CC q_d0 q_d1
  replace hkb := hkb.trans hk2
  have q_d0 := hkb.get d0
  have q_d1 := hkb.get d1
  go_wp2_with fail
  go_ret2
  exact ⟨coc_yes Hg.out, hkw.trans hkb⟩

def ctF (F : Fld) (b : Nat) : Int := costF F (bitsL F.di.length b)
def ctL (F : Fld) : List Int := if goodF F = true then mapTo (ctF F) (2 ^ F.di.length) else []
theorem ctL_yes {F : Fld} (h : goodF F = true) : ctL F = mapTo (ctF F) (2 ^ F.di.length) := if_pos h
theorem ctL_no {F : Fld} (h : goodF F = false) : ctL F = [] := if_neg (by simp [h])
theorem ctL_len (F : Fld) : (ctL F).length ≤ 1048576 := by
  by_cases h : goodF F = true
  · rw [ctL_yes h, mapTo_len]
    have := pow7 (goodF_iff.1 h).2.2.1
    omega
  · rw [ctL_no (by simpa using h)]; simp
theorem bitsL_crowd (F : Fld) (b : Nat) : crowdB F (bitsL F.di.length b) = true := bitsL_ris _ _ _ (Int.le_refl _)
set_option maxRecDepth 100000 in
set_option maxHeartbeats 2000000 in
theorem l9Table_any (f : Value) (F : Fld) (w : World) (hf : FldAt w f F) (hg : goodF F = true) :
    Calls Tryz.prog 24 #[f] w fun e w' => ∃ v, e = .returned v ∧ Own w' w.heap.size v (mapTo (ctF F) (2 ^ F.di.length)) ∧ Kp w w' := by
  obtain ⟨A, c, B, d, rfl, hA, hB⟩ := hf
  have hk0 : Kp w (w.alloc (.cells #[.slice A F.op.length c, .slice B F.di.length d] 27)) := (Kp.refl w).alloc _
  obtain ⟨d0, d1⟩ := box2 w (.slice A F.op.length c) (.slice B F.di.length d) 27
  have hFA := FldAt.kp (show FldAt w (.agg #[.slice A F.op.length c, .slice B F.di.length d]) F from ⟨A, c, B, d, rfl, hA, hB⟩) hk0
  have HG := Lib.hid hg
  have hd7 := (goodF_iff.1 hg).2.2.1
  obtain ⟨P, HP, hpw, hP⟩ := pow_wrap (F.di.length : Int) (by omega) (by omega)
  rw [Int.toNat_natCast] at hpw
  have HP' : Hid (P = 2 ^ F.di.length) := by show P = _; simpa using HP.out
  have hpu := u64_one_shl (F.di.length : Int) (by omega) (by omega)
  rw [Int.toNat_natCast, ← HP'.out] at hpu
  clear hA hB hg
  go_enter Tryz.func24, Tryz.ntmps24
  go_wp2_with fail
  have hsz : Hid ((w.alloc (.cells #[.slice A F.op.length c, .slice B F.di.length d] 27)).heap.size = w.heap.size + 1) := by show _ = _; simp
  generalize w.alloc (.cells #[.slice A F.op.length c, .slice B F.di.length d] 27) = wb at *
  have hkb : Kp wb wb := Kp.refl _
  have hkw := hk0
  have hs1 : w.heap.size + 1 ≤ wb.heap.size := Nat.le_of_eq hsz.out.symm
  have ho0 : Own (wb.alloc (.cells #[] 3)) wb.heap.size (.slice (some ⟨w.heap.size + 1, 0, none⟩) 0 0) [] := by
    rw [← hsz.out]; exact own_new0 wb wb.heap.size (Nat.le_refl _)
  replace hkb : Kp wb (wb.alloc (.cells #[] 3)) := (Kp.refl _).alloc _
  go_loopw [3, 4] (fun ov iv wr => ∃ a : Nat, a ≤ P ∧ iv = .int .i64 a ∧ Own wr wb.heap.size ov (mapTo (ctF F) a) ∧ Kp wb wr) (fun _ iv _ => P - (intOf iv).toNat)
  case atStart => exact ⟨0, by omega, rfl, ho0, hkb⟩
  case round =>
    clear ho0 hkb
    obtain ⟨a, ha, rfl, hown, hkb⟩ := hrel
    by_cases hlt : a < P
    · have hlen := Lib.hid (mapTo_len (ctF F) a)
      have hlen2 : (mapTo (ctF F) a).length < 1048576 := by rw [hlen.out]; omega
      have haP : a < 2 ^ F.di.length := by rw [← HP'.out]; exact hlt
      have HPa := Lib.hid haP
      have HS := Lib.hid (bitsL_crowd F a)
      have hbl := bitsL_len F.di.length a
      clear haP
      have C2 := Lib.hid (fun (wx : World) (hx : Kp wb wx) (Av : Option Addr) (cv : Nat) (hv : IntsAt wx Av (bitsL F.di.length a)) => l9Cost_any _ F Av (bitsL F.di.length a) _ cv wx (hFA.kp hx) hv rfl HG.out HS.out)
      have C1 := Lib.hid (l2Bits_any F.di.length a wr.drew (by omega) (by omega))
      have q_d0 := hkb.get d0
      have q_d1 := hkb.get d1
      have tok1 : True := trivial
      go_wp2_with fail
      go_region_held3 (fun w' => w'.cell? ⟨w.heap.size, 0, none⟩ = some (.slice A F.op.length c) ∧ w'.cell? ⟨w.heap.size, 1, none⟩ = some (.slice B F.di.length d) ∧ Kp wb w')
        (first | (refine keepc2 d0 d1 ?_; exact (by repeat (first | with_reducible assumption | with_reducible exact Kp.refl _ | with_reducible refine Kp.drew ?_ | with_reducible refine Kp.alloc ?_ _ | with_reducible refine Kp.drewN ?_ _ | refine Kp.setCell ?_ (by dsimp only; omega) _))) | fail)
        (first
          | (have _t := tok1; go_at_call 32; with_reducible refine Calls.mono (C1.out) ?_; rintro e wr1 ⟨v, rfl, hov, hka⟩; have hr1 : Kp wb wr1 := Kp.trans (by repeat (first | with_reducible assumption | with_reducible exact Kp.refl _ | with_reducible refine Kp.drew ?_ | with_reducible refine Kp.alloc ?_ _ | with_reducible refine Kp.drewN ?_ _ | refine Kp.setCell ?_ (by dsimp only; omega) _)) hka; obtain ⟨Av, cv, hve, hiv⟩ := hov.ints (by omega); subst hve; have hoA := (hown.kp (Kp.refl wr).drew).kp hka; have tok2 : True := trivial; clear tok1 _t)
          | (have _t := tok2; go_at_call 54; with_reducible refine Calls.mono (C2.out _ hr1 Av cv hiv) ?_; rintro e wr2 ⟨rfl, hka⟩; have hr2 : Kp wb wr2 := Kp.trans (by repeat (first | with_reducible assumption | with_reducible exact Kp.refl _ | with_reducible refine Kp.drew ?_ | with_reducible refine Kp.alloc ?_ _ | with_reducible refine Kp.drewN ?_ _ | refine Kp.setCell ?_ (by dsimp only; omega) _)) hka; have hoB := hoA.kp hka; have tok3 : True := trivial; clear tok2 _t)
          | (have _t := tok3; refine step_app (by rfl) (.tmp 14) (.tmp 22) (by rfl) wb.heap.size _ (mapTo (ctF F) a) (ctF F a) _ (by rfl) (by rfl) (by rfl) hoB hr2.le hlen2 ?_; intro v' w' ho' ht' _; have hk4 : Kp wb w' := hoB.kp_turn hr2 (Nat.le_refl _) ht'; have tok4 : True := trivial; clear tok3 _t)
          | fail)
      go_wp2_with fail
      go_roundw
      case rel => exact ⟨a + 1, by omega, by go_num, by rw [mapTo_succ]; exact ho', hk4⟩
      case measure => simp [intOf]; omega
    · obtain rfl : a = P := by omega
      have q_d0 := hkb.get d0
      have q_d1 := hkb.get d1
      go_wp2_with fail
      go_ret
      exact ⟨_, rfl, by rw [← HP'.out]; exact hown.mono hkw.le, hkw.trans hkb⟩
end Go.Proofs.YtffpdebjjcbenaaGreat

namespace Go.Proofs.YtffpdebjjcbenaaGreat
open Go.RowKit Go.Sort

def numAt (xs : List Int) (a : Int) : Int := xs.getD a.toNat 0
def roomTo (xs C : List Int) (k : Nat) : Int := ((C.take k).map (numAt xs)).sum
def roomS (xs C : List Int) : Int := (C.map (numAt xs)).sum
theorem roomTo_succ {xs C : List Int} {k : Nat} (hk : k < C.length) : roomTo xs C (k + 1) = roomTo xs C k + numAt xs C[k] := by
  unfold roomTo
  rw [List.take_succ_eq_append_getElem hk, List.map_append, List.sum_append]; simp
theorem roomTo_all {xs C : List Int} {k : Nat} (hk : C.length ≤ k) : roomTo xs C k = roomS xs C := by
  unfold roomTo roomS
  rw [List.take_of_length_le hk]
theorem numAt_bd {xs : List Int} {M : Int} (hM : 0 ≤ M) (h : ∀ x ∈ xs, -M ≤ x ∧ x ≤ M) (a : Int) : -M ≤ numAt xs a ∧ numAt xs a ≤ M := by
  unfold numAt
  by_cases hk : a.toNat < xs.length
  · have e : xs.getD a.toNat 0 = xs[a.toNat] := by simp [List.getD, hk]
    rw [e]; exact h _ (List.getElem_mem hk)
  · rw [List.getD_eq_getElem?_getD, List.getElem?_eq_none (by omega)]; simp; omega
theorem roomTo_bd {xs C : List Int} {M : Int} (hM : 0 ≤ M) (hM9 : M ≤ 100000) (h : ∀ x ∈ xs, -M ≤ x ∧ x ≤ M) : ∀ k, k ≤ C.length → -(k * 100000) ≤ roomTo xs C k ∧ roomTo xs C k ≤ k * 100000
  | 0, _ => by simp [roomTo]
  | k + 1, hk => by
    have h1 := roomTo_bd (C := C) hM hM9 h k (by omega)
    have h2 := numAt_bd hM h (C[k]'(by omega))
    rw [roomTo_succ (show k < C.length by omega)]; omega
theorem roomS_bd {xs C : List Int} {M : Int} (hM : 0 ≤ M) (hM9 : M ≤ 100000) (h : ∀ x ∈ xs, -M ≤ x ∧ x ≤ M) (hl : C.length ≤ 7) : -700000 ≤ roomS xs C ∧ roomS xs C ≤ 700000 := by
  have := roomTo_bd (C := C) hM hM9 h C.length (Nat.le_refl _)
  rw [roomTo_all (Nat.le_refl _)] at this
  omega
theorem numCell {w : World} {ad : Addr} {xs : List Int} {a : Int} (h : IntsAt w (some ad) xs) (h0 : 0 ≤ a) (h1 : a < xs.length) : w.cell? (ad.add a.toNat) = some (.int .i64 (numAt xs a)) := by
  have hk : a.toNat < xs.length := by omega
  rw [h.some_ hk]
  simp [numAt, List.getD, hk]
theorem l7Room_any (A1 : Option Addr) (xs : List Int) (n1 c1 : Nat) (A2 : Option Addr) (C : List Int) (n c0 : Nat) (M : Int) (w : World) (h1 : IntsAt w A1 xs) (hn1 : xs.length = n1) (h2 : IntsAt w A2 C) (hn : C.length = n) (hc : ∀ x ∈ C, 0 ≤ x ∧ x < n1) (hl : n ≤ 7) (hM : 0 ≤ M) (hM9 : M ≤ 100000) (hb : ∀ x ∈ xs, -M ≤ x ∧ x ≤ M) :
    Calls Tryz.prog 31 #[.slice A1 n1 c1, .slice A2 n c0] w fun e w' => e = .returned (.int .i64 (roomS xs C)) ∧ w = w' := by
  have hm1 : n1 ≤ 9223372036854775807 := hn1 ▸ h1.1
  have Hn1 := Lib.hid hn1; have Hn := Lib.hid hn
  have HC := Lib.hid hc
  have HB := Lib.hid (fun k (hk : k ≤ C.length) => roomTo_bd (C := C) hM hM9 hb k hk)
  have HN := Lib.hid (fun a => numAt_bd hM hb a)
  clear hn1 hn hc hb
  go_enter Tryz.func31, Tryz.ntmps31
  go_wp2_with fail
  go_loop [5, 6] (fun sv iv => ∃ k : Nat, k ≤ n ∧ iv = .int .i64 k ∧ sv = .int .i64 (roomTo xs C k)) (fun _ iv => n - (intOf iv).toNat)
  case atStart => exact ⟨0, by omega, rfl, rfl⟩
  case round =>
    obtain ⟨k, hk, rfl, rfl⟩ := hrel
    by_cases hlt : k < n
    · have lx : k < C.length := by rw [Hn.out]; exact hlt
      obtain ⟨sd, rfl, hck⟩ := h2.at_ lx
      obtain ⟨ha0, ha1⟩ := HC.out _ (List.getElem_mem lx)
      obtain ⟨rd, rfl, _⟩ := h1.at_ (k := 0) (by rw [Hn1.out]; omega)
      have hnc := numCell h1 ha0 (by rw [Hn1.out]; exact ha1)
      have hsu := Lib.hid (roomTo_succ (xs := xs) lx)
      obtain ⟨b1, b2⟩ := HB.out k (Nat.le_of_lt lx)
      obtain ⟨b3, b4⟩ := HN.out C[k]
      generalize numAt xs C[k] = q at *
      generalize roomTo xs C k = p at *
      go_wp2_with fail
      go_round
      case rel => exact ⟨k + 1, by omega, by go_num, by rw [hsu.out] <;> go_num⟩
      case measure => simp [intOf]; omega
    · go_wp2_with fail
      go_ret
      exact ⟨ret_int (by rw [roomTo_all (by rw [Hn.out]; omega)]), rfl⟩
theorem part_any (A1 : Option Addr) (xs : List Int) (n1 c1 : Nat) (A2 : Option Addr) (C : List Int) (n c0 : Nat) (M : Int) (w : World) (h1 : IntsAt w A1 xs) (hn1 : xs.length = n1) (h2 : IntsAt w A2 C) (hn : C.length = n) (hc : ∀ x ∈ C, 0 ≤ x ∧ x < n1) (hl : n ≤ 7) (hM : 0 ≤ M) (hM9 : M ≤ 100000) (hb : ∀ x ∈ xs, -M ≤ x ∧ x ≤ M) :
    Calls Tryz.prog 52 #[.slice A1 n1 c1, .slice A2 n c0] w fun e w' => e = .returned (.int .i64 (roomS xs C)) ∧ w = w' := by
  have hm1 : n1 ≤ 9223372036854775807 := hn1 ▸ h1.1
  have Hn1 := Lib.hid hn1; have Hn := Lib.hid hn
  have HC := Lib.hid hc
  have HB := Lib.hid (fun k (hk : k ≤ C.length) => roomTo_bd (C := C) hM hM9 hb k hk)
  have HN := Lib.hid (fun a => numAt_bd hM hb a)
  clear hn1 hn hc hb
  go_enter Tryz.func52, Tryz.ntmps52
  go_wp2_with fail
  go_loop [5, 10] (fun sv iv => ∃ k : Nat, k ≤ n ∧ iv = .int .i64 k ∧ sv = .int .i64 (roomTo xs C k)) (fun _ iv => n - (intOf iv).toNat)
  case atStart => exact ⟨0, by omega, rfl, rfl⟩
  case round =>
    obtain ⟨k, hk, rfl, rfl⟩ := hrel
    by_cases hlt : k < n
    · have lx : k < C.length := by rw [Hn.out]; exact hlt
      obtain ⟨sd, rfl, hck⟩ := h2.at_ lx
      obtain ⟨ha0, ha1⟩ := HC.out _ (List.getElem_mem lx)
      obtain ⟨rd, rfl, _⟩ := h1.at_ (k := 0) (by rw [Hn1.out]; omega)
      have hnc := numCell h1 ha0 (by rw [Hn1.out]; exact ha1)
      have hsu := Lib.hid (roomTo_succ (xs := xs) lx)
      obtain ⟨b1, b2⟩ := HB.out k (Nat.le_of_lt lx)
      obtain ⟨b3, b4⟩ := HN.out C[k]
      generalize numAt xs C[k] = q at *
      generalize roomTo xs C k = p at *
      go_wp2_with fail
      go_round
      case rel => exact ⟨k + 1, by omega, by go_num, by rw [hsu.out] <;> go_num⟩
      case measure => simp [intOf]; omega
    · go_wp2_with fail
      go_ret
      exact ⟨ret_int (by rw [roomTo_all (by rw [Hn.out]; omega)]), rfl⟩
end Go.Proofs.YtffpdebjjcbenaaGreat

namespace Go.Proofs.YtffpdebjjcbenaaGreat
open Go.RowKit Go.Sort

def sharesB (F : Fld) (xs : List Int) : Bool := goodF F && decide (xs.length = F.di.length) && allB xs (-1400) 1400
theorem sharesB_iff {F : Fld} {xs : List Int} : sharesB F xs = true ↔ goodF F = true ∧ xs.length = F.di.length ∧ ∀ x ∈ xs, -1400 ≤ x ∧ x ≤ 1400 := by
  simp [sharesB, allB_iff, and_assoc]
def excS (F : Fld) (xs C : List Int) : Int := roomS xs C - costF F C
set_option maxRecDepth 100000 in
set_option maxHeartbeats 400000 in
theorem isShared_any (f : Value) (F : Fld) (A1 : Option Addr) (xs : List Int) (n1 c1 : Nat) (w : World) (hf : FldAt w f F) (h1 : IntsAt w A1 xs) (hn1 : xs.length = n1) :
    Calls Tryz.prog 20 #[f, .slice A1 n1 c1] w fun e w' => e = .returned (.bool (sharesB F xs)) ∧ Kp w w' := by
  obtain ⟨A, c, B, d, rfl, hA, hB⟩ := hf
  have hk0 : Kp w (w.alloc (.cells #[.slice A F.op.length c, .slice B F.di.length d] 27)) := (Kp.refl w).alloc _
  obtain ⟨d0, d1⟩ := box2 w (.slice A F.op.length c) (.slice B F.di.length d) 27
  have hFA := FldAt.kp (show FldAt w (.agg #[.slice A F.op.length c, .slice B F.di.length d]) F from ⟨A, c, B, d, rfl, hA, hB⟩) hk0
  replace h1 := h1.kp hk0
  have Hn1 := Lib.hid hn1
  clear hA hB hn1
  go_enter Tryz.func20, Tryz.ntmps20
  go_wp2_with fail
  have hsz : Hid ((w.alloc (.cells #[.slice A F.op.length c, .slice B F.di.length d] 27)).heap.size = w.heap.size + 1) := by show _ = _; simp
  generalize w.alloc (.cells #[.slice A F.op.length c, .slice B F.di.length d] 27) = wb at *
  have hkb : Kp wb wb := Kp.refl _
  have hkw := hk0
  have CC := Lib.hid (isField_any _ F _ (hFA.kp hkb))
  with_reducible refine Calls.mono CC.out ?_
  rintro e w1 ⟨rfl, hk1⟩
  clear CC
  replace hkb := hkb.trans hk1
  cases hg_ : goodF F
  · have Hg : Hid (sharesB F xs = false) := by show _ = _; simp [sharesB, hg_]
    clear hg_
    have q_d0 := hkb.get d0
    have q_d1 := hkb.get d1
    go_wp2_with fail
    go_ret
    exact ⟨ret_bool Hg.out.symm, hkw.trans hkb⟩
  have Hg := Lib.hid hg_; clear hg_
  by_cases hl : n1 = F.di.length
  · have hl2 : ((n1 : Int) == (F.di.length : Int)) = true := by simp [hl]
    have Hl := Lib.hid (show sharesB F xs = allB xs (-1400) 1400 from by simp [sharesB, Hg.out, Hn1.out, hl])
    have q_d0 := hkb.get d0
    have q_d1 := hkb.get d1
    go_wp2_with fail
    have CC := Lib.hid (areBetween_any A1 xs F.di.length c1 (-1400) 1400 _ (h1.kp hkb) (Hn1.out.trans hl))
    with_reducible refine Calls.mono CC.out ?_
    rintro e w2 ⟨rfl, hk2⟩
    clear CC q_d0 q_d1
    replace hkb := hkb.trans hk2
    have q_d0 := hkb.get d0
    have q_d1 := hkb.get d1
    go_wp2_with fail
    go_ret
    exact ⟨ret_bool Hl.out.symm, hkw.trans hkb⟩
  · have hl2 : ((n1 : Int) == (F.di.length : Int)) = false := by simp; omega
    have Hl := Lib.hid (show sharesB F xs = false from by simp [sharesB, Hg.out, Hn1.out, hl])
    have q_d0 := hkb.get d0
    have q_d1 := hkb.get d1
    go_wp2_with fail
    go_ret
    exact ⟨ret_bool Hl.out.symm, hkw.trans hkb⟩
set_option maxRecDepth 100000 in
set_option maxHeartbeats 400000 in
theorem l9Shares_any (f : Value) (F : Fld) (A1 : Option Addr) (xs : List Int) (n1 c1 : Nat) (w : World) (hf : FldAt w f F) (h1 : IntsAt w A1 xs) (hn1 : xs.length = n1) :
    Calls Tryz.prog 23 #[f, .slice A1 n1 c1] w fun e w' => e = .returned (.bool (sharesB F xs)) ∧ Kp w w' := by
  obtain ⟨A, c, B, d, rfl, hA, hB⟩ := hf
  have hk0 : Kp w (w.alloc (.cells #[.slice A F.op.length c, .slice B F.di.length d] 27)) := (Kp.refl w).alloc _
  obtain ⟨d0, d1⟩ := box2 w (.slice A F.op.length c) (.slice B F.di.length d) 27
  have hFA := FldAt.kp (show FldAt w (.agg #[.slice A F.op.length c, .slice B F.di.length d]) F from ⟨A, c, B, d, rfl, hA, hB⟩) hk0
  replace h1 := h1.kp hk0
  have hm1 : n1 ≤ 9223372036854775807 := hn1 ▸ h1.1
  have Hn1 := Lib.hid hn1
  clear hA hB hn1
  go_enter Tryz.func23, Tryz.ntmps23
  go_wp2_with fail
  have hsz : Hid ((w.alloc (.cells #[.slice A F.op.length c, .slice B F.di.length d] 27)).heap.size = w.heap.size + 1) := by show _ = _; simp
  generalize w.alloc (.cells #[.slice A F.op.length c, .slice B F.di.length d] 27) = wb at *
  have hkb : Kp wb wb := Kp.refl _
  have hkw := hk0
  go_loopw [5] (fun iv wr => ∃ k : Nat, k ≤ n1 ∧ iv = .int .i64 k ∧ Hid (∀ x ∈ xs.take k, -1400 ≤ x ∧ x ≤ 1400) ∧ Kp wb wr) (fun iv _ => n1 - (intOf iv).toNat)
  case atStart => exact ⟨0, by omega, rfl, by show ∀ x ∈ xs.take 0, _; simp, Kp.refl _⟩
  case round =>
    clear hkb
    obtain ⟨k, hk, rfl, Hp, hkb⟩ := hrel
    by_cases hlt : k < n1
    · have lx : k < xs.length := by rw [Hn1.out]; exact hlt
      obtain ⟨ad, rfl, hc⟩ := (h1.kp hkb).at_ lx
      have q_d0 := hkb.get d0
      have q_d1 := hkb.get d1
      go_wp2_with fail
      with_reducible refine Calls.mono (l1In_any _ _ _ _) ?_
      rintro e w1 ⟨rfl, hw⟩
      obtain rfl := hw
      clear q_d0 q_d1
      cases hb : inB xs[k] (-1400) 1400
      · have Hno : Hid (sharesB F xs = false) := by
          show _ = _
          have h0 : allB xs (-1400) 1400 = false := by
            cases h : allB xs (-1400) 1400 with
            | false => rfl
            | true =>
              have := allB_iff.1 h _ (List.getElem_mem lx)
              have h3 : inB xs[k] (-1400) 1400 = true := inB_iff.2 this
              rw [hb] at h3; cases h3
          simp [sharesB, h0]
        clear hb
        have q_d0 := hkb.get d0
        have q_d1 := hkb.get d1
        go_wp2_with fail
        go_ret
        exact ⟨ret_bool Hno.out.symm, hkw.trans hkb⟩
      · have hb2 := inB_iff.1 hb
        have Hy : Hid (∀ x ∈ xs.take (k + 1), -1400 ≤ x ∧ x ≤ 1400) := by
          show ∀ x ∈ xs.take (k + 1), _
          intro x hx
          rw [List.take_succ_eq_append_getElem lx, List.mem_append] at hx
          rcases hx with hx | hx
          · exact Hp.out x hx
          · have e : x = xs[k] := by simpa using hx
            rw [e]; exact hb2
        clear hb hb2
        have q_d0 := hkb.get d0
        have q_d1 := hkb.get d1
        go_wp2_with fail
        go_roundw
        case rel => exact ⟨k + 1, by omega, by go_num, Hy, hkb⟩
        case measure => simp [intOf]; omega
    · have Hall : Hid (allB xs (-1400) 1400 = true) := by
        show _ = _
        have := Hp.out
        rw [List.take_of_length_le (by rw [Hn1.out]; omega)] at this
        exact allB_iff.2 this
      have q_d0 := hkb.get d0
      have q_d1 := hkb.get d1
      go_wp2_with fail
      have CC := Lib.hid (l2Good_any _ F _ (hFA.kp hkb))
      with_reducible refine Calls.mono CC.out ?_
      rintro e w2 ⟨rfl, hk2⟩
      clear CC q_d0 q_d1
      replace hkb := hkb.trans hk2
      cases hg_ : goodF F
      · have Hg : Hid (sharesB F xs = false) := by show _ = _; simp [sharesB, hg_]
        clear hg_
        have q_d0 := hkb.get d0
        have q_d1 := hkb.get d1
        go_wp2_with fail
        go_ret
        exact ⟨ret_bool Hg.out.symm, hkw.trans hkb⟩
      have Hg := Lib.hid hg_; clear hg_
      by_cases hl : n1 = F.di.length
      · have hl2 : ((n1 : Int) == (F.di.length : Int)) = true := by simp [hl]
        have Hl := Lib.hid (show sharesB F xs = true from by simp [sharesB, Hg.out, Hn1.out, hl, Hall.out])
        have q_d0 := hkb.get d0
        have q_d1 := hkb.get d1
        go_wp2_with fail
        go_ret
        exact ⟨ret_bool (by rw [Hl.out] <;> first | rfl | exact hl2), hkw.trans hkb⟩
      · have hl2 : ((n1 : Int) == (F.di.length : Int)) = false := by simp; omega
        have Hl := Lib.hid (show sharesB F xs = false from by simp [sharesB, Hg.out, Hn1.out, hl])
        have q_d0 := hkb.get d0
        have q_d1 := hkb.get d1
        go_wp2_with fail
        go_ret
        exact ⟨ret_bool (by rw [Hl.out] <;> first | rfl | exact hl2), hkw.trans hkb⟩
theorem exc_bd {F : Fld} {xs C : List Int} (h : sharesB F xs = true) (hc : crowdB F C = true) : -800000 ≤ excS F xs C ∧ excS F xs C ≤ 800000 ∧ -700000 ≤ roomS xs C ∧ roomS xs C ≤ 700000 ∧ 0 ≤ costF F C ∧ costF F C ≤ 1386 := by
  have hp := sharesB_iff.1 h
  have h7 := (goodF_iff.1 hp.1).2.2.1
  have h1 := roomS_bd (C := C) (M := 1400) (by omega) (by omega) hp.2.2 (by have := crowd_len hc; omega)
  have h2 := cost_bd hp.1 hc
  unfold excS; omega
set_option maxRecDepth 100000 in
set_option maxHeartbeats 400000 in
theorem excess_any (f : Value) (F : Fld) (A1 : Option Addr) (xs : List Int) (n1 c1 : Nat) (A2 : Option Addr) (C : List Int) (n c0 : Nat) (w : World) (hf : FldAt w f F) (h1 : IntsAt w A1 xs) (hn1 : xs.length = n1) (h2 : IntsAt w A2 C) (hn : C.length = n) (hs : sharesB F xs = true) (hc : crowdB F C = true) :
    Calls Tryz.prog 22 #[f, .slice A1 n1 c1, .slice A2 n c0] w fun e w' => e = .returned (.int .i64 (excS F xs C)) ∧ Kp w w' := by
  obtain ⟨A, c, B, d, rfl, hA, hB⟩ := hf
  have hk0 : Kp w (w.alloc (.cells #[.slice A F.op.length c, .slice B F.di.length d] 27)) := (Kp.refl w).alloc _
  obtain ⟨d0, d1⟩ := box2 w (.slice A F.op.length c) (.slice B F.di.length d) 27
  have hFA := FldAt.kp (show FldAt w (.agg #[.slice A F.op.length c, .slice B F.di.length d]) F from ⟨A, c, B, d, rfl, hA, hB⟩) hk0
  replace h1 := h1.kp hk0
  replace h2 := h2.kp hk0
  have hp := sharesB_iff.1 hs
  have h7 := (goodF_iff.1 hp.1).2.2.1
  have hn7 : n ≤ 7 := by have := crowd_len hc; omega
  obtain ⟨e1, e2, e3, e4, e5, e6⟩ := exc_bd hs hc
  have hd : Hid (excS F xs C = roomS xs C - costF F C) := rfl
  have HP := Lib.hid hp
  have Hn1 := Lib.hid hn1; have Hn := Lib.hid hn; have HC := Lib.hid hc
  clear hA hB hn1 hn hs hc hp
  have HM := Lib.hid (crowd_mem HC.out)
  go_enter Tryz.func22, Tryz.ntmps22
  go_wp2_with fail
  have hsz : Hid ((w.alloc (.cells #[.slice A F.op.length c, .slice B F.di.length d] 27)).heap.size = w.heap.size + 1) := by show _ = _; simp
  generalize w.alloc (.cells #[.slice A F.op.length c, .slice B F.di.length d] 27) = wb at *
  have hkb : Kp wb wb := Kp.refl _
  have hkw := hk0
  have C1 := Lib.hid (fun (wx : World) (hx : Kp wb wx) => part_any A1 xs n1 c1 A2 C n c0 1400 wx (h1.kp hx) Hn1.out (h2.kp hx) Hn.out (fun x hx2 => by have := HM.out x hx2; have := HP.out.2.1; have := Hn1.out; omega) hn7 (by omega) (by omega) HP.out.2.2)
  have C2 := Lib.hid (fun (wx : World) (hx : Kp wb wx) => costOf_any _ F A2 C n c0 wx (hFA.kp hx) (h2.kp hx) Hn.out HP.out.1 HC.out)
  generalize roomS xs C = p at *
  generalize costF F C = r at *
  have q_d0 := hkb.get d0
  have q_d1 := hkb.get d1
  have tok1 : True := trivial
  go_wp2_with fail
  go_region_held3 (fun w' => w'.cell? ⟨w.heap.size, 0, none⟩ = some (.slice A F.op.length c) ∧ w'.cell? ⟨w.heap.size, 1, none⟩ = some (.slice B F.di.length d) ∧ Kp wb w')
    (first | (refine keepc2 d0 d1 ?_; exact (by repeat (first | with_reducible assumption | with_reducible exact Kp.refl _ | with_reducible refine Kp.drew ?_ | with_reducible refine Kp.alloc ?_ _ | with_reducible refine Kp.drewN ?_ _ | refine Kp.setCell ?_ (by dsimp only; omega) _))) | fail)
    (first
      | (have _t := tok1; go_at_call 52; with_reducible refine Calls.mono (C1.out _ (by repeat (first | with_reducible assumption | with_reducible exact Kp.refl _ | with_reducible refine Kp.drew ?_ | with_reducible refine Kp.alloc ?_ _ | with_reducible refine Kp.drewN ?_ _ | refine Kp.setCell ?_ (by dsimp only; omega) _))) ?_; rintro e wr1 ⟨rfl, hw⟩; obtain rfl := hw; have tok2 : True := trivial; clear tok1 _t)
      | (have _t := tok2; go_at_call 34; with_reducible refine Calls.mono (C2.out _ (by repeat (first | with_reducible assumption | with_reducible exact Kp.refl _ | with_reducible refine Kp.drew ?_ | with_reducible refine Kp.alloc ?_ _ | with_reducible refine Kp.drewN ?_ _ | refine Kp.setCell ?_ (by dsimp only; omega) _))) ?_; rintro e wr2 ⟨rfl, hka⟩; have hr2 : Kp wb wr2 := Kp.trans (by repeat (first | with_reducible assumption | with_reducible exact Kp.refl _ | with_reducible refine Kp.drew ?_ | with_reducible refine Kp.alloc ?_ _ | with_reducible refine Kp.drewN ?_ _ | refine Kp.setCell ?_ (by dsimp only; omega) _)) hka; have tok3 : True := trivial; clear tok2 _t)
      | fail)
  go_wp2_with fail
  go_ret
  exact ⟨ret_int (by rw [hd.out] <;> first | omega | (rw [IntWalk.i64_in _ (by omega)] <;> omega)), hkw.trans hr2⟩
def posB (F : Fld) (xs C : List Int) : Bool := decide (0 < excS F xs C)
/-- The first set of clients whose shares are greater than its cost; none: the set without clients. -/
def ovL (F : Fld) (xs : List Int) : List Int := ((setsL F.di.length).find? (posB F xs)).getD []
theorem setsD_most {F : Fld} (h : goodF F = true) : (setsL F.di.length).length ≤ 127 := by
  have h1 := (goodF_iff.1 h).2.2.1
  rw [setsL_len]
  have : 2 ^ F.di.length ≤ 2 ^ 7 := Nat.pow_le_pow_right (by omega) h1
  omega
theorem setsD_crowd {F : Fld} : ∀ C ∈ setsL F.di.length, crowdB F C = true ∧ C ≠ [] := fun C h => ⟨(mem_setsL.1 h).2, (mem_setsL.1 h).1⟩
def coOk (F : Fld) (xs : List Int) : Bool := sharesB F xs && !(ovL F xs).isEmpty
def coL (F : Fld) (xs : List Int) : List Int := if sharesB F xs = true then ovL F xs else []
theorem ov_crowd {F : Fld} {xs : List Int} : crowdB F (ovL F xs) = true := by
  unfold ovL
  cases h : (setsL F.di.length).find? (posB F xs) with
  | none => rfl
  | some C => exact (setsD_crowd C (List.mem_of_find?_eq_some h)).1
theorem coL_len (F : Fld) (xs : List Int) : (coL F xs).length ≤ 1048576 := by
  unfold coL
  by_cases h : sharesB F xs = true
  · rw [if_pos h]
    have h1 := crowd_len (ov_crowd (F := F) (xs := xs))
    have h2 := (goodF_iff.1 (sharesB_iff.1 h).1).2.2.1
    omega
  · rw [if_neg h]; simp
set_option maxRecDepth 100000 in
set_option maxHeartbeats 1000000 in
theorem implCb_any (f : Value) (F : Fld) (A1 : Option Addr) (xs : List Int) (n1 c1 : Nat) (w : World) (hf : FldAt w f F) (h1 : IntsAt w A1 xs) (hn1 : xs.length = n1) :
    Calls Tryz.prog 8 #[f, .slice A1 n1 c1] w fun e w' => ∃ v, e = .returned (.tuple #[v, .bool (coOk F xs)]) ∧ Own w' w.heap.size v (coL F xs) ∧ Kp w w' := by
  obtain ⟨A, c, B, d, rfl, hA, hB⟩ := hf
  have hk0 : Kp w (w.alloc (.cells #[.slice A F.op.length c, .slice B F.di.length d] 27)) := (Kp.refl w).alloc _
  obtain ⟨d0, d1⟩ := box2 w (.slice A F.op.length c) (.slice B F.di.length d) 27
  have hFA := FldAt.kp (show FldAt w (.agg #[.slice A F.op.length c, .slice B F.di.length d]) F from ⟨A, c, B, d, rfl, hA, hB⟩) hk0
  replace h1 := h1.kp hk0
  have Hn1 := Lib.hid hn1
  clear hA hB hn1
  go_enter Tryz.func8, Tryz.ntmps8
  go_wp2_with fail
  have hsz : Hid ((w.alloc (.cells #[.slice A F.op.length c, .slice B F.di.length d] 27)).heap.size = w.heap.size + 1) := by show _ = _; simp
  generalize w.alloc (.cells #[.slice A F.op.length c, .slice B F.di.length d] 27) = wb at *
  have hkb : Kp wb wb := Kp.refl _
  have hkw := hk0
  have CC := Lib.hid (isShared_any _ F A1 xs n1 c1 _ (hFA.kp hkb) (h1.kp hkb) Hn1.out)
  with_reducible refine Calls.mono CC.out ?_
  rintro e w1 ⟨rfl, hk1⟩
  clear CC
  replace hkb := hkb.trans hk1
  cases hg_ : sharesB F xs
  · have Hno : Hid (coOk F xs = false) := by show _ = _; simp [coOk, hg_]
    have Hnl : Hid (coL F xs = []) := by show _ = _; simp [coL, hg_]
    clear hg_
    have q_d0 := hkb.get d0
    have q_d1 := hkb.get d1
    go_wp2_with fail
    go_ret2
    exact ⟨_, by rw [Hno.out]; rfl, by rw [Hnl.out]; exact Own.nil _ _, hkw.trans hkb⟩
  have Hs := Lib.hid hg_; clear hg_
  have HP := Lib.hid (sharesB_iff.1 Hs.out)
  have hd7 := (goodF_iff.1 HP.out.1).2.2.1
  have Hov : Hid (coL F xs = ovL F xs) := by show _ = _; simp [coL, Hs.out]
  have Hok : Hid (coOk F xs = !(ovL F xs).isEmpty) := by show _ = _; simp [coOk, Hs.out]
  have q_d0 := hkb.get d0
  have q_d1 := hkb.get d1
  go_wp2_with fail
  have CC := Lib.hid (sets_any F.di.length w1 hd7)
  with_reducible refine Calls.mono CC.out ?_
  rintro e w2 ⟨v, rfl, hvn, hgo, hk2⟩
  clear CC q_d0 q_d1
  replace hkb := hkb.trans hk2
  obtain ⟨ad, cx, hve, hcx, hrows⟩ := hgo.rows_some (by have := setsD_most HP.out.1; omega) hvn
  subst hve
  clear hgo hvn
  have hw1le := (hkw.trans hk1).le
  obtain ⟨rows, hre⟩ : ∃ rows, rows = setsL F.di.length := ⟨_, rfl⟩
  rw [← hre] at hrows hcx ⊢
  have Hfind : Hid (ovL F xs = (rows.find? (posB F xs)).getD []) := by show _ = _; rw [hre]; rfl
  have Hset : Hid (∀ C ∈ rows, crowdB F C = true ∧ C ≠ []) := by show ∀ C ∈ rows, _; rw [hre]; exact setsD_crowd
  have l1 : rows.length ≤ 127 := by rw [hre]; exact setsD_most HP.out.1
  obtain ⟨m, hml⟩ : ∃ m, m = rows.length := ⟨_, rfl⟩
  rw [← hml] at l1 ⊢
  replace hml := Lib.hid hml
  clear hre
  have g0 := hkb.get d0
  have g1 := hkb.get d1
  have hFl := hFA.kp hkb
  have h1l := h1.kp hkb
  have hkl := hkw.trans hkb
  obtain ⟨wl, rfl⟩ : ∃ wl : World, wl = w2 := ⟨_, rfl⟩
  clear hkb d0 d1 hFA h1
  go_wp2_with fail
  go_loopw [17] (fun iv wr => ∃ k : Nat, k ≤ m ∧ iv = .int .i64 k ∧ Hid (∀ x ∈ rows.take k, posB F xs x = false) ∧ Kp wl wr) (fun iv _ => m - (intOf iv).toNat)
  case atStart => exact ⟨0, by omega, rfl, by show ∀ x ∈ rows.take 0, _; simp, Kp.refl _⟩
  case round =>
    obtain ⟨j, hj, rfl, Hp, hkr⟩ := hrel
    by_cases hlt : j < m
    · have lx : j < rows.length := by rw [← hml.out]; exact hlt
      obtain ⟨A3, c3, hcl, hc3, hri, hrq⟩ := (hrows.kp hkr).some_ lx
      have q1 := Lib.hid (Hset.out _ (List.getElem_mem lx))
      have z0 := hkr.get g0
      have z1 := hkr.get g1
      have q_g0 := hkr.get g0
      have q_g1 := hkr.get g1
      go_wp2_with fail
      have CC := Lib.hid (excess_any _ F A1 xs n1 c1 A3 rows[j] _ c3 _ (hFl.kp hkr) (h1l.kp hkr) Hn1.out hri rfl Hs.out q1.out.1)
      with_reducible refine Calls.mono CC.out ?_
      rintro e w3 ⟨rfl, hk3⟩
      clear CC q_g0 q_g1
      replace hkr := hkr.trans hk3
      replace hri := hri.kp hk3
      replace hrq := hrq.kp hk3
      by_cases hpos : 0 < excS F xs rows[j]
      · have He : Hid (ovL F xs = rows[j]) := by show _ = _; rw [Hfind.out, find_at lx Hp.out (by simp [posB, hpos])]; rfl
        have He2 : Hid (coOk F xs = true) := by
          show _ = _
          rw [Hok.out, He.out]
          have := q1.out.2
          cases h : rows[j] with
          | nil => exact absurd h this
          | cons a t => rfl
        have q_g0 := hkr.get g0
        have q_g1 := hkr.get g1
        go_wp2_with fail
        go_ret2
        exact ⟨_, by rw [He2.out]; rfl, by rw [Hov.out, He.out]; exact (hrq.2 _ rfl).mono hw1le, hkl.trans hkr⟩
      · have Hy : Hid (∀ x ∈ rows.take (j + 1), posB F xs x = false) := by
          show ∀ x ∈ rows.take (j + 1), _
          intro x hx
          rw [List.take_succ_eq_append_getElem lx, List.mem_append] at hx
          rcases hx with hx | hx
          · exact Hp.out x hx
          · have e : x = rows[j] := by simpa using hx
            rw [e]; simp [posB]; omega
        have q_g0 := hkr.get g0
        have q_g1 := hkr.get g1
        go_wp2_with fail
        go_roundw
        case rel => exact ⟨j + 1, by omega, by go_num, Hy, hkr⟩
        case measure => simp [intOf]; omega
    · have He : Hid (ovL F xs = []) := by
        show _ = _
        have h := Hp.out
        rw [List.take_of_length_le (by rw [← hml.out]; omega)] at h
        rw [Hfind.out, find_no h]; rfl
      have He2 : Hid (coOk F xs = false) := by show _ = _; rw [Hok.out, He.out]; rfl
      go_wp2_with fail
      go_ret2
      exact ⟨_, by rw [He2.out]; rfl, by rw [Hov.out, He.out]; exact Own.nil _ _, hkl.trans hkr⟩
end Go.Proofs.YtffpdebjjcbenaaGreat

namespace Go.Proofs.YtffpdebjjcbenaaGreat
open Go.RowKit Go.Sort

set_option maxRecDepth 100000 in
set_option maxHeartbeats 2000000 in
theorem l9Over_any (f : Value) (F : Fld) (A1 : Option Addr) (xs : List Int) (n1 c1 : Nat) (w : World) (hf : FldAt w f F) (h1 : IntsAt w A1 xs) (hn1 : xs.length = n1) (hs : sharesB F xs = true) :
    Calls Tryz.prog 26 #[f, .slice A1 n1 c1] w fun e w' => ∃ A c, e = .returned (.slice A (ovL F xs).length c) ∧ Own w' w.heap.size (.slice A (ovL F xs).length c) (ovL F xs) ∧ Kp w w' := by
  obtain ⟨A, c, B, d, rfl, hA, hB⟩ := hf
  have hk0 : Kp w (w.alloc (.cells #[.slice A F.op.length c, .slice B F.di.length d] 27)) := (Kp.refl w).alloc _
  obtain ⟨d0, d1⟩ := box2 w (.slice A F.op.length c) (.slice B F.di.length d) 27
  have hFA := FldAt.kp (show FldAt w (.agg #[.slice A F.op.length c, .slice B F.di.length d]) F from ⟨A, c, B, d, rfl, hA, hB⟩) hk0
  replace h1 := h1.kp hk0
  have Hn1 := Lib.hid hn1
  have Hs := Lib.hid hs
  have HP := Lib.hid (sharesB_iff.1 hs)
  have hd7 := (goodF_iff.1 HP.out.1).2.2.1
  have hP128 : 2 ^ F.di.length ≤ 128 := Nat.pow_le_pow_right (by omega) hd7
  obtain ⟨P, hPe⟩ : ∃ P, P = 2 ^ F.di.length := ⟨_, rfl⟩
  rw [← hPe] at hP128
  replace hPe := Lib.hid hPe
  have hP1 : 1 ≤ P := by rw [hPe.out]; exact Nat.one_le_two_pow
  clear hA hB hn1 hs
  go_enter Tryz.func26, Tryz.ntmps26
  go_wp2_with fail
  have hsz : Hid ((w.alloc (.cells #[.slice A F.op.length c, .slice B F.di.length d] 27)).heap.size = w.heap.size + 1) := by show _ = _; simp
  generalize w.alloc (.cells #[.slice A F.op.length c, .slice B F.di.length d] 27) = wb at *
  have hkb : Kp wb wb := Kp.refl _
  have hkw := hk0
  have ho0 := own_new0 wb w.heap.size (by rw [hsz.out]; exact Nat.le_succ _)
  have hkn := (Kp.refl wb).alloc (.cells #[] 3)
  rw [hsz.out] at ho0
  have CC := Lib.hid (l9Table_any _ F _ (hFA.kp hkn) HP.out.1)
  with_reducible refine Calls.mono CC.out ?_
  rintro e wl ⟨v, rfl, hot, hk1⟩
  clear CC
  rw [← hPe.out] at hot
  obtain ⟨At, ct, hve, hit⟩ := hot.ints (by rw [mapTo_len]; omega)
  subst hve
  have hkl0 := hkn.trans hk1
  have ho1 := RowP.of_own (ho0.kp hk1) (by simp)
  have hFl := hFA.kp hkl0
  have h1l := h1.kp hkl0
  have g0 := hkl0.get d0
  have g1 := hkl0.get d1
  have hkl := hkw.trans hkl0
  have htl := Lib.hid (mapTo_len (ctF F) P)
  obtain ⟨td, rfl, _⟩ := hit.at_ (k := 0) (by rw [htl.out]; omega)
  rw [htl.out]
  clear hot ho0 hkn hk1 hkl0 hFA h1 d0 d1 hkb
  go_wp2_with fail
  go_loopw [5, 7] (fun bv iv wr => ∃ (b : Nat) (best : List Int) (Ab : Option Addr) (cb : Nat), 1 ≤ b ∧ b ≤ P ∧ iv = .int .i64 b ∧ bv = .slice Ab best.length cb ∧ RowP wr (some w.heap.size) (.slice Ab best.length cb) best ∧ Hid (overI F.di.length (posB F xs) (b - 1) best) ∧ Kp wl wr) (fun _ iv _ => P - (intOf iv).toNat)
  case atStart => exact ⟨1, [], _, _, by omega, by omega, rfl, rfl, ho1, over_zero _ _, Kp.refl _⟩
  case round =>
    clear ho1
    obtain ⟨b, best, Ab, cb, hb1, hbP, rfl, rfl, hb, Hov, hkr⟩ := hrel
    by_cases hlt : b < P
    · have hlt2 : b < 2 ^ F.di.length := by rw [← hPe.out]; exact hlt
      have Hlt2 := Lib.hid hlt2
      clear hlt2
      have z1 := hkr.get g1
      have hwr := (hkl.trans hkr).le
      go_wp2_with fail
      have CC := Lib.hid (l2Bits_any F.di.length b wr (by omega) (by omega))
      with_reducible refine Calls.mono CC.out ?_
      rintro e wq ⟨v, rfl, hov, hkq⟩
      clear CC z1
      obtain ⟨As, cs, hve, his⟩ := hov.ints (by have := bitsL_len F.di.length b; omega)
      have hro := Lib.hid ((RowP.of_own hov (by have := bitsL_len F.di.length b; omega)).mono (b' := w.heap.size) hwr)
      subst hve
      have hbl := bitsL_len F.di.length b
      have hbl7 : (bitsL F.di.length b).length ≤ 7 := by omega
      have Hcr := Lib.hid (bitsL_crowd F b)
      have hkq2 := hkr.trans hkq
      have hbq := hb.kp hkq
      obtain ⟨Ab', cb', eb, hcb, hbi⟩ := hbq.read
      simp only [Value.slice.injEq] at eb
      obtain ⟨rfl, _, rfl⟩ := eb
      have hct := (hit.kp hkq2).some_ (k := b) (by rw [htl.out]; exact hlt)
      have e7 : (mapTo (ctF F) P)[b]'(by rw [htl.out]; exact hlt) = costF F (bitsL F.di.length b) := by simp [mapTo, ctF]
      rw [e7] at hct
      have hex : Hid (excS F xs (bitsL F.di.length b) = roomS xs (bitsL F.di.length b) - costF F (bitsL F.di.length b)) := rfl
      have C1 := Lib.hid (fun n => Calls.same_quiet (l7Room_any A1 xs n1 c1 As (bitsL F.di.length b) _ cs 1400 (wq.drewN n) ((h1l.kp hkq2).drewN n) Hn1.out (his.drewN n) rfl (fun x hx => by have := crowd_mem Hcr.out x hx; have := HP.out.2.1; have := Hn1.out; omega) hbl7 (by omega) (by omega) HP.out.2.2))
      have C2 := Lib.hid (fun n => Calls.dr_quiet (l2Before_any As Ab (bitsL F.di.length b) best _ _ cs cb (wq.drewN n) (his.drewN n) rfl (hbi.drewN n) rfl))
      clear hov e7 hbl
      by_cases hgt : costF F (bitsL F.di.length b) < roomS xs (bitsL F.di.length b)
      · have hdec : decide (costF F (bitsL F.di.length b) < roomS xs (bitsL F.di.length b)) = true := by simpa using hgt
        have Hpos : Hid (posB F xs (bitsL F.di.length b) = true) := by show _ = _; simp [posB]; have := hex.out; omega
        by_cases hbe : best = []
        · subst hbe
          have Hy := Lib.hid (over_first' hb1 Hlt2.out Hov.out Hpos.out)
          go_wp2_with fail
          go_quiet (first | exact C1.out _ | exact C2.out _)
          go_wp2_with fail
          go_roundw
          case rel => exact ⟨b + 1, _, As, cs, by omega, by omega, by go_num, rfl, hro.out.kp ((Kp.refl _).drewN nq), Hy, hkq2.drewN nq⟩
          case measure => simp [intOf]; omega
        · have hl0 : ((best.length : Int) == 0) = false := by
            simp only [beq_eq_false_iff_ne, ne_eq]
            intro e
            exact hbe (List.eq_nil_of_length_eq_zero (by omega))
          cases hbf : befB (bitsL F.di.length b) best
          · have Hy := Lib.hid (over_keep' hb1 Hov.out hbe hbf)
            rw [hbf] at C2
            go_wp2_with fail
            go_quiet (first | exact C1.out _ | exact C2.out _)
            go_wp2_with fail
            go_roundw
            case rel => exact ⟨b + 1, best, Ab, cb, by omega, by omega, by go_num, rfl, hbq.kp ((Kp.refl _).drewN nq), Hy, hkq2.drewN nq⟩
            case measure => simp [intOf]; omega
          · have Hy := Lib.hid (over_take' hb1 Hov.out hbe Hpos.out hbf)
            rw [hbf] at C2
            go_wp2_with fail
            go_quiet (first | exact C1.out _ | exact C2.out _)
            go_wp2_with fail
            go_roundw
            case rel => exact ⟨b + 1, _, As, cs, by omega, by omega, by go_num, rfl, hro.out.kp ((Kp.refl _).drewN nq), Hy, hkq2.drewN nq⟩
            case measure => simp [intOf]; omega
      · have hdec : decide (costF F (bitsL F.di.length b) < roomS xs (bitsL F.di.length b)) = false := by simpa using hgt
        have Hy := Lib.hid (over_no' hb1 Hov.out (show posB F xs (bitsL F.di.length b) = false from by simp [posB]; have := hex.out; omega))
        go_wp2_with fail
        go_quiet (first | exact C1.out _ | exact C2.out _)
        go_wp2_with fail
        go_roundw
        case rel => exact ⟨b + 1, best, Ab, cb, by omega, by omega, by go_num, rfl, hbq.kp ((Kp.refl _).drewN nq), Hy, hkq2.drewN nq⟩
        case measure => simp [intOf]; omega
    · have hov := Hov.out
      rw [show b = P by omega, hPe.out] at hov
      have He : Hid (best = ovL F xs) := over_end hov
      go_wp2_with fail
      go_ret
      exact ⟨Ab, cb, by rw [← He.out]; rfl, by rw [← He.out]; exact hb.2 _ rfl, hkl.trans hkr⟩
end Go.Proofs.YtffpdebjjcbenaaGreat

namespace Go.Proofs.YtffpdebjjcbenaaGreat
open Go.RowKit Go.Sort

theorem bestTo_le {v : List Int → Int} {rows : List (List Int)} : ∀ k, k ≤ rows.length → ∀ S ∈ rows.take k, v (bestTo v rows k) ≤ v S
  | 0, _, S, h => by simp at h
  | k + 1, hk, S, h => by
    have hk' : k < rows.length := by omega
    rw [bestTo_succ hk']
    have hstep : v (bestStep v (bestTo v rows k) rows[k]) ≤ v (bestTo v rows k) ∧ v (bestStep v (bestTo v rows k) rows[k]) ≤ v rows[k] := by
      unfold bestStep
      by_cases hlt : v rows[k] < v (bestTo v rows k)
      · rw [if_pos hlt]; omega
      · rw [if_neg hlt]; omega
    rw [List.take_succ_eq_append_getElem hk', List.mem_append] at h
    rcases h with h | h
    · have := bestTo_le (v := v) k (by omega) S h; omega
    · have e : S = rows[k] := by simpa using h
      rw [e]; exact hstep.2
theorem bestL_le {v : List Int → Int} {rows : List (List Int)} : ∀ S ∈ rows, v (bestL v rows) ≤ v S := fun S h => by
  rw [← bestTo_all]
  exact bestTo_le _ (Nat.le_refl _) S (by rw [List.take_length]; exact h)
end Go.Proofs.YtffpdebjjcbenaaGreat

namespace Go.Proofs.YtffpdebjjcbenaaGreat
open Go.RowKit Go.Sort

set_option maxRecDepth 100000 in
set_option maxHeartbeats 400000 in
theorem specCb_any (f : Value) (F : Fld) (A1 : Option Addr) (xs : List Int) (n1 c1 : Nat) (w : World) (hf : FldAt w f F) (h1 : IntsAt w A1 xs) (hn1 : xs.length = n1) :
    Calls Tryz.prog 9 #[f, .slice A1 n1 c1] w fun e w' => ∃ v, e = .returned (.tuple #[v, .bool (coOk F xs)]) ∧ Own w' w.heap.size v (coL F xs) ∧ Kp w w' := by
  obtain ⟨A, c, B, d, rfl, hA, hB⟩ := hf
  have hk0 : Kp w (w.alloc (.cells #[.slice A F.op.length c, .slice B F.di.length d] 27)) := (Kp.refl w).alloc _
  obtain ⟨d0, d1⟩ := box2 w (.slice A F.op.length c) (.slice B F.di.length d) 27
  have hFA := FldAt.kp (show FldAt w (.agg #[.slice A F.op.length c, .slice B F.di.length d]) F from ⟨A, c, B, d, rfl, hA, hB⟩) hk0
  replace h1 := h1.kp hk0
  have Hn1 := Lib.hid hn1
  clear hA hB hn1
  go_enter Tryz.func9, Tryz.ntmps9
  go_wp2_with fail
  have hsz : Hid ((w.alloc (.cells #[.slice A F.op.length c, .slice B F.di.length d] 27)).heap.size = w.heap.size + 1) := by show _ = _; simp
  generalize w.alloc (.cells #[.slice A F.op.length c, .slice B F.di.length d] 27) = wb at *
  have hkb : Kp wb wb := Kp.refl _
  have hkw := hk0
  have CC := Lib.hid (l9Shares_any _ F A1 xs n1 c1 _ (hFA.kp hkb) (h1.kp hkb) Hn1.out)
  with_reducible refine Calls.mono CC.out ?_
  rintro e w1 ⟨rfl, hk1⟩
  clear CC
  replace hkb := hkb.trans hk1
  cases hg_ : sharesB F xs
  · have Hno : Hid (coOk F xs = false) := by show _ = _; simp [coOk, hg_]
    have Hnl : Hid (coL F xs = []) := by show _ = _; simp [coL, hg_]
    clear hg_
    have q_d0 := hkb.get d0
    have q_d1 := hkb.get d1
    go_wp2_with fail
    go_ret2
    exact ⟨_, by rw [Hno.out]; rfl, by rw [Hnl.out]; exact own_new0 w1 w.heap.size (hkw.trans hkb).le, (hkw.trans hkb).alloc _⟩
  have Hs := Lib.hid hg_; clear hg_
  have Hov : Hid (coL F xs = ovL F xs) := by show _ = _; simp [coL, Hs.out]
  have Hok : Hid (coOk F xs = !(ovL F xs).isEmpty) := by show _ = _; simp [coOk, Hs.out]
  have q_d0 := hkb.get d0
  have q_d1 := hkb.get d1
  go_wp2_with fail
  have CC := Lib.hid (l9Over_any _ F A1 xs n1 c1 _ (hFA.kp hkb) (h1.kp hkb) Hn1.out Hs.out)
  with_reducible refine Calls.mono CC.out ?_
  rintro e w2 ⟨As, cs, rfl, ho, hk2⟩
  clear CC q_d0 q_d1
  replace hkb := hkb.trans hk2
  have ho2 := Lib.hid (ho.mono (hkw.trans hk1).le)
  by_cases he : (ovL F xs).length = 0
  · have He2 : Hid (coOk F xs = false) := by show _ = _; rw [Hok.out, List.eq_nil_of_length_eq_zero he]; rfl
    have hz : ¬ (0 : Int) < ((ovL F xs).length : Int) := by omega
    clear he
    have q_d0 := hkb.get d0
    have q_d1 := hkb.get d1
    go_wp2_with fail
    go_ret2
    exact ⟨.slice As (ovL F xs).length cs, by rw [He2.out]; exact congrArg (fun t => Ending.returned (.tuple #[.slice As (ovL F xs).length cs, .bool t])) (decide_eq_false (by omega)), by rw [Hov.out]; exact ho2.out, hkw.trans hkb⟩
  · have He2 : Hid (coOk F xs = true) := by
      show _ = _
      rw [Hok.out]
      cases h : ovL F xs with
      | nil => rw [h] at he; exact absurd rfl he
      | cons a t => rfl
    have hz : (0 : Int) < ((ovL F xs).length : Int) := by omega
    clear he
    have q_d0 := hkb.get d0
    have q_d1 := hkb.get d1
    go_wp2_with fail
    go_ret2
    exact ⟨.slice As (ovL F xs).length cs, by rw [He2.out]; exact congrArg (fun t => Ending.returned (.tuple #[.slice As (ovL F xs).length cs, .bool t])) (decide_eq_true (by omega)), by rw [Hov.out]; exact ho2.out, hkw.trans hkb⟩
def negE (F : Fld) (xs C : List Int) : Int := -excS F xs C
def geOk (F : Fld) (xs : List Int) : Bool := sharesB F xs && !xs.isEmpty
def geS (F : Fld) (xs : List Int) : List Int := bestL (negE F xs) (setsL F.di.length)
def geR (F : Fld) (xs : List Int) : Int := if geOk F xs = true then excS F xs (geS F xs) else 0
theorem ge_no {F : Fld} {xs : List Int} (h : geOk F xs = false) : Ending.returned (.tuple #[.int .i64 0, .bool false]) = .returned (.tuple #[.int .i64 (geR F xs), .bool (geOk F xs)]) := by rw [geR, h]; rfl
theorem ge_yes {F : Fld} {xs : List Int} {q : Int} (h : geOk F xs = true) (e : q = excS F xs (geS F xs)) : Ending.returned (.tuple #[.int .i64 q, .bool true]) = .returned (.tuple #[.int .i64 (geR F xs), .bool (geOk F xs)]) := by rw [geR, h, if_pos rfl, e]
theorem setsD_pos {n : Nat} (h : 0 < n) : 0 < (setsL n).length := by
  rw [setsL_len]
  have : 2 ^ 1 ≤ 2 ^ n := Nat.pow_le_pow_right (by omega) h
  omega
/-- The greatest excess, whoever gathers it. -/
theorem ge_is {F : Fld} {xs : List Int} {q : Int} (h0 : 0 < F.di.length) (h1 : ∃ S ∈ codesL F.di.length, q = excS F xs S) (h2 : ∀ S ∈ codesL F.di.length, excS F xs S ≤ q) : q = excS F xs (geS F xs) := by
  obtain ⟨S, hS, rfl⟩ := h1
  have h3 := bestL_le (v := negE F xs) S ((setsL_perm _).mem_iff.2 hS)
  have h4 := h2 _ ((setsL_perm _).mem_iff.1 (bestL_mem (v := negE F xs) (setsD_pos h0)))
  unfold negE at h3
  have h5 : excS F xs (bestL (negE F xs) (setsL F.di.length)) = excS F xs (geS F xs) := rfl
  unfold geS negE at *
  omega
set_option maxHeartbeats 400000 in
theorem geClo_any (F : Fld) (A : Option Addr) (c : Nat) (B : Option Addr) (d : Nat) (p q : Nat) (A1 : Option Addr) (xs : List Int) (n1 c1 : Nat) (w : World) (hf : FldAt w (.agg #[.slice A F.op.length c, .slice B F.di.length d]) F) (x0 : w.cell? ⟨p, 0, none⟩ = some (.slice A F.op.length c)) (x1 : w.cell? ⟨p, 1, none⟩ = some (.slice B F.di.length d)) (y0 : w.cell? ⟨q, 0, none⟩ = some (.slice A1 n1 c1)) (h1 : IntsAt w A1 xs) (hn1 : xs.length = n1)
    (Av : Option Addr) (S : List Int) (n cv : Nat) (hS : IntsAt w Av S) (hn : S.length = n) (hs : sharesB F xs = true) (hc : crowdB F S = true) :
    Calls Tryz.prog 29 #[.slice Av n cv, .pointer (some ⟨p, 0, none⟩), .pointer (some ⟨q, 0, none⟩)] w fun e w' => e = .returned (.int .i64 (negE F xs S)) ∧ Kp w w' := by
  have CC := Lib.hid (excess_any _ F A1 xs n1 c1 Av S n cv w hf h1 hn1 hS hn hs hc)
  obtain ⟨b1, b2, _⟩ := exc_bd hs hc
  have hd : Hid (negE F xs S = -excS F xs S) := rfl
  generalize excS F xs S = g at *
  clear hf hS hn hs hc h1 hn1
  go_enter Tryz.func29, Tryz.ntmps29
  go_wp2_with fail
  with_reducible refine Calls.mono CC.out ?_
  rintro e w1 ⟨rfl, hk1⟩
  clear CC
  go_wp2_with fail
  go_ret
  exact ⟨ret_int (by rw [hd.out] <;> first | omega | (rw [IntWalk.i64_in _ (by omega)] <;> omega)), hk1⟩
set_option maxRecDepth 100000 in
set_option maxHeartbeats 1000000 in
theorem implGe_any (f : Value) (F : Fld) (A1 : Option Addr) (xs : List Int) (n1 c1 : Nat) (w : World) (hf : FldAt w f F) (h1 : IntsAt w A1 xs) (hn1 : xs.length = n1) :
    Calls Tryz.prog 10 #[f, .slice A1 n1 c1] w fun e w' => e = .returned (.tuple #[.int .i64 (geR F xs), .bool (geOk F xs)]) ∧ Kp w w' := by
  obtain ⟨A, c, B, d, rfl, hA, hB⟩ := hf
  have hk0 : Kp w ((w.alloc (.cells #[.slice A F.op.length c, .slice B F.di.length d] 27)).alloc (.cells #[.slice A1 n1 c1] 24)) := ((Kp.refl w).alloc _).alloc _
  obtain ⟨d0, d1⟩ := box2 w (.slice A F.op.length c) (.slice B F.di.length d) 27
  have hFA := FldAt.kp (show FldAt w (.agg #[.slice A F.op.length c, .slice B F.di.length d]) F from ⟨A, c, B, d, rfl, hA, hB⟩) hk0
  replace d0 := ((Kp.refl _).alloc (.cells #[.slice A1 n1 c1] 24)).get d0
  replace d1 := ((Kp.refl _).alloc (.cells #[.slice A1 n1 c1] 24)).get d1
  have d2 : ((w.alloc (.cells #[.slice A F.op.length c, .slice B F.di.length d] 27)).alloc (.cells #[.slice A1 n1 c1] 24)).cell? ⟨w.heap.size + 1, 0, none⟩ = some (.slice A1 n1 c1) := by
    rw [World.cell?_alloc_at _ _ _ _ (by simp)]; rfl
  replace h1 := h1.kp hk0
  have Hn1 := Lib.hid hn1
  clear hA hB hn1
  go_enter Tryz.func10, Tryz.ntmps10
  go_wp2_with fail
  generalize (w.alloc (.cells #[.slice A F.op.length c, .slice B F.di.length d] 27)).alloc (.cells #[.slice A1 n1 c1] 24) = wb at *
  have hkb : Kp wb wb := Kp.refl _
  have CC := Lib.hid (isShared_any _ F A1 xs n1 c1 _ (hFA.kp hkb) (h1.kp hkb) Hn1.out)
  with_reducible refine Calls.mono CC.out ?_
  rintro e w1 ⟨rfl, hk1⟩
  clear CC
  replace hkb := hkb.trans hk1
  cases hg_ : sharesB F xs
  · have Hno : Hid (geOk F xs = false) := by show _ = _; simp [geOk, hg_]
    clear hg_
    have q_d0 := hkb.get d0
    have q_d1 := hkb.get d1
    have q_d2 := hkb.get d2
    go_wp2_with fail
    go_ret2
    exact ⟨ge_no Hno.out, hk0.trans hkb⟩
  have Hs := Lib.hid hg_; clear hg_
  have HP := Lib.hid (sharesB_iff.1 Hs.out)
  have hd7 := (goodF_iff.1 HP.out.1).2.2.1
  by_cases h0 : n1 = 0
  · have Hno : Hid (geOk F xs = false) := by show _ = _; simp [geOk, List.eq_nil_of_length_eq_zero (Hn1.out.trans h0)]
    have h02 : ((n1 : Int) == 0) = true := by simp [h0]
    have q_d0 := hkb.get d0
    have q_d1 := hkb.get d1
    have q_d2 := hkb.get d2
    go_wp2_with fail
    go_ret2
    exact ⟨ge_no Hno.out, hk0.trans hkb⟩
  have hne : xs ≠ [] := fun e => by have := Hn1.out; rw [e] at this; simp at this; omega
  have Hok : Hid (geOk F xs = true) := by
    show _ = _
    simp only [geOk, Hs.out, Bool.true_and]
    cases h : xs with
    | nil => exact absurd h hne
    | cons a t => rfl
  have h02 : ((n1 : Int) == 0) = false := by simp; omega
  have Hpos : Hid (0 < (setsL F.di.length).length) := setsD_pos (by have := HP.out.2.1; have := Hn1.out; omega)
  have Hcr : Hid (crowdB F (geS F xs) = true) := (setsD_crowd _ (bestL_mem Hpos.out)).1
  have Hmost := Lib.hid (setsD_most HP.out.1)
  clear hne h0
  have q_d0 := hkb.get d0
  have q_d1 := hkb.get d1
  have q_d2 := hkb.get d2
  go_wp2_with fail
  have CC := Lib.hid (sets_any F.di.length w1 hd7)
  with_reducible refine Calls.mono CC.out ?_
  rintro e w2 ⟨v, rfl, hvn, hgo, hk2⟩
  clear CC q_d0 q_d1 q_d2
  replace hkb := hkb.trans hk2
  obtain ⟨ad, cx, hve, hcx, hrows⟩ := hgo.rows_some (by have := Hmost.out; omega) hvn
  subst hve
  clear hgo hvn
  have hv : Val 29 #[] #[.pointer (some ⟨w.heap.size, 0, none⟩), .pointer (some ⟨w.heap.size + 1, 0, none⟩)] (negE F xs) (fun S => crowdB F S = true) w2 :=
    ⟨callFunc_of Tryz.func29 (by kernel_rfl) (by kernel_rfl), fun S Av cv w' hk hq hi _ => geClo_any F A c B d w.heap.size (w.heap.size + 1) A1 xs n1 c1 w' (hFA.kp (hkb.trans hk)) ((hkb.trans hk).get d0) ((hkb.trans hk).get d1) ((hkb.trans hk).get d2) (h1.kp (hkb.trans hk)) Hn1.out Av S S.length cv hi rfl Hs.out hq⟩
  have HV := Lib.hid hv
  clear hv
  have q_d0 := hkb.get d0
  have q_d1 := hkb.get d1
  have q_d2 := hkb.get d2
  go_wp2_with fail
  have CC := Lib.hid (least_any 29 #[] #[.pointer (some ⟨w.heap.size, 0, none⟩), .pointer (some ⟨w.heap.size + 1, 0, none⟩)] (negE F xs) (fun S => crowdB F S = true) _ _ (setsL F.di.length) _ cx _ hrows rfl Hpos.out HV.out (fun S hS => (setsD_crowd S hS).1))
  with_reducible refine Calls.mono CC.out ?_
  rintro e w3 ⟨u, rfl, hu, hk3⟩
  clear CC q_d0 q_d1 q_d2
  replace hkb := hkb.trans hk3
  obtain ⟨As, cs, rfl, _, hus⟩ := hu.read
  have q_d0 := hkb.get d0
  have q_d1 := hkb.get d1
  have q_d2 := hkb.get d2
  go_wp2_with fail
  have CC := Lib.hid (excess_any _ F A1 xs n1 c1 As (bestL (negE F xs) (setsL F.di.length)) _ cs _ (hFA.kp hkb) (h1.kp hkb) Hn1.out hus rfl Hs.out Hcr.out)
  with_reducible refine Calls.mono CC.out ?_
  rintro e w4 ⟨rfl, hk4⟩
  clear CC q_d0 q_d1 q_d2
  replace hkb := hkb.trans hk4
  have q_d0 := hkb.get d0
  have q_d1 := hkb.get d1
  have q_d2 := hkb.get d2
  go_wp2_with fail
  go_ret2
  exact ⟨ge_yes Hok.out rfl, hk0.trans hkb⟩
end Go.Proofs.YtffpdebjjcbenaaGreat

/- CoreBreak's reference; GreatestExcess. No condition. -/
import Derived.Test.YtcifdadieaccdaaCore2
namespace Go.Proofs.Ytcifdadieaccdaa
open Go.RowKit Go.Sort

set_option maxRecDepth 100000 in
set_option maxHeartbeats 400000 in
theorem specCb_any (f : Value) (F : Fld) (A1 : Option Addr) (xs : List Int) (n1 c1 : Nat) (w : World) (hf : FldAt w f F) (h1 : IntsAt w A1 xs) (hn1 : xs.length = n1) :
    Calls Try.prog 21 #[f, .slice A1 n1 c1] w fun e w' => ∃ v, e = .returned (.tuple #[v, .bool (coOk F xs)]) ∧ Own w' w.heap.size v (coL F xs) ∧ Kp w w' := by
  obtain ⟨A, c, B, d, rfl, hA, hB⟩ := hf
  have hk0 : Kp w (w.alloc (.cells #[.slice A F.op.length c, .slice B F.di.length d] 29)) := (Kp.refl w).alloc _
  obtain ⟨d0, d1⟩ := box2 w (.slice A F.op.length c) (.slice B F.di.length d) 29
  have hFA := FldAt.kp (show FldAt w (.agg #[.slice A F.op.length c, .slice B F.di.length d]) F from ⟨A, c, B, d, rfl, hA, hB⟩) hk0
  replace h1 := h1.kp hk0
  have Hn1 := Lib.hid hn1
  clear hA hB hn1
  go_enter Try.func21, Try.ntmps21
  go_wp2_with fail
  have hsz : Hid ((w.alloc (.cells #[.slice A F.op.length c, .slice B F.di.length d] 29)).heap.size = w.heap.size + 1) := by show _ = _; simp
  generalize w.alloc (.cells #[.slice A F.op.length c, .slice B F.di.length d] 29) = wb at *
  have hkb : Kp wb wb := Kp.refl _
  have hkw := hk0
  have CC := Lib.hid (l9Shares_any _ F A1 xs n1 c1 _ (hFA.kp hkb) (h1.kp hkb) Hn1.out)
  with_reducible refine Calls.mono CC.out ?_
  rintro e w1 ⟨rfl, hk1⟩
  clear CC
  replace hkb := hkb.trans hk1
  cases hg_ : sharesB F xs
  · have Hno : Hid (coOk F xs = false) := by show _ = _; simp [coOk, hg_]
    have Hnl : Hid (coL F xs = []) := by show _ = _; simp [coL, hg_]
    clear hg_
    have q_d0 := hkb.get d0
    have q_d1 := hkb.get d1
    go_wp2_with fail
    go_ret2
    exact ⟨_, by rw [Hno.out]; rfl, by rw [Hnl.out]; exact own_new0 w1 w.heap.size (hkw.trans hkb).le, (hkw.trans hkb).alloc _⟩
  have Hs := Lib.hid hg_; clear hg_
  have Hov : Hid (coL F xs = ovL F xs) := by show _ = _; simp [coL, Hs.out]
  have Hok : Hid (coOk F xs = !(ovL F xs).isEmpty) := by show _ = _; simp [coOk, Hs.out]
  have q_d0 := hkb.get d0
  have q_d1 := hkb.get d1
  go_wp2_with fail
  have CC := Lib.hid (l9Over_any _ F A1 xs n1 c1 _ (hFA.kp hkb) (h1.kp hkb) Hn1.out Hs.out)
  with_reducible refine Calls.mono CC.out ?_
  rintro e w2 ⟨As, cs, rfl, ho, hk2⟩
  clear CC q_d0 q_d1
  replace hkb := hkb.trans hk2
  have ho2 := Lib.hid (ho.mono (hkw.trans hk1).le)
  by_cases he : (ovL F xs).length = 0
  · have He2 : Hid (coOk F xs = false) := by show _ = _; rw [Hok.out, List.eq_nil_of_length_eq_zero he]; rfl
    have hz : ¬ (0 : Int) < ((ovL F xs).length : Int) := by omega
    clear he
    have q_d0 := hkb.get d0
    have q_d1 := hkb.get d1
    go_wp2_with fail
    go_ret2
    exact ⟨.slice As (ovL F xs).length cs, by rw [He2.out]; exact congrArg (fun t => Ending.returned (.tuple #[.slice As (ovL F xs).length cs, .bool t])) (decide_eq_false (by omega)), by rw [Hov.out]; exact ho2.out, hkw.trans hkb⟩
  · have He2 : Hid (coOk F xs = true) := by
      show _ = _
      rw [Hok.out]
      cases h : ovL F xs with
      | nil => rw [h] at he; exact absurd rfl he
      | cons a t => rfl
    have hz : (0 : Int) < ((ovL F xs).length : Int) := by omega
    clear he
    have q_d0 := hkb.get d0
    have q_d1 := hkb.get d1
    go_wp2_with fail
    go_ret2
    exact ⟨.slice As (ovL F xs).length cs, by rw [He2.out]; exact congrArg (fun t => Ending.returned (.tuple #[.slice As (ovL F xs).length cs, .bool t])) (decide_eq_true (by omega)), by rw [Hov.out]; exact ho2.out, hkw.trans hkb⟩
def negE (F : Fld) (xs C : List Int) : Int := -excS F xs C
def geOk (F : Fld) (xs : List Int) : Bool := sharesB F xs && !xs.isEmpty
def geS (F : Fld) (xs : List Int) : List Int := bestL (negE F xs) (setsL F.di.length)
def geR (F : Fld) (xs : List Int) : Int := if geOk F xs = true then excS F xs (geS F xs) else 0
theorem ge_no {F : Fld} {xs : List Int} (h : geOk F xs = false) : Ending.returned (.tuple #[.int .i64 0, .bool false]) = .returned (.tuple #[.int .i64 (geR F xs), .bool (geOk F xs)]) := by rw [geR, h]; rfl
theorem ge_yes {F : Fld} {xs : List Int} {q : Int} (h : geOk F xs = true) (e : q = excS F xs (geS F xs)) : Ending.returned (.tuple #[.int .i64 q, .bool true]) = .returned (.tuple #[.int .i64 (geR F xs), .bool (geOk F xs)]) := by rw [geR, h, if_pos rfl, e]
theorem setsD_pos {n : Nat} (h : 0 < n) : 0 < (setsL n).length := by
  rw [setsL_len]
  have : 2 ^ 1 ≤ 2 ^ n := Nat.pow_le_pow_right (by omega) h
  omega
theorem bestTo_le {v : List Int → Int} {rows : List (List Int)} : ∀ k, k ≤ rows.length → ∀ S ∈ rows.take k, v (bestTo v rows k) ≤ v S
  | 0, _, S, h => by simp at h
  | k + 1, hk, S, h => by
    have hk' : k < rows.length := by omega
    rw [bestTo_succ hk']
    have hstep : v (bestStep v (bestTo v rows k) rows[k]) ≤ v (bestTo v rows k) ∧ v (bestStep v (bestTo v rows k) rows[k]) ≤ v rows[k] := by
      unfold bestStep
      by_cases hlt : v rows[k] < v (bestTo v rows k)
      · rw [if_pos hlt]; omega
      · rw [if_neg hlt]; omega
    rw [List.take_succ_eq_append_getElem hk', List.mem_append] at h
    rcases h with h | h
    · have := bestTo_le (v := v) k (by omega) S h; omega
    · have e : S = rows[k] := by simpa using h
      rw [e]; exact hstep.2
theorem bestL_le {v : List Int → Int} {rows : List (List Int)} : ∀ S ∈ rows, v (bestL v rows) ≤ v S := fun S h => by
  rw [← bestTo_all]
  exact bestTo_le _ (Nat.le_refl _) S (by rw [List.take_length]; exact h)
/-- The greatest excess, whoever gathers it. -/
theorem ge_is {F : Fld} {xs : List Int} {q : Int} (h0 : 0 < F.di.length) (h1 : ∃ S ∈ codesL F.di.length, q = excS F xs S) (h2 : ∀ S ∈ codesL F.di.length, excS F xs S ≤ q) : q = excS F xs (geS F xs) := by
  obtain ⟨S, hS, rfl⟩ := h1
  have h3 := bestL_le (v := negE F xs) S ((setsL_perm _).mem_iff.2 hS)
  have h4 := h2 _ ((setsL_perm _).mem_iff.1 (bestL_mem (v := negE F xs) (setsD_pos h0)))
  unfold negE at h3
  have h5 : excS F xs (bestL (negE F xs) (setsL F.di.length)) = excS F xs (geS F xs) := rfl
  unfold geS negE at *
  omega
set_option maxHeartbeats 400000 in
theorem geClo_any (F : Fld) (A : Option Addr) (c : Nat) (B : Option Addr) (d : Nat) (p q : Nat) (A1 : Option Addr) (xs : List Int) (n1 c1 : Nat) (w : World) (hf : FldAt w (.agg #[.slice A F.op.length c, .slice B F.di.length d]) F) (x0 : w.cell? ⟨p, 0, none⟩ = some (.slice A F.op.length c)) (x1 : w.cell? ⟨p, 1, none⟩ = some (.slice B F.di.length d)) (y0 : w.cell? ⟨q, 0, none⟩ = some (.slice A1 n1 c1)) (h1 : IntsAt w A1 xs) (hn1 : xs.length = n1)
    (Av : Option Addr) (S : List Int) (n cv : Nat) (hS : IntsAt w Av S) (hn : S.length = n) (hs : sharesB F xs = true) (hc : crowdB F S = true) :
    Calls Try.prog 51 #[.slice Av n cv, .pointer (some ⟨p, 0, none⟩), .pointer (some ⟨q, 0, none⟩)] w fun e w' => e = .returned (.int .i64 (negE F xs S)) ∧ Kp w w' := by
  have CC := Lib.hid (excess_any _ F A1 xs n1 c1 Av S n cv w hf h1 hn1 hS hn hs hc)
  obtain ⟨b1, b2, _⟩ := exc_bd hs hc
  have hd : Hid (negE F xs S = -excS F xs S) := rfl
  generalize excS F xs S = g at *
  clear hf hS hn hs hc h1 hn1
  go_enter Try.func51, Try.ntmps51
  go_wp2_with fail
  with_reducible refine Calls.mono CC.out ?_
  rintro e w1 ⟨rfl, hk1⟩
  clear CC
  go_wp2_with fail
  go_ret
  exact ⟨ret_int (by rw [hd.out] <;> first | omega | (rw [IntWalk.i64_in _ (by omega)] <;> omega)), hk1⟩
set_option maxRecDepth 100000 in
set_option maxHeartbeats 1000000 in
theorem implGe_any (f : Value) (F : Fld) (A1 : Option Addr) (xs : List Int) (n1 c1 : Nat) (w : World) (hf : FldAt w f F) (h1 : IntsAt w A1 xs) (hn1 : xs.length = n1) :
    Calls Try.prog 24 #[f, .slice A1 n1 c1] w fun e w' => e = .returned (.tuple #[.int .i64 (geR F xs), .bool (geOk F xs)]) ∧ Kp w w' := by
  obtain ⟨A, c, B, d, rfl, hA, hB⟩ := hf
  have hk0 : Kp w ((w.alloc (.cells #[.slice A F.op.length c, .slice B F.di.length d] 29)).alloc (.cells #[.slice A1 n1 c1] 22)) := ((Kp.refl w).alloc _).alloc _
  obtain ⟨d0, d1⟩ := box2 w (.slice A F.op.length c) (.slice B F.di.length d) 29
  have hFA := FldAt.kp (show FldAt w (.agg #[.slice A F.op.length c, .slice B F.di.length d]) F from ⟨A, c, B, d, rfl, hA, hB⟩) hk0
  replace d0 := ((Kp.refl _).alloc (.cells #[.slice A1 n1 c1] 22)).get d0
  replace d1 := ((Kp.refl _).alloc (.cells #[.slice A1 n1 c1] 22)).get d1
  have d2 : ((w.alloc (.cells #[.slice A F.op.length c, .slice B F.di.length d] 29)).alloc (.cells #[.slice A1 n1 c1] 22)).cell? ⟨w.heap.size + 1, 0, none⟩ = some (.slice A1 n1 c1) := by
    rw [World.cell?_alloc_at _ _ _ _ (by simp)]; rfl
  replace h1 := h1.kp hk0
  have Hn1 := Lib.hid hn1
  clear hA hB hn1
  go_enter Try.func24, Try.ntmps24
  go_wp2_with fail
  generalize (w.alloc (.cells #[.slice A F.op.length c, .slice B F.di.length d] 29)).alloc (.cells #[.slice A1 n1 c1] 22) = wb at *
  have hkb : Kp wb wb := Kp.refl _
  have CC := Lib.hid (isShared_any _ F A1 xs n1 c1 _ (hFA.kp hkb) (h1.kp hkb) Hn1.out)
  with_reducible refine Calls.mono CC.out ?_
  rintro e w1 ⟨rfl, hk1⟩
  clear CC
  replace hkb := hkb.trans hk1
  cases hg_ : sharesB F xs
  · have Hno : Hid (geOk F xs = false) := by show _ = _; simp [geOk, hg_]
    clear hg_
    have q_d0 := hkb.get d0
    have q_d1 := hkb.get d1
    have q_d2 := hkb.get d2
    go_wp2_with fail
    go_ret2
    exact ⟨ge_no Hno.out, hk0.trans hkb⟩
  have Hs := Lib.hid hg_; clear hg_
  have HP := Lib.hid (sharesB_iff.1 Hs.out)
  have hd7 := (goodF_iff.1 HP.out.1).2.2.1
  by_cases h0 : n1 = 0
  · have Hno : Hid (geOk F xs = false) := by show _ = _; simp [geOk, List.eq_nil_of_length_eq_zero (Hn1.out.trans h0)]
    have h02 : ((n1 : Int) == 0) = true := by simp [h0]
    have q_d0 := hkb.get d0
    have q_d1 := hkb.get d1
    have q_d2 := hkb.get d2
    go_wp2_with fail
    go_ret2
    exact ⟨ge_no Hno.out, hk0.trans hkb⟩
  have hne : xs ≠ [] := fun e => by have := Hn1.out; rw [e] at this; simp at this; omega
  have Hok : Hid (geOk F xs = true) := by
    show _ = _
    simp only [geOk, Hs.out, Bool.true_and]
    cases h : xs with
    | nil => exact absurd h hne
    | cons a t => rfl
  have h02 : ((n1 : Int) == 0) = false := by simp; omega
  have Hpos : Hid (0 < (setsL F.di.length).length) := setsD_pos (by have := HP.out.2.1; have := Hn1.out; omega)
  have Hcr : Hid (crowdB F (geS F xs) = true) := (setsD_crowd _ (bestL_mem Hpos.out)).1
  have Hmost := Lib.hid (setsD_most HP.out.1)
  clear hne h0
  have q_d0 := hkb.get d0
  have q_d1 := hkb.get d1
  have q_d2 := hkb.get d2
  go_wp2_with fail
  have CC := Lib.hid (sets_any F.di.length w1 hd7)
  with_reducible refine Calls.mono CC.out ?_
  rintro e w2 ⟨v, rfl, hvn, hgo, hk2⟩
  clear CC q_d0 q_d1 q_d2
  replace hkb := hkb.trans hk2
  obtain ⟨ad, cx, hve, hcx, hrows⟩ := hgo.rows_some (by have := Hmost.out; omega) hvn
  subst hve
  clear hgo hvn
  have hv : Val 51 #[] #[.pointer (some ⟨w.heap.size, 0, none⟩), .pointer (some ⟨w.heap.size + 1, 0, none⟩)] (negE F xs) (fun S => crowdB F S = true) w2 :=
    ⟨callFunc_of Try.func51 (by kernel_rfl) (by kernel_rfl), fun S Av cv w' hk hq hi _ => geClo_any F A c B d w.heap.size (w.heap.size + 1) A1 xs n1 c1 w' (hFA.kp (hkb.trans hk)) ((hkb.trans hk).get d0) ((hkb.trans hk).get d1) ((hkb.trans hk).get d2) (h1.kp (hkb.trans hk)) Hn1.out Av S S.length cv hi rfl Hs.out hq⟩
  have HV := Lib.hid hv
  clear hv
  have q_d0 := hkb.get d0
  have q_d1 := hkb.get d1
  have q_d2 := hkb.get d2
  go_wp2_with fail
  have CC := Lib.hid (least_any 51 #[] #[.pointer (some ⟨w.heap.size, 0, none⟩), .pointer (some ⟨w.heap.size + 1, 0, none⟩)] (negE F xs) (fun S => crowdB F S = true) _ _ (setsL F.di.length) _ cx _ hrows rfl Hpos.out HV.out (fun S hS => (setsD_crowd S hS).1))
  with_reducible refine Calls.mono CC.out ?_
  rintro e w3 ⟨u, rfl, hu, hk3⟩
  clear CC q_d0 q_d1 q_d2
  replace hkb := hkb.trans hk3
  obtain ⟨As, cs, rfl, _, hus⟩ := hu.read
  have q_d0 := hkb.get d0
  have q_d1 := hkb.get d1
  have q_d2 := hkb.get d2
  go_wp2_with fail
  have CC := Lib.hid (excess_any _ F A1 xs n1 c1 As (bestL (negE F xs) (setsL F.di.length)) _ cs _ (hFA.kp hkb) (h1.kp hkb) Hn1.out hus rfl Hs.out Hcr.out)
  with_reducible refine Calls.mono CC.out ?_
  rintro e w4 ⟨rfl, hk4⟩
  clear CC q_d0 q_d1 q_d2
  replace hkb := hkb.trans hk4
  have q_d0 := hkb.get d0
  have q_d1 := hkb.get d1
  have q_d2 := hkb.get d2
  go_wp2_with fail
  go_ret2
  exact ⟨ge_yes Hok.out rfl, hk0.trans hkb⟩
end Go.Proofs.Ytcifdadieaccdaa

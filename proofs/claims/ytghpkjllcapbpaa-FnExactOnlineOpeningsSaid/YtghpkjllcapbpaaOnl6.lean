/- OnlineTotal and OnlineOpenings: reference and program. No condition. -/
import Derived.Test.YtghpkjllcapbpaaOnl5
namespace Go.Proofs.Ytghpkjllcapbpaa
open Go.RowKit Go.Sort

/-- What the rows cost together. -/
def payR (F : Fld) (rows : List (List Int)) : Int := (rows.map (payF F)).sum
def payTR (F : Fld) (rows : List (List Int)) (k : Nat) : Int := payR F (rows.take k)
theorem payTR_succ {F : Fld} {rows : List (List Int)} {k : Nat} (h : k < rows.length) : payTR F rows (k + 1) = payTR F rows k + payF F rows[k] := by
  unfold payTR payR
  rw [List.take_succ_eq_append_getElem h, List.map_append, List.sum_append]; simp
theorem payF_append (F : Fld) (xs ys : List Int) : payF F (xs ++ ys) = payF F xs + payF F ys := by
  unfold payF; rw [List.map_append, List.sum_append]
theorem payF_put {F : Fld} {S : List Int} {z : Int} (h : z ∉ S) : payF F (putL S z) = payF F S + opAt F z := by
  unfold putL
  rw [if_neg h, payF_append]
  have e : payF F S = payF F (S.takeWhile (· < z)) + payF F (S.dropWhile (· < z)) := by
    rw [← payF_append, List.takeWhile_append_dropWhile]
  rw [e]
  have e2 : payF F (z :: S.dropWhile (· < z)) = opAt F z + payF F (S.dropWhile (· < z)) := by unfold payF; simp
  rw [e2]; omega
theorem wRun_pay {F : Fld} {m : Nat} : ∀ k row S, payF F (wRun F m k row S).2 - payF F (wRun F m k row S).1 = payF F S - payF F row
  | 0, row, S => rfl
  | k + 1, row, S => by
    by_cases hw : wantF F m S < 0
    · rw [wRun_stop hw]
    · rw [wRun_go hw, wRun_pay k, payF_put (want_new hw).1, payF_append]
      have : payF F [wantF F m S] = opAt F (wantF F m S) := by unfold payF; simp
      omega
theorem onC_pay (F : Fld) (i : Nat) (S : List Int) : payF F (onC F i S).2 = payF F S + payF F (onC F i S).1 := by
  unfold onC
  by_cases h : S = []
  · subst h
    rw [if_pos rfl]
    have h1 := wRun_pay (F := F) (m := i + 1) F.op.length [(firstF F i : Int)] [(firstF F i : Int)]
    have h2 : payF F [] = 0 := rfl
    omega
  · rw [if_neg h]
    have h1 := wRun_pay (F := F) (m := i + 1) F.op.length [] S
    have h2 : payF F [] = 0 := rfl
    omega
theorem onS_pay (F : Fld) : ∀ i, payR F (onS F i).1 = payF F (onS F i).2
  | 0 => rfl
  | i + 1 => by
    have h := onS_pay F i
    rw [onS_succ]
    show payR F ((onS F i).1 ++ [(onC F i (onS F i).2).1]) = payF F (onC F i (onS F i).2).2
    rw [onC_pay, ← h]
    unfold payR
    rw [List.map_append, List.sum_append]; simp
/-- The sites of a row are sites, and there are few of them. -/
theorem wRun_mem {F : Fld} {m : Nat} : ∀ k row S, (∀ x ∈ row, (0 : Int) ≤ x ∧ x < (F.op.length : Int)) → setB F S = true → ∀ x ∈ (wRun F m k row S).1, (0 : Int) ≤ x ∧ x < (F.op.length : Int)
  | 0, row, S, h, _ => h
  | k + 1, row, S, h, hs => by
    by_cases hw : wantF F m S < 0
    · rw [wRun_stop hw]; exact h
    · rw [wRun_go hw]
      have hn := want_new hw
      refine wRun_mem k _ _ (fun x hx => ?_) (setB_put hs (by omega) hn.2)
      rcases List.mem_append.1 hx with hx | hx
      · exact h x hx
      · have : x = wantF F m S := by simpa using hx
        omega
theorem wRun_len {F : Fld} {m : Nat} : ∀ k row S, (wRun F m k row S).1.length ≤ row.length + k
  | 0, row, S => by simp [wRun]
  | k + 1, row, S => by
    by_cases hw : wantF F m S < 0
    · rw [wRun_stop hw]; simp
    · rw [wRun_go hw]
      have := wRun_len (F := F) (m := m) k (row ++ [wantF F m S]) (putL S (wantF F m S))
      rw [List.length_append] at this
      simp at this; omega
theorem onC_row {F : Fld} (hg : goodF F = true) (i : Nat) {S : List Int} (hs : setB F S = true) : (∀ x ∈ (onC F i S).1, (0 : Int) ≤ x ∧ x < (F.op.length : Int)) ∧ (onC F i S).1.length ≤ F.op.length + 1 := by
  unfold onC
  by_cases h : S = []
  · rw [if_pos h]
    refine ⟨wRun_mem _ _ _ (fun x hx => ?_) (setB_one hg i), ?_⟩
    · have h1 := set_mem (setB_one hg i) x hx
      exact h1
    · have := wRun_len (F := F) (m := i + 1) F.op.length [(firstF F i : Int)] [(firstF F i : Int)]
      simp at this; omega
  · rw [if_neg h]
    refine ⟨wRun_mem _ _ _ (fun x hx => by cases hx) hs, ?_⟩
    have := wRun_len (F := F) (m := i + 1) F.op.length [] S
    simp at this; omega
theorem onS_rows {F : Fld} (hg : goodF F = true) : ∀ i, ∀ r ∈ (onS F i).1, (∀ x ∈ r, (0 : Int) ≤ x ∧ x < (F.op.length : Int)) ∧ r.length ≤ F.op.length + 1
  | 0 => fun r hr => by cases hr
  | i + 1 => fun r hr => by
    rw [onS_succ] at hr
    rcases List.mem_append.1 hr with hr | hr
    · exact onS_rows hg i r hr
    · have : r = (onC F i (onS F i).2).1 := by simpa using hr
      subst this
      exact onC_row hg i (onS_set hg i)
theorem payRow_bd {F : Fld} (hg : goodF F = true) {r : List Int} (hl : r.length ≤ F.op.length + 1) : ∀ k, k ≤ r.length → 0 ≤ payTo F r k ∧ payTo F r k ≤ k * 99 := payTo_bd hg r
theorem payTR_bd {F : Fld} (hg : goodF F = true) {rows : List (List Int)} (h : ∀ r ∈ rows, r.length ≤ F.op.length + 1) : ∀ k, k ≤ rows.length → 0 ≤ payTR F rows k ∧ payTR F rows k ≤ k * 792
  | 0, _ => by simp [payTR, payR]
  | k + 1, hk => by
    have h1 := payTR_bd hg h k (by omega)
    have h2 := h _ (List.getElem_mem (show k < rows.length by omega))
    have h3 := payTo_bd hg rows[k] rows[k].length (Nat.le_refl _)
    rw [payTo_all (Nat.le_refl _)] at h3
    have h7 := (goodF_iff.1 hg).1.2
    rw [payTR_succ (by omega)]; omega
/-- The payment of any few sites. -/
theorem payRow_any (f : Value) (F : Fld) (A0 : Option Addr) (S : List Int) (n c0 : Nat) (w : World) (hf : FldAt w f F) (hS : IntsAt w A0 S) (hn : S.length = n) (hg : goodF F = true) (hs : ∀ x ∈ S, 0 ≤ x ∧ x < F.op.length) (hl : S.length ≤ F.op.length + 1) :
    Calls Try.prog 71 #[f, .slice A0 n c0] w fun e w' => e = .returned (.int .i64 (payF F S)) ∧ Kp w w' := by
  have hl1 : 0 < F.op.length := by have := (goodF_iff.1 hg).1.1; omega
  have h7 := (goodF_iff.1 hg).1.2
  obtain ⟨A, c, B, d, rfl, hA, hB⟩ := hf
  obtain ⟨od, rfl, _⟩ := hA.at_ (k := 0) hl1
  have hk0 : Kp w (w.alloc (.cells #[.slice (some od) F.op.length c, .slice B F.di.length d] 54)) := (Kp.refl w).alloc _
  obtain ⟨d0, d1⟩ := box2 w (.slice (some od) F.op.length c) (.slice B F.di.length d) 54
  replace hA := hA.kp hk0
  replace hS := hS.kp hk0
  have hm : n ≤ 9223372036854775807 := hn ▸ hS.1
  have hn7 : n ≤ 8 := by omega
  have Hn := Lib.hid hn; clear hn
  have Hm := Lib.hid hs
  have HG := Lib.hid hg
  have HB := Lib.hid (fun k (hk : k ≤ S.length) => payTo_bd hg S k hk)
  clear hs hg hB hl
  go_enter Try.func71, Try.ntmps71
  go_wp2_with fail
  generalize w.alloc (.cells #[.slice (some od) F.op.length c, .slice B F.di.length d] 54) = wb at *
  go_loopw [5, 10] (fun sv iv wr => ∃ k : Nat, k ≤ n ∧ iv = .int .i64 k ∧ sv = .int .i64 (payTo F S k) ∧ Dr wb wr) (fun _ iv _ => n - (intOf iv).toNat)
  case atStart => exact ⟨0, by omega, rfl, rfl, Dr.refl _⟩
  case round =>
    obtain ⟨k, hk, rfl, rfl, hdr⟩ := hrel
    have e0 := hdr.kp.get d0
    by_cases hlt : k < n
    · have lx : k < S.length := by rw [Hn.out]; exact hlt
      obtain ⟨sd, rfl, hck⟩ := (hS.kp hdr.kp).at_ lx
      obtain ⟨ha0, ha1⟩ := Hm.out _ (List.getElem_mem lx)
      have hoc := opCell (hA.kp hdr.kp) ha0 ha1
      have hsu := Lib.hid (payTo_succ (F := F) lx)
      obtain ⟨b1, b2⟩ := HB.out k (Nat.le_of_lt lx)
      obtain ⟨b3, b4⟩ := opAt_bd HG.out S[k]
      go_wp2_with fail
      go_roundw
      case rel => exact ⟨k + 1, by omega, by go_num, by rw [hsu.out] <;> go_num, hdr⟩
      case measure => simp [intOf]; omega
    · go_wp2_with fail
      go_ret
      exact ⟨ret_int (by rw [payTo_all (by rw [Hn.out]; omega)]), hk0.trans hdr.kp⟩
def otV (F : Fld) : Int := if goodF F = true then onL F F.di.length + payF F (onS F F.di.length).2 else 0
theorem ot_no {F : Fld} (h : goodF F = false) : Ending.returned (.tuple #[.int .i64 0, .bool false]) = .returned (.tuple #[.int .i64 (otV F), .bool (goodF F)]) := by simp [otV, h]
theorem ot_yes {F : Fld} (h : goodF F = true) : Ending.returned (.tuple #[.int .i64 (onL F F.di.length + payF F (onS F F.di.length).2), .bool true]) = .returned (.tuple #[.int .i64 (otV F), .bool (goodF F)]) := by simp [otV, h]
set_option maxRecDepth 100000 in
set_option maxHeartbeats 400000 in
theorem specOt_any (f : Value) (F : Fld) (w : World) (hf : FldAt w f F) :
    Calls Try.prog 39 #[f] w fun e w' => e = .returned (.tuple #[.int .i64 (otV F), .bool (goodF F)]) ∧ Kp w w' := by
  obtain ⟨A, c, B, d, rfl, hA, hB⟩ := hf
  have hk0 : Kp w (w.alloc (.cells #[.slice A F.op.length c, .slice B F.di.length d] 54)) := (Kp.refl w).alloc _
  obtain ⟨d0, d1⟩ := box2 w (.slice A F.op.length c) (.slice B F.di.length d) 54
  have hFA := FldAt.kp (show FldAt w (.agg #[.slice A F.op.length c, .slice B F.di.length d]) F from ⟨A, c, B, d, rfl, hA, hB⟩) hk0
  clear hA hB
  go_enter Try.func39, Try.ntmps39
  go_wp2_with fail
  have hsz : Hid ((w.alloc (.cells #[.slice A F.op.length c, .slice B F.di.length d] 54)).heap.size = w.heap.size + 1) := by show _ = _; simp
  generalize w.alloc (.cells #[.slice A F.op.length c, .slice B F.di.length d] 54) = wb at *
  have hkb : Kp wb wb := Kp.refl _
  have hkw := hk0
  have q_d0 := hkb.get d0
  have q_d1 := hkb.get d1
  go_wp2_with fail
  have CC := Lib.hid (l2Good_any _ F _ (hFA.kp hkb))
  with_reducible refine Calls.mono CC.out ?_
  rintro e w1 ⟨rfl, hk1⟩
  clear CC q_d0 q_d1
  replace hkb := hkb.trans hk1
  cases hg_ : (goodF F)
  · have Hg := Lib.hid hg_; clear hg_
    have q_d0 := hkb.get d0
    have q_d1 := hkb.get d1
    go_wp2_with fail
    go_ret2
    exact ⟨ot_no Hg.out, hkw.trans hkb⟩
  have Hg := Lib.hid hg_; clear hg_
  have q_d0 := hkb.get d0
  have q_d1 := hkb.get d1
  go_wp2_with fail
  have CC := Lib.hid (l10Online_any _ F _ (hFA.kp hkb) Hg.out)
  with_reducible refine Calls.mono CC.out ?_
  rintro e w2 ⟨v, rfl, hov, hk2⟩
  clear CC q_d0 q_d1
  replace hkb := hkb.trans hk2
  have q_d0 := hkb.get d0
  have q_d1 := hkb.get d1
  go_wp2_with fail
  go_ret2
  exact ⟨ot_yes Hg.out, hkw.trans hkb⟩
set_option maxRecDepth 100000 in
set_option maxHeartbeats 1000000 in
theorem implOt_any (f : Value) (F : Fld) (w : World) (hf : FldAt w f F) :
    Calls Try.prog 40 #[f] w fun e w' => e = .returned (.tuple #[.int .i64 (otV F), .bool (goodF F)]) ∧ Kp w w' := by
  obtain ⟨A, c, B, d, rfl, hA, hB⟩ := hf
  have hk0 : Kp w (w.alloc (.cells #[.slice A F.op.length c, .slice B F.di.length d] 54)) := (Kp.refl w).alloc _
  obtain ⟨d0, d1⟩ := box2 w (.slice A F.op.length c) (.slice B F.di.length d) 54
  have hFA := FldAt.kp (show FldAt w (.agg #[.slice A F.op.length c, .slice B F.di.length d]) F from ⟨A, c, B, d, rfl, hA, hB⟩) hk0
  clear hA hB
  go_enter Try.func40, Try.ntmps40
  go_wp2_with fail
  have hsz : Hid ((w.alloc (.cells #[.slice A F.op.length c, .slice B F.di.length d] 54)).heap.size = w.heap.size + 1) := by show _ = _; simp
  generalize w.alloc (.cells #[.slice A F.op.length c, .slice B F.di.length d] 54) = wb at *
  have hkb : Kp wb wb := Kp.refl _
  have hkw := hk0
  have q_d0 := hkb.get d0
  have q_d1 := hkb.get d1
  go_wp2_with fail
  have CC := Lib.hid (isField_any _ F _ (hFA.kp hkb))
  with_reducible refine Calls.mono CC.out ?_
  rintro e w1 ⟨rfl, hk1⟩
  clear CC q_d0 q_d1
  replace hkb := hkb.trans hk1
  cases hg_ : (goodF F)
  · have Hg := Lib.hid hg_; clear hg_
    have q_d0 := hkb.get d0
    have q_d1 := hkb.get d1
    go_wp2_with fail
    go_ret2
    exact ⟨ot_no Hg.out, hkw.trans hkb⟩
  have Hg := Lib.hid hg_; clear hg_
  have h7n := (goodF_iff.1 Hg.out).1.2
  have h7d := (goodF_iff.1 Hg.out).2.2.1
  have q_d0 := hkb.get d0
  have q_d1 := hkb.get d1
  go_wp2_with fail
  have CC := Lib.hid (online_any _ F _ (hFA.kp hkb) Hg.out)
  with_reducible refine Calls.mono CC.out ?_
  rintro e w2 ⟨v, u, rfl, hgo, hlo, hk2⟩
  clear CC q_d0 q_d1
  replace hkb := hkb.trans hk2
  have hml := mapTo_len (onN F) F.di.length
  obtain ⟨Al, cl, hle, hli⟩ := hlo.ints (by omega)
  subst hle
  obtain ⟨Ag, cg, hge, hcg, hrows⟩ := hgo.gown.rows (by rw [onS_len]; omega)
  subst hge
  have hsl := onS_len F F.di.length
  have Hsum : Hid ((mapTo (onN F) F.di.length).sum = onL F F.di.length) := rfl
  have HB := Lib.hid (onL_bd Hg.out)
  have Htk : Hid (∀ k, k ≤ F.di.length → ((mapTo (onN F) F.di.length).take k).sum = onL F k) := fun k hk => by
    unfold onL sumTo mapTo
    rw [← List.map_take, List.take_range, Nat.min_eq_left hk]
  have Hrb := Lib.hid (onS_rows Hg.out F.di.length)
  have HT := Lib.hid (payTR_bd Hg.out (fun r hr => (Hrb.out r hr).2))
  have HE : Hid (payTR F (onS F F.di.length).1 F.di.length = payF F (onS F F.di.length).2) := by show _ = _; rw [← onS_pay, payTR, List.take_of_length_le (by omega)]
  rw [hml, hsl]
  generalize hrw : (onS F F.di.length).1 = rows at *
  clear hrw hcg hgo hlo
  have Hsl := Lib.hid hsl
  have Hml := Lib.hid hml
  clear hsl hml
  have q_d0 := hkb.get d0
  have q_d1 := hkb.get d1
  go_wp2_with fail
  have CC := Lib.hid (sumL_any Al (mapTo (onN F) F.di.length) F.di.length cl _ (hli.kp (Kp.refl _)) Hml.out (fun k hk => by have h1 := Htk.out k hk; have h2 := HB.out k; omega) (fun x hx => by obtain ⟨i, _, rfl⟩ := List.mem_map.1 hx; have := nearF_bd Hg.out (onS F (i + 1)).2 i; unfold onN; omega))
  with_reducible refine Calls.mono CC.out ?_
  rintro e w3 ⟨rfl, hw⟩
  obtain rfl := hw
  clear CC q_d0 q_d1
  rw [Hsum.out]
  obtain ⟨b1, b2⟩ := HB.out F.di.length
  generalize hq : onL F F.di.length = q at *
  have Hq := Lib.hid hq
  clear hq
  have q_d0 := hkb.get d0
  have q_d1 := hkb.get d1
  go_wp2_with fail
  have hrows0 := hrows
  have hFw := hFA
  obtain ⟨wl, rfl⟩ : ∃ wl : World, wl = w2 := ⟨_, rfl⟩
  have hkl := hkb
  have hFl := hFA.kp hkb
  have z0 := hkb.get d0
  have z1 := hkb.get d1
  go_loopw [6, 21] (fun sv iv wr => ∃ k : Nat, k ≤ F.di.length ∧ iv = .int .i64 k ∧ sv = .int .i64 (q + payTR F rows k) ∧ Kp wl wr) (fun _ iv _ => F.di.length - (intOf iv).toNat)
  case atStart => exact ⟨0, by omega, rfl, by rw [show payTR F rows 0 = 0 from rfl]; go_num, Kp.refl _⟩
  case round =>
    obtain ⟨k, hk, rfl, rfl, hkr⟩ := hrel
    obtain ⟨b3, b4⟩ := HT.out k (by rw [Hsl.out]; exact hk)
    by_cases hlt : k < F.di.length
    · have lx : k < rows.length := by rw [Hsl.out]; exact hlt
      obtain ⟨ad, A2, c2, rfl, hcl, _, hri, _⟩ := hrows.at_ lx
      have hrm := Lib.hid (Hrb.out _ (List.getElem_mem lx))
      have Hsu := Lib.hid (payTR_succ (F := F) lx)
      have hrl := hrm.out.2
      have h3 := payTo_bd Hg.out rows[k] rows[k].length (Nat.le_refl _)
      rw [payTo_all (Nat.le_refl _)] at h3
      clear q_d0 q_d1
      have q_z0 := hkr.get z0
      have q_z1 := hkr.get z1
      have q_hcl := hkr.get hcl
      go_wp2_with fail
      have CC := Lib.hid (payRow_any _ F A2 rows[k] _ c2 _ (hFl.kp hkr) (hri.kp hkr) rfl Hg.out hrm.out.1 hrm.out.2)
      with_reducible refine Calls.mono CC.out ?_
      rintro e w4 ⟨rfl, hk4⟩
      clear CC q_z0 q_z1 q_hcl
      replace hkr := hkr.trans hk4
      have q_z0 := hkr.get z0
      have q_z1 := hkr.get z1
      have q_hcl := hkr.get hcl
      go_wp2_with fail
      go_roundw
      case rel => exact ⟨k + 1, by omega, by go_num, by rw [Hsu.out] <;> go_num, hkr⟩
      case measure => simp [intOf]; omega
    · obtain rfl : k = F.di.length := by omega
      rw [HE.out] at b3 b4 ⊢
      go_wp2_with fail
      go_ret2
      have e := ot_yes Hg.out
      rw [Hq.out] at e
      exact ⟨e, hkw.trans (hkl.trans hkr)⟩
end Go.Proofs.Ytghpkjllcapbpaa

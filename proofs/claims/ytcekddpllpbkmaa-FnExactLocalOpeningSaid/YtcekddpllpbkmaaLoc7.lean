/- LocalOpening: reference and program. No condition. -/
import Derived.Test.YtcekddpllpbkmaaLoc6
import Derived.Test.YtcekddpllpbkmaaOwn1
namespace Go.Proofs.Ytcekddpllpbkmaa
open Go.RowKit Go.Sort

/-- Moves as long as one makes the total less (at most k of them), and how many. -/
def loRun (F : Fld) : Nat → List Int → List Int × Nat
  | 0, S => (S, 0)
  | k + 1, S => match betF F S with
    | none => (S, 0)
    | some T => ((loRun F k T).1, (loRun F k T).2 + 1)
theorem lo_stop {F : Fld} {S : List Int} (h : betF F S = none) (k : Nat) : loRun F k S = (S, 0) := by
  cases k with
  | zero => rfl
  | succ k => show (match betF F S with | none => (S, 0) | some T => ((loRun F k T).1, (loRun F k T).2 + 1)) = _; rw [h]
theorem lo_go {F : Fld} {S T : List Int} (h : betF F S = some T) (k : Nat) : loRun F (k + 1) S = ((loRun F k T).1, (loRun F k T).2 + 1) := by
  show (match betF F S with | none => (S, 0) | some T => ((loRun F k T).1, (loRun F k T).2 + 1)) = _
  rw [h]
theorem bet_some {F : Fld} {S T : List Int} (hs : setB F S = true) (hne : S ≠ []) (h : betF F S = some T) : setB F T = true ∧ T ≠ [] ∧ totF F T < totF F S := by
  have h1 := moves_ok hs hne T (List.mem_of_find?_eq_some h)
  have h2 := List.find?_some h
  exact ⟨h1.1, h1.2, by simpa [lessB] using h2⟩
theorem tot_bd {F : Fld} (hg : goodF F = true) {S : List Int} (hs : setB F S = true) : 0 ≤ totF F S ∧ totF F S ≤ 1400 := by
  have h1 := payF_bd hg hs
  have h2 := serveF_bd hg S
  unfold totF; omega
theorem lo_set {F : Fld} : ∀ k S, setB F S = true → S ≠ [] → setB F (loRun F k S).1 = true
  | 0, S, h, _ => h
  | k + 1, S, h, hne => by
    cases hb : betF F S with
    | none => rw [lo_stop hb]; exact h
    | some T =>
      have h2 := bet_some h hne hb
      rw [lo_go hb]; exact lo_set k T h2.1 h2.2.1
def loR (F : Fld) (S : List Int) : List Int × Nat := loRun F 1400 S
def loL (F : Fld) (S : List Int) : List Int := if openedB F S = true then (loR F S).1 else []
def loM (F : Fld) (S : List Int) : Int := if openedB F S = true then ((loR F S).2 : Int) else 0
theorem loL_len (F : Fld) (S : List Int) : (loL F S).length ≤ 1048576 := by
  unfold loL
  by_cases h : openedB F S = true
  · rw [if_pos h]
    have hp := openedB_parts h
    have h1 := set_len (lo_set 1400 S hp.2.1 hp.2.2)
    have h7 := (goodF_iff.1 hp.1).1.2
    unfold loR; omega
  · rw [if_neg h]; simp
/-- Where the moves stand. -/
structure loSt (F : Fld) (S : List Int) (k many : Nat) (now : List Int) : Prop where
  set : setB F now = true
  ne : now ≠ []
  fst : (loRun F k now).1 = (loR F S).1
  snd : many + (loRun F k now).2 = (loR F S).2
  fuel : totF F now ≤ (k : Int)
  few : (many : Int) + totF F now ≤ 1400
theorem loSt.first {F : Fld} {S : List Int} (hg : goodF F = true) (hs : setB F S = true) (hne : S ≠ []) : loSt F S 1400 0 S :=
  ⟨hs, hne, rfl, by rw [Nat.zero_add]; rfl, (tot_bd hg hs).2, by have := (tot_bd hg hs).2; omega⟩
theorem loSt.next {F : Fld} {S : List Int} {k many : Nat} {now T : List Int} (hg : goodF F = true) (h : loSt F S k many now) (hb : betF F now = some T) : ∃ k', loSt F S k' (many + 1) T := by
  have h2 := bet_some h.set h.ne hb
  have h3 := tot_bd hg h2.1
  have h4 := h.fuel
  have h5 := h.few
  obtain ⟨k', rfl⟩ : ∃ k', k = k' + 1 := ⟨k - 1, by omega⟩
  have h6 := h.fst
  have h7 := h.snd
  rw [lo_go hb] at h6 h7
  exact ⟨k', h2.1, h2.2.1, h6, by simp only at h7; omega, by omega, by omega⟩
theorem loSt.done {F : Fld} {S : List Int} {k many : Nat} {now : List Int} (h : loSt F S k many now) (hb : betF F now = none) : now = (loR F S).1 ∧ many = (loR F S).2 := by
  have h6 := h.fst
  have h7 := h.snd
  rw [lo_stop hb] at h6 h7
  exact ⟨h6, by simpa using h7⟩
theorem lo_no {F : Fld} {S : List Int} {w : World} {v : Value} {base : Nat} (h : openedB F S = false) (ho : Own w base v []) : ∃ v', Ending.returned (.tuple #[v, .int .i64 0, .bool false]) = .returned (.tuple #[v', .int .i64 (loM F S), .bool (openedB F S)]) ∧ Own w base v' (loL F S) := by
  refine ⟨v, ?_, ?_⟩
  · simp [loM, h]
  · simpa [loL, h] using ho
theorem lo_yes {F : Fld} {S now : List Int} {many : Nat} {w : World} {v : Value} {base : Nat} (h : openedB F S = true) (h1 : now = (loR F S).1) (h2 : many = (loR F S).2) (ho : Own w base v now) : ∃ v', Ending.returned (.tuple #[v, .int .i64 (many : Int), .bool true]) = .returned (.tuple #[v', .int .i64 (loM F S), .bool (openedB F S)]) ∧ Own w base v' (loL F S) := by
  refine ⟨v, ?_, ?_⟩
  · simp [loM, h, h2]
  · simpa [loL, h, h1] using ho
set_option maxRecDepth 100000 in
set_option maxHeartbeats 2000000 in
theorem implLo_any (f : Value) (F : Fld) (A0 : Option Addr) (S : List Int) (n c0 : Nat) (w : World) (hf : FldAt w f F) (hS : IntsAt w A0 S) (hn : S.length = n) :
    Calls Try.prog 31 #[f, .slice A0 n n] w fun e w' => ∃ v, e = .returned (.tuple #[v, .int .i64 (loM F S), .bool (openedB F S)]) ∧ Own w' w.heap.size v (loL F S) ∧ Kp w w' := by
  obtain ⟨A, c, B, d, rfl, hA, hB⟩ := hf
  have hk0 : Kp w (w.alloc (.cells #[.slice A F.op.length c, .slice B F.di.length d] 29)) := (Kp.refl w).alloc _
  obtain ⟨d0, d1⟩ := box2 w (.slice A F.op.length c) (.slice B F.di.length d) 29
  have hFA := FldAt.kp (show FldAt w (.agg #[.slice A F.op.length c, .slice B F.di.length d]) F from ⟨A, c, B, d, rfl, hA, hB⟩) hk0
  replace hS := hS.kp hk0
  have Hn := Lib.hid hn
  clear hA hB hn
  go_enter Try.func31, Try.ntmps31
  go_wp2_with fail
  have hsz : Hid ((w.alloc (.cells #[.slice A F.op.length c, .slice B F.di.length d] 29)).heap.size = w.heap.size + 1) := by show _ = _; simp
  generalize w.alloc (.cells #[.slice A F.op.length c, .slice B F.di.length d] 29) = wb at *
  have hkb : Kp wb wb := Kp.refl _
  have hkw := hk0
  have q_d0 := hkb.get d0
  have q_d1 := hkb.get d1
  go_wp2_with fail
  have CC := Lib.hid (isOpened_any _ F A0 S n n _ (hFA.kp hkb) (hS.kp hkb) Hn.out)
  with_reducible refine Calls.mono CC.out ?_
  rintro e w1 ⟨rfl, hk1⟩
  clear CC q_d0 q_d1
  replace hkb := hkb.trans hk1
  have hb0 : w.heap.size ≤ w1.heap.size := (hkw.trans hkb).le
  cases hg_ : openedB F S
  · have Hno := Lib.hid hg_
    clear hg_
    have q_d0 := hkb.get d0
    have q_d1 := hkb.get d1
    go_wp2_with fail
    obtain ⟨v', e1, e2⟩ := lo_no Hno.out (Own.nil w1 w.heap.size)
    go_ret3
    exact ⟨v', e1, e2, hkw.trans hkb⟩
  have Hg := Lib.hid hg_
  clear hg_
  have HP := Lib.hid (openedB_parts Hg.out)
  have h7n := (goodF_iff.1 HP.out.1).1.2
  have hsl := set_len HP.out.2.1
  obtain ⟨ad, rfl⟩ : ∃ ad, A0 = some ad := by obtain ⟨ad, e, _⟩ := hS.at_ (k := 0) (List.length_pos_iff.2 HP.out.2.2); exact ⟨ad, e⟩
  have hn7 : n ≤ 7 := by have := Hn.out; omega
  have q_d0 := hkb.get d0
  have q_d1 := hkb.get d1
  go_wp2_with fail
  have CC := Lib.hid (clone_some ad S n n _ (hS.kp hkb) Hn.out (by omega))
  with_reducible refine Calls.mono CC.out ?_
  rintro e w2 ⟨v, rfl, hov, hk2⟩
  clear CC q_d0 q_d1
  replace hkb := hkb.trans hk2
  have hst := loSt.first HP.out.1 HP.out.2.1 HP.out.2.2
  have hov2 := hov.mono hb0
  clear hov
  have hkl := hkb
  have hFl := hFA
  have q_0 := hkb.get d0
  have q_1 := hkb.get d1
  go_wp2_with fail
  go_loopw [7, 8] (fun nv mv wr => ∃ (k many : Nat) (now : List Int), Own wr w.heap.size nv now ∧ mv = .int .i64 many ∧ Hid (loSt F S k many now) ∧ Kp wb wr) (fun _ mv _ => 1500 - (intOf mv).toNat)
  case atStart => exact ⟨1400, 0, S, hov2, rfl, hst, hkb⟩
  case round =>
    clear hov2 hst hkb q_0 q_1 hkl
    obtain ⟨k, many, now, hown, rfl, Hst, hkb⟩ := hrel
    have hnl := set_len Hst.out.set
    have htb := tot_bd HP.out.1 Hst.out.set
    have hfw := Hst.out.few
    have hm14 : many ≤ 1400 := by omega
    obtain ⟨An, cn, hne, hni⟩ := hown.ints (by omega)
    have hcn := hown.cap hne
    subst hne
    have q_0 := hkb.get d0
    have q_1 := hkb.get d1
    go_wp2_with fail
    have CC := Lib.hid (better_any _ F An now now.length cn _ (hFl.kp hkb) hni rfl HP.out.1 Hst.out.set Hst.out.ne)
    with_reducible refine Calls.mono CC.out ?_
    rintro e wx ⟨vx, rfl, hox, hkx⟩
    clear CC q_0 q_1
    have hkb2 := hkb.trans hkx
    have hox2 := hox.mono (hkw.trans hkb).le
    clear hox
    cases hb : betF F now with
    | none =>
      have Hd := Lib.hid (Hst.out.done hb)
      have Hbn : Hid ((none : Option (List Int)).isSome = false) := rfl
      rw [Hbn.out]
      clear hb
      go_wp2_with fail
      obtain ⟨v', e1, e2⟩ := lo_yes Hg.out Hd.out.1 Hd.out.2 (hown.kp hkx)
      go_ret3
      exact ⟨v', e1, e2, hkw.trans hkb2⟩
    | some T =>
      obtain ⟨k', hk'⟩ := Hst.out.next HP.out.1 hb
      have Hk' := Lib.hid hk'
      have Hbn : Hid ((some T : Option (List Int)).isSome = true) := rfl
      rw [hb] at hox2
      have hox3 : Own wx w.heap.size vx T := hox2
      rw [Hbn.out]
      clear hb hk' hox2
      go_wp2_with fail
      go_roundw
      case rel => exact ⟨k', many + 1, T, hox3, by go_num, Hk', hkb2⟩
      case measure => simp [intOf]; omega
set_option maxRecDepth 100000 in
set_option maxHeartbeats 2000000 in
theorem specLo_any (f : Value) (F : Fld) (A0 : Option Addr) (S : List Int) (n c0 : Nat) (w : World) (hf : FldAt w f F) (hS : IntsAt w A0 S) (hn : S.length = n) :
    Calls Try.prog 30 #[f, .slice A0 n n] w fun e w' => ∃ v, e = .returned (.tuple #[v, .int .i64 (loM F S), .bool (openedB F S)]) ∧ Own w' w.heap.size v (loL F S) ∧ Kp w w' := by
  obtain ⟨A, c, B, d, rfl, hA, hB⟩ := hf
  have hk0 : Kp w (w.alloc (.cells #[.slice A F.op.length c, .slice B F.di.length d] 29)) := (Kp.refl w).alloc _
  obtain ⟨d0, d1⟩ := box2 w (.slice A F.op.length c) (.slice B F.di.length d) 29
  have hFA := FldAt.kp (show FldAt w (.agg #[.slice A F.op.length c, .slice B F.di.length d]) F from ⟨A, c, B, d, rfl, hA, hB⟩) hk0
  replace hS := hS.kp hk0
  have Hn := Lib.hid hn
  clear hA hB hn
  go_enter Try.func30, Try.ntmps30
  go_wp2_with fail
  have hsz : Hid ((w.alloc (.cells #[.slice A F.op.length c, .slice B F.di.length d] 29)).heap.size = w.heap.size + 1) := by show _ = _; simp
  generalize w.alloc (.cells #[.slice A F.op.length c, .slice B F.di.length d] 29) = wb at *
  have hkb : Kp wb wb := Kp.refl _
  have hkw := hk0
  have q_d0 := hkb.get d0
  have q_d1 := hkb.get d1
  go_wp2_with fail
  have CC := Lib.hid (l2Two_any _ F A0 S n n _ (hFA.kp hkb) (hS.kp hkb) Hn.out)
  with_reducible refine Calls.mono CC.out ?_
  rintro e w1 ⟨rfl, hk1⟩
  clear CC q_d0 q_d1
  replace hkb := hkb.trans hk1
  have hb0 : w.heap.size ≤ w1.heap.size := (hkw.trans hkb).le
  cases hg_ : openedB F S
  · have Hno := Lib.hid hg_
    clear hg_
    have q_d0 := hkb.get d0
    have q_d1 := hkb.get d1
    go_wp2_with fail
    obtain ⟨v', e1, e2⟩ := lo_no Hno.out (own_new0 w1 w.heap.size hb0)
    go_ret3
    exact ⟨v', e1, e2, (hkw.trans hkb).alloc _⟩
  have Hg := Lib.hid hg_
  clear hg_
  have HP := Lib.hid (openedB_parts Hg.out)
  have h7n := (goodF_iff.1 HP.out.1).1.2
  have hsl := set_len HP.out.2.1
  obtain ⟨ad, rfl⟩ : ∃ ad, A0 = some ad := by obtain ⟨ad, e, _⟩ := hS.at_ (k := 0) (List.length_pos_iff.2 HP.out.2.2); exact ⟨ad, e⟩
  have hn7 : n ≤ 7 := by have := Hn.out; omega
  have q_d0 := hkb.get d0
  have q_d1 := hkb.get d1
  go_wp2_with fail
  have CC := Lib.hid (l1Own_any ad S n n _ (hS.kp hkb) Hn.out (by omega))
  with_reducible refine Calls.mono CC.out ?_
  rintro e w2 ⟨v, rfl, hov, hk2⟩
  clear CC q_d0 q_d1
  replace hkb := hkb.trans hk2
  have hst := loSt.first HP.out.1 HP.out.2.1 HP.out.2.2
  have hov2 := hov.mono hb0
  clear hov
  obtain ⟨An, cn, hne, hni⟩ := hov2.ints (by omega)
  have hcn := hov2.cap hne
  subst hne
  rw [Hn.out] at hov2 hcn ⊢
  have q_d0 := hkb.get d0
  have q_d1 := hkb.get d1
  go_wp2_with fail
  have CC := Lib.hid (l3Better_any _ F An S n cn _ (hFA.kp hkb) hni Hn.out hcn HP.out.1 HP.out.2.1 HP.out.2.2)
  with_reducible refine Calls.mono CC.out ?_
  rintro e w3 ⟨vx, rfl, hox, hk3⟩
  clear CC q_d0 q_d1
  replace hkb := hkb.trans hk3
  replace hov2 := hov2.kp hk3
  have hox2 := hox.mono (Nat.le_trans hb0 hk2.le)
  clear hox hni
  have hFl := hFA
  have q_d0 := hkb.get d0
  have q_d1 := hkb.get d1
  go_wp2_with fail
  go_loopw [7, 8, 9, 10] (fun nv mv xv kv wr => ∃ (k many : Nat) (now : List Int), Own wr w.heap.size nv now ∧ mv = .int .i64 many ∧ Own wr w.heap.size xv ((betF F now).getD []) ∧ kv = .bool (betF F now).isSome ∧ Hid (loSt F S k many now) ∧ Kp wb wr) (fun _ mv _ _ _ => 1500 - (intOf mv).toNat)
  case atStart => exact ⟨1400, 0, S, hov2, rfl, hox2, rfl, hst, hkb⟩
  case round =>
    clear hov2 hst hkb hox2 hk1 hk2 hk3
    obtain ⟨k, many, now, hown, rfl, hox, rfl, Hst, hkb⟩ := hrel
    have hnl := set_len Hst.out.set
    have htb := tot_bd HP.out.1 Hst.out.set
    have hfw := Hst.out.few
    have hm14 : many ≤ 1400 := by omega
    cases hb : betF F now with
    | none =>
      have Hd := Lib.hid (Hst.out.done hb)
      have Hbn : Hid ((none : Option (List Int)).isSome = false) := rfl
      rw [Hbn.out]
      clear hb
      go_wp2_with fail
      obtain ⟨v', e1, e2⟩ := lo_yes Hg.out Hd.out.1 Hd.out.2 hown
      go_ret3
      exact ⟨v', e1, e2, hkw.trans hkb⟩
    | some T =>
      obtain ⟨k', hk'⟩ := Hst.out.next HP.out.1 hb
      have Hk' := Lib.hid hk'
      have Hbn : Hid ((some T : Option (List Int)).isSome = true) := rfl
      rw [hb] at hox
      have hox3 : Own wr w.heap.size _ T := hox
      rw [Hbn.out]
      have htl := set_len hk'.set
      clear hb hk' hox
      obtain ⟨Ax, cx, hxe, hxi⟩ := hox3.ints (by omega)
      have hcx := hox3.cap hxe
      subst hxe
      have q_0 := hkb.get d0
      have q_1 := hkb.get d1
      go_wp2_with fail
      have CC := Lib.hid (l3Better_any _ F Ax T T.length cx _ (hFl.kp hkb) hxi rfl hcx HP.out.1 Hk'.out.set Hk'.out.ne)
      with_reducible refine Calls.mono CC.out ?_
      rintro e wy ⟨vy, rfl, hoy, hky⟩
      clear CC q_0 q_1
      have hkb2 := hkb.trans hky
      go_wp2_with fail
      go_roundw
      case rel => exact ⟨k', many + 1, T, hox3.kp hky, by go_num, hoy.mono (hkw.trans hkb).le, rfl, Hk', hkb2⟩
      case measure => simp [intOf]; omega
end Go.Proofs.Ytcekddpllpbkmaa

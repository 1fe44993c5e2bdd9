/- HallClients: the program. No condition. -/
import Derived.Test.YtcekddpllpbkmaaHall
import Derived.Test.YtcekddpllpbkmaaSets
import Derived.Test.YtcekddpllpbkmaaLists
import Derived.Test.YtcekddpllpbkmaaTabs
namespace Go.Proofs.Ytcekddpllpbkmaa
open Go.RowKit Go.Sort

def wRoom (F : Fld) (rooms C S : List Int) (r : Int) (k : Nat) : Int := roomS rooms (withinTo F C S r k)
theorem roomS_app (xs C D : List Int) : roomS xs (C ++ D) = roomS xs C + roomS xs D := by unfold roomS; rw [List.map_append, List.sum_append]
theorem wRoom_zero (F : Fld) (rooms C S : List Int) (r : Int) : wRoom F rooms C S r 0 = 0 := rfl
theorem wRoom_yes {F : Fld} {rooms C S : List Int} {r : Int} {k : Nat} (hk : k < S.length) (h : nearB F C r S[k] = true) : wRoom F rooms C S r (k + 1) = wRoom F rooms C S r k + numAt rooms S[k] := by
  unfold wRoom
  rw [within_yes hk h, roomS_app]; simp [roomS]
theorem wRoom_no {F : Fld} {rooms C S : List Int} {r : Int} {k : Nat} (hk : k < S.length) (h : nearB F C r S[k] = false) : wRoom F rooms C S r (k + 1) = wRoom F rooms C S r k := by
  unfold wRoom
  rw [within_no hk h]
theorem wRoom_all {F : Fld} {rooms C S : List Int} {r : Int} {k : Nat} (hk : S.length ≤ k) : wRoom F rooms C S r k = roomS rooms (withinL F C S r) := by unfold wRoom; rw [within_all hk]
set_option maxHeartbeats 400000 in
theorem hallClo_any (F : Fld) (r a : Int) (A : Option Addr) (c : Nat) (B : Option Addr) (d : Nat) (p q t : Nat) (w : World) (hf : FldAt w (.agg #[.slice A F.op.length c, .slice B F.di.length d]) F) (x1 : w.cell? ⟨p, 1, none⟩ = some (.slice B F.di.length d)) (y0 : w.cell? ⟨q, 0, none⟩ = some (.int .i64 a)) (z0 : w.cell? ⟨t, 0, none⟩ = some (.int .i64 r))
    (j : Int) (hg : goodF F = true) (j0 : 0 ≤ j) (j1 : j < F.di.length) (a0 : 0 ≤ a) (a1 : a < F.op.length) :
    Calls Try.prog 61 #[.int .i64 j, .pointer (some ⟨p, 0, none⟩), .pointer (some ⟨q, 0, none⟩), .pointer (some ⟨t, 0, none⟩)] w fun e w' => e = .returned (.bool (decide (dAt F j.toNat a ≤ r))) ∧ Kp w w' := by
  obtain ⟨A', c', B', d', e, _, hB⟩ := hf
  simp only [Value.agg.injEq, Array.mk.injEq, List.cons.injEq, Value.slice.injEq] at e
  obtain ⟨_, ⟨rfl, _, rfl⟩, _⟩ := e
  obtain ⟨b, rfl⟩ := Int.eq_ofNat_of_zero_le j0
  have hbl : b < F.di.length := by omega
  obtain ⟨bd, A2, c2, rfl, hcr, hr⟩ := hB.at_ hbl
  have hrl := goodRow hg hbl
  obtain ⟨rd, rfl, _⟩ := hr.at_ (k := 0) (by omega)
  have hdc := dCell hbl hr a0 (by omega)
  have z2 : a.toNat < F.di[b].length := by omega
  have HE : Hid (dAt F ((b : Nat) : Int).toNat a = dAt F b a) := rfl
  replace hrl := Lib.hid hrl
  go_enter Try.func61, Try.ntmps61
  go_wp2_with fail
  go_quiet (fail)
  go_wp2_with fail
  go_ret
  exact ⟨by rw [HE.out]; rfl, (Kp.refl _).drewN nq⟩
theorem wRoom_bd {F : Fld} {rooms C S : List Int} {r : Int} (h : ∀ x ∈ rooms, -20 ≤ x ∧ x ≤ 20) (k : Nat) (hk : k ≤ 7) : -700000 ≤ wRoom F rooms C S r k ∧ wRoom F rooms C S r k ≤ 700000 := by
  unfold wRoom
  exact roomS_bd (M := 20) (by omega) (by omega) h (by have := within_len F C S r k; omega)
set_option maxRecDepth 100000 in
set_option maxHeartbeats 3000000 in
theorem implHc_any (f : Value) (F : Fld) (A1 : Option Addr) (rooms : List Int) (n1 c1 : Nat) (A2 : Option Addr) (needs : List Int) (n2 c2 : Nat) (A3 : Option Addr) (S : List Int) (n3 c3 : Nat) (r : Int) (w : World) (hf : FldAt w f F) (h1 : IntsAt w A1 rooms) (hn1 : rooms.length = n1) (h2 : IntsAt w A2 needs) (hn2 : needs.length = n2) (h3 : IntsAt w A3 S) (hn3 : S.length = n3) :
    Calls Try.prog 23 #[f, .slice A1 n1 c1, .slice A2 n2 c2, .slice A3 n3 c3, .int .i64 r] w fun e w' => ∃ v, e = .returned (.tuple #[v, .bool (hcOk F rooms needs S r)]) ∧ Own w' w.heap.size v (hcL F rooms needs S r) ∧ Kp w w' := by
  obtain ⟨A, c, B, d, rfl, hA, hB⟩ := hf
  have hk0 : Kp w ((w.alloc (.cells #[.slice A F.op.length c, .slice B F.di.length d] 29)).alloc (.cells #[.int .i64 r] 3)) := ((Kp.refl w).alloc _).alloc _
  obtain ⟨d0, d1⟩ := box2 w (.slice A F.op.length c) (.slice B F.di.length d) 29
  have hFA := FldAt.kp (show FldAt w (.agg #[.slice A F.op.length c, .slice B F.di.length d]) F from ⟨A, c, B, d, rfl, hA, hB⟩) hk0
  replace d0 := ((Kp.refl _).alloc (.cells #[.int .i64 r] 3)).get d0
  replace d1 := ((Kp.refl _).alloc (.cells #[.int .i64 r] 3)).get d1
  have d2 : ((w.alloc (.cells #[.slice A F.op.length c, .slice B F.di.length d] 29)).alloc (.cells #[.int .i64 r] 3)).cell? ⟨w.heap.size + 1, 0, none⟩ = some (.int .i64 r) := by
    rw [World.cell?_alloc_at _ _ _ _ (by simp)]; rfl
  replace h1 := h1.kp hk0
  replace h2 := h2.kp hk0
  replace h3 := h3.kp hk0
  have Hn1 := Lib.hid hn1; have Hn2 := Lib.hid hn2; have Hn3 := Lib.hid hn3
  clear hA hB hn1 hn2 hn3
  go_enter Try.func23, Try.ntmps23
  go_wp2_with fail
  generalize (w.alloc (.cells #[.slice A F.op.length c, .slice B F.di.length d] 29)).alloc (.cells #[.int .i64 r] 3) = wb at *
  have hkb : Kp wb wb := Kp.refl _
  have CC := Lib.hid (isHaul_any _ F A1 rooms n1 c1 A2 needs n2 c2 A3 S n3 c3 wb hFA h1 Hn1.out h2 Hn2.out h3 Hn3.out)
  with_reducible refine Calls.mono CC.out ?_
  rintro e w1 ⟨rfl, hk1⟩
  clear CC
  replace hkb := hkb.trans hk1
  cases hg_ : haulB F rooms needs S
  · have Hno : Hid (hcOk F rooms needs S r = false) := by show _ = _; rw [hcOk, hcIn, hg_]; rfl
    have Hnl : Hid (hcL F rooms needs S r = []) := by show _ = _; rw [hcL, hcIn, hg_]; rfl
    clear hg_
    have q_d0 := hkb.get d0
    have q_d1 := hkb.get d1
    have q_d2 := hkb.get d2
    go_wp2_with fail
    go_ret2
    exact ⟨_, by rw [Hno.out]; rfl, by rw [Hnl.out]; exact Own.nil _ _, hk0.trans hkb⟩
  by_cases hr0 : r < 0
  · have Hno : Hid (hcOk F rooms needs S r = false) := by show _ = _; rw [hcOk, hcIn, decide_eq_false (show ¬ 0 ≤ r by omega), Bool.and_false]; rfl
    have Hnl : Hid (hcL F rooms needs S r = []) := by show _ = _; rw [hcL, hcIn, decide_eq_false (show ¬ 0 ≤ r by omega), Bool.and_false]; rfl
    clear hg_
    have q_d0 := hkb.get d0
    have q_d1 := hkb.get d1
    have q_d2 := hkb.get d2
    go_wp2_with fail
    go_ret2
    exact ⟨_, by rw [Hno.out]; rfl, by rw [Hnl.out]; exact Own.nil _ _, hk0.trans hkb⟩
  have Hin : Hid (hcIn F rooms needs S r = true) := by show _ = _; rw [hcIn, hg_, decide_eq_true (show 0 ≤ r by omega)]; rfl
  have HP := Lib.hid (haulB_iff.1 hg_)
  have HO := Lib.hid (openedB_parts HP.out.1)
  have HG := Lib.hid (goodF_iff.1 HO.out.1)
  have hd7 := HG.out.2.2.1
  have hs7 := HG.out.1.2
  have HS := Lib.hid (set_mem HO.out.2.1)
  have hn3b : n3 ≤ 7 := by have := risB_len HO.out.2.1; have := Hn3.out; omega
  have Hov : Hid (hcL F rooms needs S r = hcV F rooms needs S r) := by show _ = _; rw [hcL, Hin.out, if_pos rfl]
  have Hok : Hid (hcOk F rooms needs S r = !(hcV F rooms needs S r).isEmpty) := by show _ = _; rw [hcOk, Hin.out]; rfl
  clear hg_
  have q_d0 := hkb.get d0
  have q_d1 := hkb.get d1
  have q_d2 := hkb.get d2
  go_wp2_with fail
  have CC := Lib.hid (sets_any F.di.length w1 hd7)
  with_reducible refine Calls.mono CC.out ?_
  rintro e w2 ⟨v, rfl, hvn, hgo, hk2⟩
  clear CC q_d0 q_d1 q_d2
  replace hkb := hkb.trans hk2
  have hsl : (setsL F.di.length).length ≤ 127 := by rw [setsL_len]; have h128 : 2 ^ F.di.length ≤ 2 ^ 7 := Nat.pow_le_pow_right (by omega) hd7; omega
  obtain ⟨ad, cx, hve, hcx, hrows⟩ := hgo.rows_some (by omega) hvn
  subst hve
  clear hgo hvn
  have hw1le := (hk0.trans hk1).le
  obtain ⟨rows, hre⟩ : ∃ rows, rows = setsL F.di.length := ⟨_, rfl⟩
  rw [← hre] at hrows hcx hsl ⊢
  have Hfind : Hid (hcV F rooms needs S r = (rows.find? (hallB F rooms needs S r)).getD []) := by show _ = _; rw [hre]; rfl
  have Hset : Hid (∀ C ∈ rows, (∀ x ∈ C, 0 ≤ x ∧ x < F.di.length) ∧ C ≠ [] ∧ C.length ≤ 7) := by
    show ∀ C ∈ rows, _
    rw [hre]
    intro C hC
    have h := mem_setsL.1 hC
    refine ⟨fun x hx => ?_, h.1, ?_⟩
    · have := (ris_iff.1 h.2).2 x hx; omega
    · have := risB_len h.2; omega
  obtain ⟨m, hml⟩ : ∃ m, m = rows.length := ⟨_, rfl⟩
  rw [← hml] at hsl ⊢
  replace hml := Lib.hid hml
  clear hre
  have g0 := hkb.get d0
  have g1 := hkb.get d1
  have g2 := hkb.get d2
  have hFl := hFA.kp hkb
  have h1l := h1.kp hkb
  have h2l := h2.kp hkb
  have h3l := h3.kp hkb
  have hkl := hk0.trans hkb
  obtain ⟨wl, rfl⟩ : ∃ wl : World, wl = w2 := ⟨_, rfl⟩
  clear hkb d0 d1 d2 hFA h1 h2 h3 hk0 hk1 hk2
  go_wp2_with fail
  go_loopw [34] (fun iv wr => ∃ k : Nat, k ≤ m ∧ iv = .int .i64 k ∧ Hid (∀ x ∈ rows.take k, hallB F rooms needs S r x = false) ∧ Kp wl wr) (fun iv _ => m - (intOf iv).toNat)
  case atStart => exact ⟨0, by omega, rfl, by show ∀ x ∈ rows.take 0, _; simp, Kp.refl _⟩
  case round =>
    obtain ⟨j, hj, rfl, Hp, hkr⟩ := hrel
    obtain ⟨wo, rfl⟩ : ∃ wo : World, wo = wr := ⟨_, rfl⟩
    by_cases hlt : j < m
    · have lx : j < rows.length := by rw [← hml.out]; exact hlt
      obtain ⟨A4, c4, hcl, hc4, hri, hrq⟩ := (hrows.kp hkr).some_ lx
      have q1 := Lib.hid (Hset.out _ (List.getElem_mem lx))
      have HHb : Hid (hallB F rooms needs S r rows[j] = decide (roomS rooms (withinL F rows[j] S r) < roomS needs rows[j])) := rfl
      have Htk : Hid (∀ (hno : hallB F rooms needs S r rows[j] = false), ∀ x ∈ rows.take (j + 1), hallB F rooms needs S r x = false) := by
        show ∀ (hno : _), _
        intro hno x hx
        rw [List.take_succ_eq_append_getElem lx, List.mem_append] at hx
        rcases hx with hx | hx
        · exact Hp.out x hx
        · have e : x = rows[j] := by simpa using hx
          rw [e]; exact hno
      have Hfd : Hid (hallB F rooms needs S r rows[j] = true → hcV F rooms needs S r = rows[j]) := by
        show _ → _
        intro hy
        rw [Hfind.out, find_at lx Hp.out hy]; rfl
      go_wp2_with fail
      clear hcl
      obtain ⟨C, hC⟩ : ∃ C, C = rows[j] := ⟨_, rfl⟩
      rw [← hC] at hc4 hri hrq q1 HHb Htk Hfd ⊢
      obtain ⟨nC, hnC⟩ : ∃ nC, nC = C.length := ⟨_, rfl⟩
      rw [← hnC] at hc4 hrq ⊢
      have hnC7 : nC ≤ 7 := by rw [hnC]; exact q1.out.2.2
      replace hnC := Lib.hid hnC.symm
      have hnd : ∀ x ∈ needs, -5 ≤ x ∧ x ≤ 5 := fun x hx => by have := HP.out.2.2.1 x hx; omega
      have hrd : ∀ x ∈ rooms, -20 ≤ x ∧ x ≤ 20 := fun x hx => by have := HP.out.2.1.1 x hx; omega
      have HB := Lib.hid (fun k (hk : k ≤ C.length) => roomTo_bd (C := C) (M := 5) (by omega) (by omega) hnd k hk)
      have HN := Lib.hid (fun a => numAt_bd (M := 5) (by omega) hnd a)
      have HW := Lib.hid (fun k (hk : k ≤ 7) => wRoom_bd (F := F) (C := C) (S := S) (r := r) hrd k hk)
      have HM := Lib.hid (fun a => numAt_bd (M := 20) (by omega) hrd a)
      clear hnd hrd hC
      go_loop [14, 40] (fun sv iv => ∃ q : Nat, q ≤ nC ∧ iv = .int .i64 q ∧ sv = .int .i64 (roomTo needs C q)) (fun _ iv => nC - (intOf iv).toNat)
      case atStart => exact ⟨0, by omega, rfl, rfl⟩
      case round =>
        obtain ⟨q, hq, rfl, rfl⟩ := hrel
        by_cases hlq : q < nC
        · have lq : q < C.length := by rw [hnC.out]; exact hlq
          obtain ⟨sd, rfl, hck⟩ := hri.at_ lq
          obtain ⟨ha0, ha1⟩ := q1.out.1 _ (List.getElem_mem lq)
          replace ha1 : C[q] < (n2 : Int) := by have := HP.out.2.2.2; have := Hn2.out; omega
          obtain ⟨rd, rfl, _⟩ := (h2l.kp hkr).at_ (k := 0) (by rw [Hn2.out]; omega)
          have hnc := numCell (h2l.kp hkr) ha0 (by rw [Hn2.out]; exact ha1)
          have hsu := Lib.hid (roomTo_succ (xs := needs) lq)
          obtain ⟨b1, b2⟩ := HB.out q (Nat.le_of_lt lq)
          obtain ⟨b3, b4⟩ := HN.out C[q]
          generalize numAt needs C[q] = x at *
          generalize roomTo needs C q = p at *
          go_wp2_with fail
          go_round
          case rel => exact ⟨q + 1, by omega, by go_num, by rw [hsu.out] <;> go_num⟩
          case measure => simp [intOf]; omega
        · have HT : Hid (roomTo needs C q = roomS needs C) := roomTo_all (by rw [hnC.out]; omega)
          obtain ⟨b1, b2⟩ := HB.out q (by rw [hnC.out]; omega)
          generalize roomTo needs C q = T at *
          go_wp2_with fail
          go_loopw [14, 53] (fun sv iv wr => ∃ p : Nat, p ≤ n3 ∧ iv = .int .i64 p ∧ sv = .int .i64 (T - wRoom F rooms C S r p) ∧ Kp wo wr) (fun _ iv _ => n3 - (intOf iv).toNat)
          case atStart => exact ⟨0, by omega, rfl, by rw [wRoom_zero, Int.sub_zero], Kp.refl _⟩
          case round =>
            obtain ⟨p, hp, rfl, rfl, hkp⟩ := hrel
            obtain ⟨u1, u2⟩ := HW.out p (by omega)
            by_cases hlp : p < n3
            · have lp : p < S.length := by rw [Hn3.out]; exact hlp
              obtain ⟨sd, rfl, hsc⟩ := ((h3l.kp hkr).kp hkp).at_ lp
              obtain ⟨z0, z1⟩ := HS.out _ (List.getElem_mem lp)
              obtain ⟨u3, u4⟩ := HM.out S[p]
              have z2 : S[p] < (n1 : Int) := by have := HP.out.2.1.2; have := Hn1.out; omega
              obtain ⟨rd, rfl, _⟩ := ((h1l.kp hkr).kp hkp).at_ (k := 0) (by rw [Hn1.out]; omega)
              have hnr := numCell ((h1l.kp hkr).kp hkp) z0 (by rw [Hn1.out]; exact z2)
              have hka := (Kp.refl wr).alloc (.cells #[.int .i64 S[p]] 3)
              have u9 : (wr.alloc (.cells #[.int .i64 S[p]] 3)).cell? ⟨wr.heap.size, 0, none⟩ = some (.int .i64 S[p]) := by
                rw [World.cell?_alloc_at _ _ _ _ rfl]; rfl
              have hkv := hkr.trans (hkp.trans hka)
              have hrv := hri.kp (hkp.trans hka)
              have hnv := hka.get hnr
              have hcf := callFunc_of Try.func61 (by kernel_rfl) (by kernel_rfl)
              go_wp2_with fail
              generalize wr.alloc (.cells #[.int .i64 S[p]] 3) = wv at *
              have C0 := containsFunc_any 61 #[.pointer (some ⟨w.heap.size, 0, none⟩), .pointer (some ⟨wr.heap.size, 0, none⟩), .pointer (some ⟨w.heap.size + 1, 0, none⟩)] (fun x => decide (dAt F x.toNat S[p] ≤ r)) A4 C nC c4 wv hrv hnC.out hcf
                (fun k hk w' hk' => hallClo_any F r S[p] A c B d _ _ _ w' (hFl.kp (hkv.trans hk')) ((hkv.trans hk').get g1) (hk'.get u9) ((hkv.trans hk').get g2) C[k] HO.out.1 (q1.out.1 _ (List.getElem_mem hk)).1 (q1.out.1 _ (List.getElem_mem hk)).2 z0 z1)
              rw [show (C.any fun x => decide (dAt F x.toNat S[p] ≤ r)) = nearB F C r S[p] from rfl] at C0
              have CC := Lib.hid C0
              clear C0
              with_reducible refine Calls.mono CC.out ?_
              rintro e w5 ⟨rfl, hk5⟩
              clear CC hcf hrv
              have v9 := hk5.get u9
              have vr := hk5.get hnv
              have hkn := hkp.trans (hka.trans hk5)
              cases hnb : nearB F C r S[p]
              · have hsu := Lib.hid (wRoom_no (rooms := rooms) lp hnb)
                clear hnb
                go_wp2_with fail
                go_roundw
                case rel => exact ⟨p + 1, by omega, by go_num, by rw [hsu.out], hkn⟩
                case measure => simp [intOf]; omega
              · have hsu := Lib.hid (wRoom_yes (rooms := rooms) lp hnb)
                clear hnb
                generalize numAt rooms S[p] = x at *
                generalize wRoom F rooms C S r p = W at *
                go_wp2_with fail
                go_roundw
                case rel => exact ⟨p + 1, by omega, by go_num, by rw [hsu.out] <;> go_num, hkn⟩
                case measure => simp [intOf]; omega
            · have HWa : Hid (wRoom F rooms C S r p = roomS rooms (withinL F C S r)) := wRoom_all (by rw [Hn3.out]; omega)
              generalize wRoom F rooms C S r p = W at *
              by_cases hgt : 0 < T - W
              · have Hy : Hid (hallB F rooms needs S r C = true) := by show _ = _; rw [HHb.out, ← HWa.out, ← HT.out]; exact decide_eq_true (by omega)
                have He := Lib.hid (Hfd.out Hy.out)
                have He2 : Hid (hcOk F rooms needs S r = true) := by
                  show _ = _
                  rw [Hok.out, He.out]
                  have := q1.out.2.1
                  cases h : C with
                  | nil => exact absurd h this
                  | cons a t => rfl
                go_wp2_with fail
                go_ret2
                exact ⟨_, by rw [He2.out]; rfl, by rw [Hov.out, He.out]; exact (((hrq.kp hkp).2 _ rfl).mono hw1le), hkl.trans (hkr.trans hkp)⟩
              · have Hno : Hid (hallB F rooms needs S r C = false) := by show _ = _; rw [HHb.out, ← HWa.out, ← HT.out]; exact decide_eq_false (by omega)
                have Hy := Lib.hid (Htk.out Hno.out)
                go_wp2_with fail
                go_roundw
                case rel => exact ⟨j + 1, by omega, by go_num, Hy, hkr.trans hkp⟩
                case measure => simp [intOf]; omega
    · have He : Hid (hcV F rooms needs S r = []) := by
        show _ = _
        have h := Hp.out
        rw [List.take_of_length_le (by rw [← hml.out]; omega)] at h
        rw [Hfind.out, find_no h]; rfl
      have He2 : Hid (hcOk F rooms needs S r = false) := by show _ = _; rw [Hok.out, He.out]; rfl
      go_wp2_with fail
      go_ret2
      exact ⟨_, by rw [He2.out]; rfl, by rw [Hov.out, He.out]; exact Own.nil _ _, hkl.trans hkr⟩
end Go.Proofs.Ytcekddpllpbkmaa

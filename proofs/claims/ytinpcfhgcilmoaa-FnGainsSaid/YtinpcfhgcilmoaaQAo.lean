/- The drawing of arguments: a table and a number of sites. No condition. -/
import Derived.Test.YtinpcfhgcilmoaaQAm
import Derived.Test.YtinpcfhgcilmoaaQAn
namespace Go.Proofs.Ytinpcfhgcilmoaa
open Go.RowKit Go.Sort

/-- A table that has been drawn. -/
def DTab (w : World) (b : Nat) (v : Value) : Prop := ∃ xs : List Int, Own w b v xs ∧ xs.length ≤ 200
def MoPost (w : World) (e : Ending) (w' : World) : Prop := ∃ (a : Int) (l : Value), e = .returned (.tuple #[.int .i64 a, l]) ∧ DTab w' w.heap.size l ∧ Kp w w'
theorem DTab.mono {w : World} {b b' : Nat} {v : Value} (h : DTab w b v) (hb : b' ≤ b) : DTab w b' v := by
  obtain ⟨xs, h1, h2⟩ := h
  exact ⟨xs, h1.mono hb, h2⟩
theorem DTab.turn {S : Nat → Prop} {w w' : World} {b : Nat} {v : Value} (h : DTab w b v) (ht : Turn S w w') (hn : ∀ i, b ≤ i → ¬ S i) : DTab w' b v := by
  obtain ⟨xs, h1, h2⟩ := h
  exact ⟨xs, own_low h1 ht hn, h2⟩
theorem DTab.ints {w : World} {b : Nat} {v : Value} (h : DTab w b v) : ∃ A c xs, v = .slice A xs.length c ∧ IntsAt w A xs ∧ xs.length ≤ 200 ∧ xs.length ≤ c := by
  obtain ⟨xs, h1, h2⟩ := h
  obtain ⟨A, c, e, hi⟩ := h1.ints (by omega)
  exact ⟨A, c, xs, e, hi, h2, h1.capL e⟩
set_option maxRecDepth 100000 in
set_option maxHeartbeats 4000000 in
theorem drawIsMonotone_any (A : Option Addr) (n c : Nat) (w : World) (hb : BytesAt w A n) :
    Calls Try.prog 31 #[.slice A n c] w fun e w' => MoPost w e w' := by
  have k0 : Kp w (w.alloc (.cells #[.slice A n c, .int .i64 0, .int .u64 0] 49)) := (Kp.refl w).alloc _
  have cu := cur_new (c := c) (t := 49) hb
  have hz : Hid ((w.alloc (.cells #[.slice A n c, .int .i64 0, .int .u64 0] 49)).heap.size = w.heap.size + 1) := by show _ = _; simp
  have CF := Lib.hid (fieldOf_any w.heap.size 0 5 _ cu (by omega) (by omega))
  go_enter Try.func31, Try.ntmps31
  go_wp2_with fail
  generalize w.alloc (.cells #[.slice A n c, .int .i64 0, .int .u64 0] 49) = wa at *
  with_reducible refine Calls.mono CF.out ?_
  rintro e w1 ⟨v, rfl, hv, c1, u1⟩
  clear CF cu
  rw [hz.out] at hv
  obtain ⟨F, A9, c9, B9, d9, rfl, hi1, hi2⟩ := id hv
  have hfa : FldAt w1 (.agg #[.slice A9 F.op.length c9, .slice B9 F.di.length d9]) F := FldP.fld ⟨A9, c9, B9, d9, rfl, hi1, hi2⟩
  have kv : Kp w1 (w1.alloc (.cells #[.slice A9 F.op.length c9, .slice B9 F.di.length d9] 27)) := (Kp.refl w1).alloc _
  obtain ⟨d0, d1⟩ := box2 w1 (.slice A9 F.op.length c9) (.slice B9 F.di.length d9) 27
  have hvb : w.heap.size + 1 ≤ w1.heap.size := by have := u1.size; rw [hz.out] at this; exact this
  have kk : Kp w (w1.alloc (.cells #[.slice A9 F.op.length c9, .slice B9 F.di.length d9] 27)) := (k0.turn u1 (fun i hi => by omega)).trans kv
  have cv := c1.kp kv
  have hfp : FldP (w1.alloc (.cells #[.slice A9 F.op.length c9, .slice B9 F.di.length d9] 27)) (fun i => w.heap.size + 1 ≤ i) (.agg #[.slice A9 F.op.length c9, .slice B9 F.di.length d9]) F := FldP.kp ⟨A9, c9, B9, d9, rfl, hi1, hi2⟩ kv
  clear hv c1 u1 k0 hz hi1 hi2 hfa kv
  go_wp2_with fail
  generalize w1.alloc (.cells #[.slice A9 F.op.length c9, .slice B9 F.di.length d9] 27) = wr at *
  generalize w1.heap.size = bv at *
  have s0 := (Kp.refl wr).drew.get d0
  have s1 := (Kp.refl wr).drew.get d1
  have cd := cv.kp (Kp.refl wr).drew
  have CW := Lib.hid (worth_any w.heap.size _ wr.drew cd (by omega))
  have hbv : bv ≠ w.heap.size := by omega
  refine wp_region_held_drew (S := fun w' => w'.cell? ⟨bv, 0, none⟩ = some (.slice A9 F.op.length c9) ∧ w'.cell? ⟨bv, 1, none⟩ = some (.slice B9 F.di.length d9)) (by kernel_rfl) ⟨s0, s1⟩ (fun hHeld => ?_)
  refine wpAnyH_take (i := 0) (v := ?_) rfl (by kernel_rfl) (by kernel_rfl) (by kernel_rfl) (fun _ _ _ h => h) (Or.inl ⟨by rfl, ?_⟩) (by assumption) ?_
  rotate_left
  · intro w hSw; (try dsimp only at hSw); go_simp <;> with_reducible rfl
  (try simp only [Act.put, List.setIfInBounds_toArray, List.set_cons_zero, List.set_cons_succ])
  refine wpAnyH_take (i := 1) (v := ?_) rfl (by kernel_rfl) (by kernel_rfl) (by kernel_rfl) (fun _ _ _ h => h) (Or.inl ⟨by rfl, ?_⟩) (by assumption) ?_
  rotate_left
  · intro w hSw; (try dsimp only at hSw); go_simp <;> with_reducible rfl
  (try simp only [Act.put, List.setIfInBounds_toArray, List.set_cons_zero, List.set_cons_succ])
  refine wpAnyH_ready (rs := [2]) (by kernel_rfl) (by simp) ?_
  refine AllReadyH.cons rfl (fun K hK => ?_) AllReadyH.nil
  go_simp
  with_reducible refine Calls.mono CW.out ?_
  rintro e wa1 ⟨r, rfl, cA, uA⟩
  clear CW
  (try go_wp2_with fail)
  have s0a := turn_cellD uA s0 hbv
  have s1a := turn_cellD uA s1 hbv
  refine hK.out _ _ ?_ (fun hHeld => ?_)
  · (try dsimp only); exact ⟨s0a, s1a⟩
  clear hK K
  (try simp only [Act.put, List.setIfInBounds_toArray, List.set_cons_zero, List.set_cons_succ])
  have hfA := (hfp.kp (Kp.refl wr).drew).turn uA (fun i hi => by omega)
  have CT := Lib.hid (specTab_any _ F r wa1 hfA.fld)
  refine wpAnyH_ready (rs := [3]) (by kernel_rfl) (by simp) ?_
  refine AllReadyH.cons rfl (fun K hK => ?_) AllReadyH.nil
  go_simp
  with_reducible refine Calls.mono CT.out ?_
  rintro e wa2 ⟨tv, rfl, ho, kA⟩
  clear CT
  (try go_wp2_with fail)
  have s0b := kA.get s0a
  have s1b := kA.get s1a
  refine hK.out _ _ ?_ (fun hHeld => ?_)
  · (try dsimp only); exact ⟨s0b, s1b⟩
  clear hK K
  (try simp only [Act.put, List.setIfInBounds_toArray, List.set_cons_zero, List.set_cons_succ])
  refine wpAnyH_take (i := 4) (v := ?_) rfl (by kernel_rfl) (by kernel_rfl) (by kernel_rfl) (fun _ _ _ h => h) (Or.inl ⟨by rfl, ?_⟩) (by assumption) ?_
  rotate_left
  · intro w hSw; (try dsimp only at hSw); go_simp <;> with_reducible rfl
  (try simp only [Act.put, List.setIfInBounds_toArray, List.set_cons_zero, List.set_cons_succ])
  refine wpAnyH_take (i := 5) (v := ?_) rfl (by kernel_rfl) (by kernel_rfl) (by kernel_rfl) (fun _ _ _ h => h) (Or.inl ⟨by rfl, ?_⟩) (by assumption) ?_
  rotate_left
  · intro w hSw; (try dsimp only at hSw); go_simp <;> with_reducible rfl
  (try simp only [Act.put, List.setIfInBounds_toArray, List.set_cons_zero, List.set_cons_succ])
  refine wpAnyH_take (i := 6) (v := ?_) rfl (by kernel_rfl) (by kernel_rfl) (by kernel_rfl) (fun _ _ _ h => h) (Or.inl ⟨by rfl, ?_⟩) (by assumption) ?_
  rotate_left
  · intro w hSw; (try dsimp only at hSw); go_simp <;> with_reducible rfl
  (try simp only [Act.put, List.setIfInBounds_toArray, List.set_cons_zero, List.set_cons_succ])
  refine wpAnyH_take (i := 7) (v := ?_) rfl (by kernel_rfl) (by kernel_rfl) (by kernel_rfl) (fun _ _ _ h => h) (Or.inl ⟨by rfl, ?_⟩) (by assumption) ?_
  rotate_left
  · intro w hSw; (try dsimp only at hSw); go_simp <;> with_reducible rfl
  (try simp only [Act.put, List.setIfInBounds_toArray, List.set_cons_zero, List.set_cons_succ])
  refine wpAnyH_take (i := 8) (v := ?_) rfl (by kernel_rfl) (by kernel_rfl) (by kernel_rfl) (fun _ _ _ h => h) (Or.inl ⟨by rfl, ?_⟩) (by assumption) ?_
  rotate_left
  · intro w hSw; (try dsimp only at hSw); go_simp <;> with_reducible rfl
  (try simp only [Act.put, List.setIfInBounds_toArray, List.set_cons_zero, List.set_cons_succ])
  refine wpAnyH_done (by kernel_rfl) ?_ _
  have hwA : w.heap.size + 1 ≤ wa1.heap.size := cA.lt
  have hos := ho.mono hwA
  have hcs := cA.kp kA
  have hts : Kp w wa2 := ((kk.trans (Kp.refl wr).drew).turn uA (fun i hi => by omega)).trans kA
  clear ho cA kA hfA uA s0 s1 s0a s1a cd cv hfp kk d0 d1 hb
  cases hok : tabOk F r
  · rw [hok] at *
    have hcq := hcs
    have htq := hts
    clear hos hcs hts
    go_wp2_with fail
    have CP := Lib.hid (pick_any w.heap.size _ 4 wa2 hcq (by omega) (by omega))
    go_wp2_with fail
    with_reducible refine Calls.mono CP.out ?_
    rintro e wp ⟨nr, rfl, hnr, cp, up⟩
    clear CP
    obtain ⟨nn, rfl⟩ := Int.eq_ofNat_of_zero_le hnr.1
    have hnn : nn ≤ 3 := by have := hnr.2.2 (by omega); omega
    obtain ⟨P, HP, hpw, hP⟩ := pow_wrap (nn : Int) (by omega) (by omega)
    rw [Int.toNat_natCast] at hpw
    have hk1 : Kp w wp := htq.turn up (fun i hi => by omega)
    have hka : Kp wp (wp.alloc (.cells #[] 3)) := (Kp.refl wp).alloc _
    have hwp : w.heap.size + 1 ≤ wp.heap.size := cp.lt
    have ho0 := own_new0 wp (w.heap.size + 1) hwp
    have hc0 := cp.kp hka
    have hk0 := hk1.trans hka
    clear hcq htq up hnr cp
    go_wp2_with fail
    generalize wp.alloc (.cells #[] 3) = wq at *
    go_loopw [6, 9] (fun tx iv wr => ∃ (i : Nat) (tv : Value) (ts : List Int), tv = tx ∧ iv = .int .i64 i ∧ i ≤ P ∧ ts.length = i ∧ Own wr (w.heap.size + 1) tv ts ∧ Cur wr w.heap.size (6000 + 2 * i) ∧ Kp w wr) (fun _ iv _ => P - (intOf iv).toNat)
    case atStart => exact ⟨0, _, [], rfl, rfl, by omega, rfl, ho0, hc0.mono (by omega), hk0⟩
    case round =>
      clear ho0 hc0 hk0 hka hk1
      obtain ⟨i, tv, ts, rfl, rfl, hi, htl, hos, hcs, hts⟩ := hrel
      by_cases hlti : i < P
      · have CP := Lib.hid (pick_any w.heap.size _ 5 wr hcs (by omega) (by omega))
        have htl2 : ts.length < 1048576 := by omega
        go_wp2_with fail
        with_reducible refine Calls.mono CP.out ?_
        rintro e wf ⟨r, rfl, _, cf, uf⟩
        clear CP
        have hof := own_low hos uf (fun i hi => by omega)
        have hbf : w.heap.size + 1 ≤ wf.heap.size := cf.lt
        have hkf : Kp w wf := hts.turn uf (fun i hi => by omega)
        go_wp2_with (at_builtin; go_loud (refine wpl_app rfl (.tmp 41) (.tmp 44) rfl (w.heap.size + 1) tv ts r rfl rfl hof hbf htl2 ?_); intro v2 w2 ho2 ht2 h42)
        go_roundw
        case rel => exact ⟨i + 1, v2, ts ++ [r], rfl, by go_num, by omega, by simp [htl], ho2, (cf.turn ht2 (fun i hi e => by have := (hof.lt i e).1; omega)).mono (by omega), hkf.turn ht2 (fun i e => by have := (hof.lt i e).1; omega)⟩
        case measure => simp [intOf]; omega
      · obtain rfl : i = P := by omega
        have hcs2 := hcs
        replace hcs := hcs2.mono (m' := 7000) (by omega)
        clear hcs2
        obtain ⟨At, ct, hvt⟩ := hos.shape
        obtain ⟨lt, hlt⟩ : ∃ l, ts.length = l := ⟨_, rfl⟩
        rw [hlt] at hvt
        subst hvt
        by_cases hl0 : lt = 0
        · subst hl0
          have CP := Lib.hid (one_any w.heap.size _ 30 wr hcs (by omega) (by omega))
          go_wp2_with fail
          with_reducible refine Calls.mono CP.out ?_
          rintro e wy ⟨b, rfl, cy, uy⟩
          clear CP
          have hoy := own_low hos uy (fun i hi => by omega)
          have hky : Kp w wy := hts.turn uy (fun i hi => by omega)
          cases b
          · go_wp2_with fail
            go_ret2
            exact ⟨_, _, rfl, ⟨_, hoy.mono (by omega), by omega⟩, hky⟩
          · have hnw : IntKind.i64.wrap ((nn : Int) + 1) = (nn : Int) + 1 := IntWalk.i64_in _ (by omega)
            have CC := amongLit_any w.heap.size _ [-1, 8, (nn : Int) + 1] wy cy (by omega) (by simp) (by simp)
            simp only [List.map_cons, List.map_nil, List.length_cons, List.length_nil, Nat.zero_add, Nat.reduceAdd] at CC
            replace CC := Lib.hid CC
            go_wp2_with fail
            with_reducible refine Calls.mono CC.out ?_
            rintro e wz ⟨z, rfl, _, cz, uz⟩
            clear CC
            have hoz := own_low hoy uz (fun i hi => by omega)
            have hkz : Kp w wz := hky.turn uz (fun i hi => by omega)
            go_wp2_with fail
            go_ret2
            exact ⟨_, _, rfl, ⟨_, hoz.mono (by omega), by omega⟩, hkz⟩
        · have hlp : 0 < lt := by omega
          obtain ⟨gt, ct2, hgt⟩ := hos.someD (by omega)
          simp only [Value.slice.injEq] at hgt
          obtain ⟨rfl, -, rfl⟩ := hgt
          have hlI : (0 : Int) < (lt : Int) := by omega
          have CP := Lib.hid (one_any w.heap.size _ 3 wr hcs (by omega) (by omega))
          go_wp2_with fail
          with_reducible refine Calls.mono CP.out ?_
          rintro e wt ⟨bt, rfl, ctt, ut⟩
          clear CP
          have hot := own_low hos ut (fun i hi => by omega)
          have hkt : Kp w wt := hts.turn ut (fun i hi => by omega)
          clear hos hcs hts ut
          cases bt
          · have hos := hot
            have hcs := ctt
            have hts := hkt
            clear hot ctt hkt
            have CP := Lib.hid (one_any w.heap.size _ 30 wt hcs (by omega) (by omega))
            go_wp2_with fail
            with_reducible refine Calls.mono CP.out ?_
            rintro e wy ⟨b, rfl, cy, uy⟩
            clear CP
            have hoy := own_low hos uy (fun i hi => by omega)
            have hky : Kp w wy := hts.turn uy (fun i hi => by omega)
            cases b
            · go_wp2_with fail
              go_ret2
              exact ⟨_, _, rfl, ⟨_, hoy.mono (by omega), by omega⟩, hky⟩
            · have hnw : IntKind.i64.wrap ((nn : Int) + 1) = (nn : Int) + 1 := IntWalk.i64_in _ (by omega)
              have CC := amongLit_any w.heap.size _ [-1, 8, (nn : Int) + 1] wy cy (by omega) (by simp) (by simp)
              simp only [List.map_cons, List.map_nil, List.length_cons, List.length_nil, Nat.zero_add, Nat.reduceAdd] at CC
              replace CC := Lib.hid CC
              go_wp2_with fail
              with_reducible refine Calls.mono CC.out ?_
              rintro e wz ⟨z, rfl, _, cz, uz⟩
              clear CC
              have hoz := own_low hoy uz (fun i hi => by omega)
              have hkz : Kp w wz := hky.turn uz (fun i hi => by omega)
              go_wp2_with fail
              go_ret2
              exact ⟨_, _, rfl, ⟨_, hoz.mono (by omega), by omega⟩, hkz⟩
          · have CP := Lib.hid (pick_any w.heap.size _ lt wt ctt (by omega) (by omega))
            go_wp2_with fail
            with_reducible refine Calls.mono CP.out ?_
            rintro e wk ⟨kr, rfl, hkr, ck, uk⟩
            clear CP
            obtain ⟨κ, rfl⟩ := Int.eq_ofNat_of_zero_le hkr.1
            have hκ : κ < lt := by have := hkr.2.2 (by omega); omega
            have hok := own_low hot uk (fun i hi => by omega)
            have hkk : Kp w wk := hkt.turn uk (fun i hi => by omega)
            clear hot ctt hkt uk hkr
            obtain ⟨y1, y2, y3⟩ := (hok.kp (Kp.refl wk).drew).slotL hlt hκ
            obtain ⟨tk, htk⟩ : ∃ z, lget ts κ = z := ⟨_, rfl⟩
            rw [htk] at y1
            have hκI : (κ : Int) < (lt : Int) := by omega
            have n1 : ((κ : Int)).toNat = κ := Int.toNat_natCast κ
            have a1 : (⟨gt, 0, none⟩ : Addr).add κ = ⟨gt, κ, none⟩ := add0 _ _
            have CC := amongLit_any w.heap.size _ [1, -1, 3, 1000000] wk.drew (ck.kp (Kp.refl wk).drew) (by omega) (by decide) (by decide)
            simp only [List.map_cons, List.map_nil, List.length_cons, List.length_nil, Nat.zero_add, Nat.reduceAdd] at CC
            rw [show wk.drew.heap.size = wk.heap.size from rfl, alloc_drewD] at CC
            replace CC := Lib.hid CC
            have hgb := (hok.lt gt rfl).1
            go_wp2_with fail
            refine wp_region_last2 (S := fun w' => w'.cell? ⟨gt, κ, none⟩ = some (.int .i64 tk)) (split_cons (split_cons (split_cons (split_cons (split_cons (split_cons (split_cons (split_cons (split_cons (split_cons (split_cons split_one))))))))))) (by kernel_rfl) (by kernel_rfl) ?_
            have hHeld : (fun w' => w'.cell? ⟨gt, κ, none⟩ = some (.int .i64 tk)) wk.drew := y1
            refine wpAnyH_take (i := 0) (v := ?_) rfl (by kernel_rfl) (by kernel_rfl) (by kernel_rfl) (fun _ _ _ h => h) (Or.inl ⟨by rfl, ?_⟩) (by assumption) ?_
            rotate_left
            · intro w hSw; (try dsimp only at hSw); go_simp <;> with_reducible rfl
            (try simp only [Act.put, List.setIfInBounds_toArray, List.set_cons_zero, List.set_cons_succ])
            refine wpAnyH_take (i := 1) (v := ?_) rfl (by kernel_rfl) (by kernel_rfl) (by kernel_rfl) (fun _ _ _ h => h) (Or.inl ⟨by rfl, ?_⟩) (by assumption) ?_
            rotate_left
            · intro w hSw; (try dsimp only at hSw); go_simp <;> with_reducible rfl
            (try simp only [Act.put, List.setIfInBounds_toArray, List.set_cons_zero, List.set_cons_succ])
            refine wpAnyH_take (i := 2) (v := ?_) rfl (by kernel_rfl) (by kernel_rfl) (by kernel_rfl) (fun _ _ _ h => h) (Or.inl ⟨by rfl, ?_⟩) (by assumption) ?_
            rotate_left
            · intro w hSw; (try dsimp only at hSw); go_simp <;> with_reducible rfl
            (try simp only [Act.put, List.setIfInBounds_toArray, List.set_cons_zero, List.set_cons_succ])
            refine wpAnyH_take (i := 3) (v := ?_) rfl (by kernel_rfl) (by kernel_rfl) (by kernel_rfl) (fun _ _ _ h => h) (Or.inl ⟨by rfl, ?_⟩) (by assumption) ?_
            rotate_left
            · intro w hSw; (try dsimp only at hSw); go_simp <;> with_reducible rfl
            (try simp only [Act.put, List.setIfInBounds_toArray, List.set_cons_zero, List.set_cons_succ])
            refine wpAnyH_take (i := 4) (v := ?_) rfl (by kernel_rfl) (by kernel_rfl) (by kernel_rfl) (fun _ _ _ h => h) (Or.inl ⟨by rfl, ?_⟩) (by assumption) ?_
            rotate_left
            · intro w hSw; (try dsimp only at hSw); go_simp <;> with_reducible rfl
            (try simp only [Act.put, List.setIfInBounds_toArray, List.set_cons_zero, List.set_cons_succ])
            refine wpAnyH_take (i := 5) (v := ?_) rfl (by kernel_rfl) (by kernel_rfl) (by kernel_rfl) (fun _ _ _ h => h) (Or.inl ⟨by rfl, ?_⟩) (by assumption) ?_
            rotate_left
            · intro w hSw; (try dsimp only at hSw); go_simp <;> with_reducible rfl
            (try simp only [Act.put, List.setIfInBounds_toArray, List.set_cons_zero, List.set_cons_succ])
            refine wpAnyH_take (i := 6) (v := ?_) rfl (by kernel_rfl) (by kernel_rfl) (by kernel_rfl) (fun _ _ _ h => h) (Or.inl ⟨by rfl, ?_⟩) (by assumption) ?_
            rotate_left
            · intro w hSw; (try dsimp only at hSw); go_simp <;> with_reducible rfl
            (try simp only [Act.put, List.setIfInBounds_toArray, List.set_cons_zero, List.set_cons_succ])
            refine wpAnyH_ready (rs := [7]) (by kernel_rfl) (by simp) ?_
            refine AllReadyH.cons rfl (fun K hK => ?_) AllReadyH.nil
            go_simp
            refine hK.out _ _ ?_ (fun hHeld => ?_)
            · (try dsimp only); exact (((Kp.refl wk.drew).alloc _).get y1)
            clear hK K
            (try simp only [Act.put, List.setIfInBounds_toArray, List.set_cons_zero, List.set_cons_succ])
            refine wpAnyH_ready (rs := [8]) (by kernel_rfl) (by simp) ?_
            refine AllReadyH.cons rfl (fun K hK => ?_) AllReadyH.nil
            go_simp
            with_reducible refine Calls.mono CC.out ?_
            rintro e wm ⟨z, rfl, hz, cm, um⟩
            (try go_wp2_with fail)
            have y5 := turn_cellD um y1 (by show gt ≠ w.heap.size; omega)
            refine hK.out _ _ ?_ (fun hHeld => ?_)
            · (try dsimp only); exact y5
            clear hK K
            (try simp only [Act.put, List.setIfInBounds_toArray, List.set_cons_zero, List.set_cons_succ])
            refine wpAnyH_take (i := 9) (v := ?_) rfl (by kernel_rfl) (by kernel_rfl) (by kernel_rfl) (fun _ _ _ h => h) (Or.inl ⟨by rfl, ?_⟩) (by assumption) ?_
            rotate_left
            · intro w hSw; (try dsimp only at hSw); go_simp <;> with_reducible rfl
            (try simp only [Act.put, List.setIfInBounds_toArray, List.set_cons_zero, List.set_cons_succ])
            refine wpAnyH_take (i := 10) (v := ?_) rfl (by kernel_rfl) (by kernel_rfl) (by kernel_rfl) (fun _ _ _ h => h) (Or.inl ⟨by rfl, ?_⟩) (by assumption) ?_
            rotate_left
            · intro w hSw; (try dsimp only at hSw); go_simp <;> with_reducible rfl
            (try simp only [Act.put, List.setIfInBounds_toArray, List.set_cons_zero, List.set_cons_succ])
            have hom := own_low (hok.kp (Kp.refl wk).drew) um (fun i hi => by omega)
            obtain ⟨x1, x2, x3⟩ := hom.slotL hlt hκ
            obtain ⟨o3, t3⟩ := x3 (IntKind.i64.wrap (tk + z))
            have hkm : Kp w wm := (hkk.trans (Kp.refl wk).drew).turn um (fun i hi => by omega)
            refine wpAnyH_done (by kernel_rfl) ?_ _
            change Oper.wp _ _ _ _ _ _
            go_simp
            have hts : Kp w (wm.setCell ⟨gt, κ, none⟩ (.int .i64 (IntKind.i64.wrap (tk + z)))) := hkm.turn t3 (fun i hi => by omega)
            have hcs := cm.turn t3 (fun i hi => by omega)
            have hos := o3
            obtain ⟨ts2, hts2⟩ : ∃ l, ts.set κ (IntKind.i64.wrap (tk + z)) = l := ⟨_, rfl⟩
            have hlt2 : ts2.length = lt := by rw [← hts2, List.length_set]; exact hlt
            rw [hts2] at hos
            clear o3 t3 x1 x2 x3 hom hkm cm um y5 y1 y2 y3 hkk hok ck hts2
            generalize wm.setCell ⟨gt, κ, none⟩ (.int .i64 (IntKind.i64.wrap (tk + z))) = wn at *
            have CP := Lib.hid (one_any w.heap.size _ 30 wn hcs (by omega) (by omega))
            go_wp2_with fail
            with_reducible refine Calls.mono CP.out ?_
            rintro e wy ⟨b, rfl, cy, uy⟩
            clear CP
            have hoy := own_low hos uy (fun i hi => by omega)
            have hky : Kp w wy := hts.turn uy (fun i hi => by omega)
            cases b
            · go_wp2_with fail
              go_ret2
              exact ⟨_, _, rfl, ⟨_, hoy.mono (by omega), by omega⟩, hky⟩
            · have hnw : IntKind.i64.wrap ((nn : Int) + 1) = (nn : Int) + 1 := IntWalk.i64_in _ (by omega)
              have CC := amongLit_any w.heap.size _ [-1, 8, (nn : Int) + 1] wy cy (by omega) (by simp) (by simp)
              simp only [List.map_cons, List.map_nil, List.length_cons, List.length_nil, Nat.zero_add, Nat.reduceAdd] at CC
              replace CC := Lib.hid CC
              go_wp2_with fail
              with_reducible refine Calls.mono CC.out ?_
              rintro e wz ⟨z, rfl, _, cz, uz⟩
              clear CC
              have hoz := own_low hoy uz (fun i hi => by omega)
              have hkz : Kp w wz := hky.turn uz (fun i hi => by omega)
              go_wp2_with fail
              go_ret2
              exact ⟨_, _, rfl, ⟨_, hoz.mono (by omega), by omega⟩, hkz⟩
  · have hg := (tabOk_parts hok).1
    have hn7 := (goodF_iff.1 hg).1.2
    have hlen : (tabL F r).length ≤ 128 := by
      rw [tabL_yes hok, mapTo_len]
      have : 2 ^ F.op.length ≤ 2 ^ 7 := Nat.pow_le_pow_right (by omega) hn7
      omega
    obtain ⟨ts, hts0⟩ : ∃ l, tabL F r = l := ⟨_, rfl⟩
    rw [hts0] at hos hlen
    have CP := Lib.hid (one_any w.heap.size _ 6 wa2 hcs (by omega) (by omega))
    clear hts0
    go_wp2_with fail
    with_reducible refine Calls.mono CP.out ?_
    rintro e wb ⟨b, rfl, cb, ub⟩
    clear CP
    have hos2 := own_low hos ub (fun i hi => by omega)
    have hts2 : Kp w wb := hts.turn ub (fun i hi => by omega)
    clear hos hcs hts ub
    cases b
    · obtain ⟨nn, hnn⟩ : ∃ k, F.op.length = k := ⟨_, rfl⟩
      rw [hnn] at hn7
      have hos := hos2
      have hcs := cb.mono (m' := 7000) (by omega)
      have hts := hts2
      clear hos2 cb hts2
      rw [hnn]
      obtain ⟨At, ct, hvt⟩ := hos.shape
      obtain ⟨lt, hlt⟩ : ∃ l, ts.length = l := ⟨_, rfl⟩
      rw [hlt] at hvt
      subst hvt
      by_cases hl0 : lt = 0
      · subst hl0
        have CP := Lib.hid (one_any w.heap.size _ 30 wb hcs (by omega) (by omega))
        go_wp2_with fail
        with_reducible refine Calls.mono CP.out ?_
        rintro e wy ⟨b, rfl, cy, uy⟩
        clear CP
        have hoy := own_low hos uy (fun i hi => by omega)
        have hky : Kp w wy := hts.turn uy (fun i hi => by omega)
        cases b
        · go_wp2_with fail
          go_ret2
          exact ⟨_, _, rfl, ⟨_, hoy.mono (by omega), by omega⟩, hky⟩
        · have hnw : IntKind.i64.wrap ((nn : Int) + 1) = (nn : Int) + 1 := IntWalk.i64_in _ (by omega)
          have CC := amongLit_any w.heap.size _ [-1, 8, (nn : Int) + 1] wy cy (by omega) (by simp) (by simp)
          simp only [List.map_cons, List.map_nil, List.length_cons, List.length_nil, Nat.zero_add, Nat.reduceAdd] at CC
          replace CC := Lib.hid CC
          go_wp2_with fail
          with_reducible refine Calls.mono CC.out ?_
          rintro e wz ⟨z, rfl, _, cz, uz⟩
          clear CC
          have hoz := own_low hoy uz (fun i hi => by omega)
          have hkz : Kp w wz := hky.turn uz (fun i hi => by omega)
          go_wp2_with fail
          go_ret2
          exact ⟨_, _, rfl, ⟨_, hoz.mono (by omega), by omega⟩, hkz⟩
      · have hlp : 0 < lt := by omega
        obtain ⟨gt, ct2, hgt⟩ := hos.someD (by omega)
        simp only [Value.slice.injEq] at hgt
        obtain ⟨rfl, -, rfl⟩ := hgt
        have hlI : (0 : Int) < (lt : Int) := by omega
        have CP := Lib.hid (one_any w.heap.size _ 3 wb hcs (by omega) (by omega))
        go_wp2_with fail
        with_reducible refine Calls.mono CP.out ?_
        rintro e wt ⟨bt, rfl, ctt, ut⟩
        clear CP
        have hot := own_low hos ut (fun i hi => by omega)
        have hkt : Kp w wt := hts.turn ut (fun i hi => by omega)
        clear hos hcs hts ut
        cases bt
        · have hos := hot
          have hcs := ctt
          have hts := hkt
          clear hot ctt hkt
          have CP := Lib.hid (one_any w.heap.size _ 30 wt hcs (by omega) (by omega))
          go_wp2_with fail
          with_reducible refine Calls.mono CP.out ?_
          rintro e wy ⟨b, rfl, cy, uy⟩
          clear CP
          have hoy := own_low hos uy (fun i hi => by omega)
          have hky : Kp w wy := hts.turn uy (fun i hi => by omega)
          cases b
          · go_wp2_with fail
            go_ret2
            exact ⟨_, _, rfl, ⟨_, hoy.mono (by omega), by omega⟩, hky⟩
          · have hnw : IntKind.i64.wrap ((nn : Int) + 1) = (nn : Int) + 1 := IntWalk.i64_in _ (by omega)
            have CC := amongLit_any w.heap.size _ [-1, 8, (nn : Int) + 1] wy cy (by omega) (by simp) (by simp)
            simp only [List.map_cons, List.map_nil, List.length_cons, List.length_nil, Nat.zero_add, Nat.reduceAdd] at CC
            replace CC := Lib.hid CC
            go_wp2_with fail
            with_reducible refine Calls.mono CC.out ?_
            rintro e wz ⟨z, rfl, _, cz, uz⟩
            clear CC
            have hoz := own_low hoy uz (fun i hi => by omega)
            have hkz : Kp w wz := hky.turn uz (fun i hi => by omega)
            go_wp2_with fail
            go_ret2
            exact ⟨_, _, rfl, ⟨_, hoz.mono (by omega), by omega⟩, hkz⟩
        · have CP := Lib.hid (pick_any w.heap.size _ lt wt ctt (by omega) (by omega))
          go_wp2_with fail
          with_reducible refine Calls.mono CP.out ?_
          rintro e wk ⟨kr, rfl, hkr, ck, uk⟩
          clear CP
          obtain ⟨κ, rfl⟩ := Int.eq_ofNat_of_zero_le hkr.1
          have hκ : κ < lt := by have := hkr.2.2 (by omega); omega
          have hok := own_low hot uk (fun i hi => by omega)
          have hkk : Kp w wk := hkt.turn uk (fun i hi => by omega)
          clear hot ctt hkt uk hkr
          obtain ⟨y1, y2, y3⟩ := (hok.kp (Kp.refl wk).drew).slotL hlt hκ
          obtain ⟨tk, htk⟩ : ∃ z, lget ts κ = z := ⟨_, rfl⟩
          rw [htk] at y1
          have hκI : (κ : Int) < (lt : Int) := by omega
          have n1 : ((κ : Int)).toNat = κ := Int.toNat_natCast κ
          have a1 : (⟨gt, 0, none⟩ : Addr).add κ = ⟨gt, κ, none⟩ := add0 _ _
          have CC := amongLit_any w.heap.size _ [1, -1, 3, 1000000] wk.drew (ck.kp (Kp.refl wk).drew) (by omega) (by decide) (by decide)
          simp only [List.map_cons, List.map_nil, List.length_cons, List.length_nil, Nat.zero_add, Nat.reduceAdd] at CC
          rw [show wk.drew.heap.size = wk.heap.size from rfl, alloc_drewD] at CC
          replace CC := Lib.hid CC
          have hgb := (hok.lt gt rfl).1
          go_wp2_with fail
          refine wp_region_last2 (S := fun w' => w'.cell? ⟨gt, κ, none⟩ = some (.int .i64 tk)) (split_cons (split_cons (split_cons (split_cons (split_cons (split_cons (split_cons (split_cons (split_cons (split_cons (split_cons split_one))))))))))) (by kernel_rfl) (by kernel_rfl) ?_
          have hHeld : (fun w' => w'.cell? ⟨gt, κ, none⟩ = some (.int .i64 tk)) wk.drew := y1
          refine wpAnyH_take (i := 0) (v := ?_) rfl (by kernel_rfl) (by kernel_rfl) (by kernel_rfl) (fun _ _ _ h => h) (Or.inl ⟨by rfl, ?_⟩) (by assumption) ?_
          rotate_left
          · intro w hSw; (try dsimp only at hSw); go_simp <;> with_reducible rfl
          (try simp only [Act.put, List.setIfInBounds_toArray, List.set_cons_zero, List.set_cons_succ])
          refine wpAnyH_take (i := 1) (v := ?_) rfl (by kernel_rfl) (by kernel_rfl) (by kernel_rfl) (fun _ _ _ h => h) (Or.inl ⟨by rfl, ?_⟩) (by assumption) ?_
          rotate_left
          · intro w hSw; (try dsimp only at hSw); go_simp <;> with_reducible rfl
          (try simp only [Act.put, List.setIfInBounds_toArray, List.set_cons_zero, List.set_cons_succ])
          refine wpAnyH_take (i := 2) (v := ?_) rfl (by kernel_rfl) (by kernel_rfl) (by kernel_rfl) (fun _ _ _ h => h) (Or.inl ⟨by rfl, ?_⟩) (by assumption) ?_
          rotate_left
          · intro w hSw; (try dsimp only at hSw); go_simp <;> with_reducible rfl
          (try simp only [Act.put, List.setIfInBounds_toArray, List.set_cons_zero, List.set_cons_succ])
          refine wpAnyH_take (i := 3) (v := ?_) rfl (by kernel_rfl) (by kernel_rfl) (by kernel_rfl) (fun _ _ _ h => h) (Or.inl ⟨by rfl, ?_⟩) (by assumption) ?_
          rotate_left
          · intro w hSw; (try dsimp only at hSw); go_simp <;> with_reducible rfl
          (try simp only [Act.put, List.setIfInBounds_toArray, List.set_cons_zero, List.set_cons_succ])
          refine wpAnyH_take (i := 4) (v := ?_) rfl (by kernel_rfl) (by kernel_rfl) (by kernel_rfl) (fun _ _ _ h => h) (Or.inl ⟨by rfl, ?_⟩) (by assumption) ?_
          rotate_left
          · intro w hSw; (try dsimp only at hSw); go_simp <;> with_reducible rfl
          (try simp only [Act.put, List.setIfInBounds_toArray, List.set_cons_zero, List.set_cons_succ])
          refine wpAnyH_take (i := 5) (v := ?_) rfl (by kernel_rfl) (by kernel_rfl) (by kernel_rfl) (fun _ _ _ h => h) (Or.inl ⟨by rfl, ?_⟩) (by assumption) ?_
          rotate_left
          · intro w hSw; (try dsimp only at hSw); go_simp <;> with_reducible rfl
          (try simp only [Act.put, List.setIfInBounds_toArray, List.set_cons_zero, List.set_cons_succ])
          refine wpAnyH_take (i := 6) (v := ?_) rfl (by kernel_rfl) (by kernel_rfl) (by kernel_rfl) (fun _ _ _ h => h) (Or.inl ⟨by rfl, ?_⟩) (by assumption) ?_
          rotate_left
          · intro w hSw; (try dsimp only at hSw); go_simp <;> with_reducible rfl
          (try simp only [Act.put, List.setIfInBounds_toArray, List.set_cons_zero, List.set_cons_succ])
          refine wpAnyH_ready (rs := [7]) (by kernel_rfl) (by simp) ?_
          refine AllReadyH.cons rfl (fun K hK => ?_) AllReadyH.nil
          go_simp
          refine hK.out _ _ ?_ (fun hHeld => ?_)
          · (try dsimp only); exact (((Kp.refl wk.drew).alloc _).get y1)
          clear hK K
          (try simp only [Act.put, List.setIfInBounds_toArray, List.set_cons_zero, List.set_cons_succ])
          refine wpAnyH_ready (rs := [8]) (by kernel_rfl) (by simp) ?_
          refine AllReadyH.cons rfl (fun K hK => ?_) AllReadyH.nil
          go_simp
          with_reducible refine Calls.mono CC.out ?_
          rintro e wm ⟨z, rfl, hz, cm, um⟩
          (try go_wp2_with fail)
          have y5 := turn_cellD um y1 (by show gt ≠ w.heap.size; omega)
          refine hK.out _ _ ?_ (fun hHeld => ?_)
          · (try dsimp only); exact y5
          clear hK K
          (try simp only [Act.put, List.setIfInBounds_toArray, List.set_cons_zero, List.set_cons_succ])
          refine wpAnyH_take (i := 9) (v := ?_) rfl (by kernel_rfl) (by kernel_rfl) (by kernel_rfl) (fun _ _ _ h => h) (Or.inl ⟨by rfl, ?_⟩) (by assumption) ?_
          rotate_left
          · intro w hSw; (try dsimp only at hSw); go_simp <;> with_reducible rfl
          (try simp only [Act.put, List.setIfInBounds_toArray, List.set_cons_zero, List.set_cons_succ])
          refine wpAnyH_take (i := 10) (v := ?_) rfl (by kernel_rfl) (by kernel_rfl) (by kernel_rfl) (fun _ _ _ h => h) (Or.inl ⟨by rfl, ?_⟩) (by assumption) ?_
          rotate_left
          · intro w hSw; (try dsimp only at hSw); go_simp <;> with_reducible rfl
          (try simp only [Act.put, List.setIfInBounds_toArray, List.set_cons_zero, List.set_cons_succ])
          have hom := own_low (hok.kp (Kp.refl wk).drew) um (fun i hi => by omega)
          obtain ⟨x1, x2, x3⟩ := hom.slotL hlt hκ
          obtain ⟨o3, t3⟩ := x3 (IntKind.i64.wrap (tk + z))
          have hkm : Kp w wm := (hkk.trans (Kp.refl wk).drew).turn um (fun i hi => by omega)
          refine wpAnyH_done (by kernel_rfl) ?_ _
          change Oper.wp _ _ _ _ _ _
          go_simp
          have hts : Kp w (wm.setCell ⟨gt, κ, none⟩ (.int .i64 (IntKind.i64.wrap (tk + z)))) := hkm.turn t3 (fun i hi => by omega)
          have hcs := cm.turn t3 (fun i hi => by omega)
          have hos := o3
          obtain ⟨ts2, hts2⟩ : ∃ l, ts.set κ (IntKind.i64.wrap (tk + z)) = l := ⟨_, rfl⟩
          have hlt2 : ts2.length = lt := by rw [← hts2, List.length_set]; exact hlt
          rw [hts2] at hos
          clear o3 t3 x1 x2 x3 hom hkm cm um y5 y1 y2 y3 hkk hok ck hts2
          generalize wm.setCell ⟨gt, κ, none⟩ (.int .i64 (IntKind.i64.wrap (tk + z))) = wn at *
          have CP := Lib.hid (one_any w.heap.size _ 30 wn hcs (by omega) (by omega))
          go_wp2_with fail
          with_reducible refine Calls.mono CP.out ?_
          rintro e wy ⟨b, rfl, cy, uy⟩
          clear CP
          have hoy := own_low hos uy (fun i hi => by omega)
          have hky : Kp w wy := hts.turn uy (fun i hi => by omega)
          cases b
          · go_wp2_with fail
            go_ret2
            exact ⟨_, _, rfl, ⟨_, hoy.mono (by omega), by omega⟩, hky⟩
          · have hnw : IntKind.i64.wrap ((nn : Int) + 1) = (nn : Int) + 1 := IntWalk.i64_in _ (by omega)
            have CC := amongLit_any w.heap.size _ [-1, 8, (nn : Int) + 1] wy cy (by omega) (by simp) (by simp)
            simp only [List.map_cons, List.map_nil, List.length_cons, List.length_nil, Nat.zero_add, Nat.reduceAdd] at CC
            replace CC := Lib.hid CC
            go_wp2_with fail
            with_reducible refine Calls.mono CC.out ?_
            rintro e wz ⟨z, rfl, _, cz, uz⟩
            clear CC
            have hoz := own_low hoy uz (fun i hi => by omega)
            have hkz : Kp w wz := hky.turn uz (fun i hi => by omega)
            go_wp2_with fail
            go_ret2
            exact ⟨_, _, rfl, ⟨_, hoz.mono (by omega), by omega⟩, hkz⟩
    · have hcq := cb
      have htq := hts2
      clear hos2 cb hts2
      go_wp2_with fail
      have CP := Lib.hid (pick_any w.heap.size _ 4 wb hcq (by omega) (by omega))
      go_wp2_with fail
      with_reducible refine Calls.mono CP.out ?_
      rintro e wp ⟨nr, rfl, hnr, cp, up⟩
      clear CP
      obtain ⟨nn, rfl⟩ := Int.eq_ofNat_of_zero_le hnr.1
      have hnn : nn ≤ 3 := by have := hnr.2.2 (by omega); omega
      obtain ⟨P, HP, hpw, hP⟩ := pow_wrap (nn : Int) (by omega) (by omega)
      rw [Int.toNat_natCast] at hpw
      have hk1 : Kp w wp := htq.turn up (fun i hi => by omega)
      have hka : Kp wp (wp.alloc (.cells #[] 3)) := (Kp.refl wp).alloc _
      have hwp : w.heap.size + 1 ≤ wp.heap.size := cp.lt
      have ho0 := own_new0 wp (w.heap.size + 1) hwp
      have hc0 := cp.kp hka
      have hk0 := hk1.trans hka
      clear hcq htq up hnr cp
      go_wp2_with fail
      generalize wp.alloc (.cells #[] 3) = wq at *
      go_loopw [6, 9] (fun tx iv wr => ∃ (i : Nat) (tv : Value) (ts : List Int), tv = tx ∧ iv = .int .i64 i ∧ i ≤ P ∧ ts.length = i ∧ Own wr (w.heap.size + 1) tv ts ∧ Cur wr w.heap.size (6000 + 2 * i) ∧ Kp w wr) (fun _ iv _ => P - (intOf iv).toNat)
      case atStart => exact ⟨0, _, [], rfl, rfl, by omega, rfl, ho0, hc0.mono (by omega), hk0⟩
      case round =>
        clear ho0 hc0 hk0 hka hk1
        obtain ⟨i, tv, ts, rfl, rfl, hi, htl, hos, hcs, hts⟩ := hrel
        by_cases hlti : i < P
        · have CP := Lib.hid (pick_any w.heap.size _ 5 wr hcs (by omega) (by omega))
          have htl2 : ts.length < 1048576 := by omega
          go_wp2_with fail
          with_reducible refine Calls.mono CP.out ?_
          rintro e wf ⟨r, rfl, _, cf, uf⟩
          clear CP
          have hof := own_low hos uf (fun i hi => by omega)
          have hbf : w.heap.size + 1 ≤ wf.heap.size := cf.lt
          have hkf : Kp w wf := hts.turn uf (fun i hi => by omega)
          go_wp2_with (at_builtin; go_loud (refine wpl_app rfl (.tmp 41) (.tmp 44) rfl (w.heap.size + 1) tv ts r rfl rfl hof hbf htl2 ?_); intro v2 w2 ho2 ht2 h42)
          go_roundw
          case rel => exact ⟨i + 1, v2, ts ++ [r], rfl, by go_num, by omega, by simp [htl], ho2, (cf.turn ht2 (fun i hi e => by have := (hof.lt i e).1; omega)).mono (by omega), hkf.turn ht2 (fun i e => by have := (hof.lt i e).1; omega)⟩
          case measure => simp [intOf]; omega
        · obtain rfl : i = P := by omega
          have hcs2 := hcs
          replace hcs := hcs2.mono (m' := 7000) (by omega)
          clear hcs2
          obtain ⟨At, ct, hvt⟩ := hos.shape
          obtain ⟨lt, hlt⟩ : ∃ l, ts.length = l := ⟨_, rfl⟩
          rw [hlt] at hvt
          subst hvt
          by_cases hl0 : lt = 0
          · subst hl0
            have CP := Lib.hid (one_any w.heap.size _ 30 wr hcs (by omega) (by omega))
            go_wp2_with fail
            with_reducible refine Calls.mono CP.out ?_
            rintro e wy ⟨b, rfl, cy, uy⟩
            clear CP
            have hoy := own_low hos uy (fun i hi => by omega)
            have hky : Kp w wy := hts.turn uy (fun i hi => by omega)
            cases b
            · go_wp2_with fail
              go_ret2
              exact ⟨_, _, rfl, ⟨_, hoy.mono (by omega), by omega⟩, hky⟩
            · have hnw : IntKind.i64.wrap ((nn : Int) + 1) = (nn : Int) + 1 := IntWalk.i64_in _ (by omega)
              have CC := amongLit_any w.heap.size _ [-1, 8, (nn : Int) + 1] wy cy (by omega) (by simp) (by simp)
              simp only [List.map_cons, List.map_nil, List.length_cons, List.length_nil, Nat.zero_add, Nat.reduceAdd] at CC
              replace CC := Lib.hid CC
              go_wp2_with fail
              with_reducible refine Calls.mono CC.out ?_
              rintro e wz ⟨z, rfl, _, cz, uz⟩
              clear CC
              have hoz := own_low hoy uz (fun i hi => by omega)
              have hkz : Kp w wz := hky.turn uz (fun i hi => by omega)
              go_wp2_with fail
              go_ret2
              exact ⟨_, _, rfl, ⟨_, hoz.mono (by omega), by omega⟩, hkz⟩
          · have hlp : 0 < lt := by omega
            obtain ⟨gt, ct2, hgt⟩ := hos.someD (by omega)
            simp only [Value.slice.injEq] at hgt
            obtain ⟨rfl, -, rfl⟩ := hgt
            have hlI : (0 : Int) < (lt : Int) := by omega
            have CP := Lib.hid (one_any w.heap.size _ 3 wr hcs (by omega) (by omega))
            go_wp2_with fail
            with_reducible refine Calls.mono CP.out ?_
            rintro e wt ⟨bt, rfl, ctt, ut⟩
            clear CP
            have hot := own_low hos ut (fun i hi => by omega)
            have hkt : Kp w wt := hts.turn ut (fun i hi => by omega)
            clear hos hcs hts ut
            cases bt
            · have hos := hot
              have hcs := ctt
              have hts := hkt
              clear hot ctt hkt
              have CP := Lib.hid (one_any w.heap.size _ 30 wt hcs (by omega) (by omega))
              go_wp2_with fail
              with_reducible refine Calls.mono CP.out ?_
              rintro e wy ⟨b, rfl, cy, uy⟩
              clear CP
              have hoy := own_low hos uy (fun i hi => by omega)
              have hky : Kp w wy := hts.turn uy (fun i hi => by omega)
              cases b
              · go_wp2_with fail
                go_ret2
                exact ⟨_, _, rfl, ⟨_, hoy.mono (by omega), by omega⟩, hky⟩
              · have hnw : IntKind.i64.wrap ((nn : Int) + 1) = (nn : Int) + 1 := IntWalk.i64_in _ (by omega)
                have CC := amongLit_any w.heap.size _ [-1, 8, (nn : Int) + 1] wy cy (by omega) (by simp) (by simp)
                simp only [List.map_cons, List.map_nil, List.length_cons, List.length_nil, Nat.zero_add, Nat.reduceAdd] at CC
                replace CC := Lib.hid CC
                go_wp2_with fail
                with_reducible refine Calls.mono CC.out ?_
                rintro e wz ⟨z, rfl, _, cz, uz⟩
                clear CC
                have hoz := own_low hoy uz (fun i hi => by omega)
                have hkz : Kp w wz := hky.turn uz (fun i hi => by omega)
                go_wp2_with fail
                go_ret2
                exact ⟨_, _, rfl, ⟨_, hoz.mono (by omega), by omega⟩, hkz⟩
            · have CP := Lib.hid (pick_any w.heap.size _ lt wt ctt (by omega) (by omega))
              go_wp2_with fail
              with_reducible refine Calls.mono CP.out ?_
              rintro e wk ⟨kr, rfl, hkr, ck, uk⟩
              clear CP
              obtain ⟨κ, rfl⟩ := Int.eq_ofNat_of_zero_le hkr.1
              have hκ : κ < lt := by have := hkr.2.2 (by omega); omega
              have hok := own_low hot uk (fun i hi => by omega)
              have hkk : Kp w wk := hkt.turn uk (fun i hi => by omega)
              clear hot ctt hkt uk hkr
              obtain ⟨y1, y2, y3⟩ := (hok.kp (Kp.refl wk).drew).slotL hlt hκ
              obtain ⟨tk, htk⟩ : ∃ z, lget ts κ = z := ⟨_, rfl⟩
              rw [htk] at y1
              have hκI : (κ : Int) < (lt : Int) := by omega
              have n1 : ((κ : Int)).toNat = κ := Int.toNat_natCast κ
              have a1 : (⟨gt, 0, none⟩ : Addr).add κ = ⟨gt, κ, none⟩ := add0 _ _
              have CC := amongLit_any w.heap.size _ [1, -1, 3, 1000000] wk.drew (ck.kp (Kp.refl wk).drew) (by omega) (by decide) (by decide)
              simp only [List.map_cons, List.map_nil, List.length_cons, List.length_nil, Nat.zero_add, Nat.reduceAdd] at CC
              rw [show wk.drew.heap.size = wk.heap.size from rfl, alloc_drewD] at CC
              replace CC := Lib.hid CC
              have hgb := (hok.lt gt rfl).1
              go_wp2_with fail
              refine wp_region_last2 (S := fun w' => w'.cell? ⟨gt, κ, none⟩ = some (.int .i64 tk)) (split_cons (split_cons (split_cons (split_cons (split_cons (split_cons (split_cons (split_cons (split_cons (split_cons (split_cons split_one))))))))))) (by kernel_rfl) (by kernel_rfl) ?_
              have hHeld : (fun w' => w'.cell? ⟨gt, κ, none⟩ = some (.int .i64 tk)) wk.drew := y1
              refine wpAnyH_take (i := 0) (v := ?_) rfl (by kernel_rfl) (by kernel_rfl) (by kernel_rfl) (fun _ _ _ h => h) (Or.inl ⟨by rfl, ?_⟩) (by assumption) ?_
              rotate_left
              · intro w hSw; (try dsimp only at hSw); go_simp <;> with_reducible rfl
              (try simp only [Act.put, List.setIfInBounds_toArray, List.set_cons_zero, List.set_cons_succ])
              refine wpAnyH_take (i := 1) (v := ?_) rfl (by kernel_rfl) (by kernel_rfl) (by kernel_rfl) (fun _ _ _ h => h) (Or.inl ⟨by rfl, ?_⟩) (by assumption) ?_
              rotate_left
              · intro w hSw; (try dsimp only at hSw); go_simp <;> with_reducible rfl
              (try simp only [Act.put, List.setIfInBounds_toArray, List.set_cons_zero, List.set_cons_succ])
              refine wpAnyH_take (i := 2) (v := ?_) rfl (by kernel_rfl) (by kernel_rfl) (by kernel_rfl) (fun _ _ _ h => h) (Or.inl ⟨by rfl, ?_⟩) (by assumption) ?_
              rotate_left
              · intro w hSw; (try dsimp only at hSw); go_simp <;> with_reducible rfl
              (try simp only [Act.put, List.setIfInBounds_toArray, List.set_cons_zero, List.set_cons_succ])
              refine wpAnyH_take (i := 3) (v := ?_) rfl (by kernel_rfl) (by kernel_rfl) (by kernel_rfl) (fun _ _ _ h => h) (Or.inl ⟨by rfl, ?_⟩) (by assumption) ?_
              rotate_left
              · intro w hSw; (try dsimp only at hSw); go_simp <;> with_reducible rfl
              (try simp only [Act.put, List.setIfInBounds_toArray, List.set_cons_zero, List.set_cons_succ])
              refine wpAnyH_take (i := 4) (v := ?_) rfl (by kernel_rfl) (by kernel_rfl) (by kernel_rfl) (fun _ _ _ h => h) (Or.inl ⟨by rfl, ?_⟩) (by assumption) ?_
              rotate_left
              · intro w hSw; (try dsimp only at hSw); go_simp <;> with_reducible rfl
              (try simp only [Act.put, List.setIfInBounds_toArray, List.set_cons_zero, List.set_cons_succ])
              refine wpAnyH_take (i := 5) (v := ?_) rfl (by kernel_rfl) (by kernel_rfl) (by kernel_rfl) (fun _ _ _ h => h) (Or.inl ⟨by rfl, ?_⟩) (by assumption) ?_
              rotate_left
              · intro w hSw; (try dsimp only at hSw); go_simp <;> with_reducible rfl
              (try simp only [Act.put, List.setIfInBounds_toArray, List.set_cons_zero, List.set_cons_succ])
              refine wpAnyH_take (i := 6) (v := ?_) rfl (by kernel_rfl) (by kernel_rfl) (by kernel_rfl) (fun _ _ _ h => h) (Or.inl ⟨by rfl, ?_⟩) (by assumption) ?_
              rotate_left
              · intro w hSw; (try dsimp only at hSw); go_simp <;> with_reducible rfl
              (try simp only [Act.put, List.setIfInBounds_toArray, List.set_cons_zero, List.set_cons_succ])
              refine wpAnyH_ready (rs := [7]) (by kernel_rfl) (by simp) ?_
              refine AllReadyH.cons rfl (fun K hK => ?_) AllReadyH.nil
              go_simp
              refine hK.out _ _ ?_ (fun hHeld => ?_)
              · (try dsimp only); exact (((Kp.refl wk.drew).alloc _).get y1)
              clear hK K
              (try simp only [Act.put, List.setIfInBounds_toArray, List.set_cons_zero, List.set_cons_succ])
              refine wpAnyH_ready (rs := [8]) (by kernel_rfl) (by simp) ?_
              refine AllReadyH.cons rfl (fun K hK => ?_) AllReadyH.nil
              go_simp
              with_reducible refine Calls.mono CC.out ?_
              rintro e wm ⟨z, rfl, hz, cm, um⟩
              (try go_wp2_with fail)
              have y5 := turn_cellD um y1 (by show gt ≠ w.heap.size; omega)
              refine hK.out _ _ ?_ (fun hHeld => ?_)
              · (try dsimp only); exact y5
              clear hK K
              (try simp only [Act.put, List.setIfInBounds_toArray, List.set_cons_zero, List.set_cons_succ])
              refine wpAnyH_take (i := 9) (v := ?_) rfl (by kernel_rfl) (by kernel_rfl) (by kernel_rfl) (fun _ _ _ h => h) (Or.inl ⟨by rfl, ?_⟩) (by assumption) ?_
              rotate_left
              · intro w hSw; (try dsimp only at hSw); go_simp <;> with_reducible rfl
              (try simp only [Act.put, List.setIfInBounds_toArray, List.set_cons_zero, List.set_cons_succ])
              refine wpAnyH_take (i := 10) (v := ?_) rfl (by kernel_rfl) (by kernel_rfl) (by kernel_rfl) (fun _ _ _ h => h) (Or.inl ⟨by rfl, ?_⟩) (by assumption) ?_
              rotate_left
              · intro w hSw; (try dsimp only at hSw); go_simp <;> with_reducible rfl
              (try simp only [Act.put, List.setIfInBounds_toArray, List.set_cons_zero, List.set_cons_succ])
              have hom := own_low (hok.kp (Kp.refl wk).drew) um (fun i hi => by omega)
              obtain ⟨x1, x2, x3⟩ := hom.slotL hlt hκ
              obtain ⟨o3, t3⟩ := x3 (IntKind.i64.wrap (tk + z))
              have hkm : Kp w wm := (hkk.trans (Kp.refl wk).drew).turn um (fun i hi => by omega)
              refine wpAnyH_done (by kernel_rfl) ?_ _
              change Oper.wp _ _ _ _ _ _
              go_simp
              have hts : Kp w (wm.setCell ⟨gt, κ, none⟩ (.int .i64 (IntKind.i64.wrap (tk + z)))) := hkm.turn t3 (fun i hi => by omega)
              have hcs := cm.turn t3 (fun i hi => by omega)
              have hos := o3
              obtain ⟨ts2, hts2⟩ : ∃ l, ts.set κ (IntKind.i64.wrap (tk + z)) = l := ⟨_, rfl⟩
              have hlt2 : ts2.length = lt := by rw [← hts2, List.length_set]; exact hlt
              rw [hts2] at hos
              clear o3 t3 x1 x2 x3 hom hkm cm um y5 y1 y2 y3 hkk hok ck hts2
              generalize wm.setCell ⟨gt, κ, none⟩ (.int .i64 (IntKind.i64.wrap (tk + z))) = wn at *
              have CP := Lib.hid (one_any w.heap.size _ 30 wn hcs (by omega) (by omega))
              go_wp2_with fail
              with_reducible refine Calls.mono CP.out ?_
              rintro e wy ⟨b, rfl, cy, uy⟩
              clear CP
              have hoy := own_low hos uy (fun i hi => by omega)
              have hky : Kp w wy := hts.turn uy (fun i hi => by omega)
              cases b
              · go_wp2_with fail
                go_ret2
                exact ⟨_, _, rfl, ⟨_, hoy.mono (by omega), by omega⟩, hky⟩
              · have hnw : IntKind.i64.wrap ((nn : Int) + 1) = (nn : Int) + 1 := IntWalk.i64_in _ (by omega)
                have CC := amongLit_any w.heap.size _ [-1, 8, (nn : Int) + 1] wy cy (by omega) (by simp) (by simp)
                simp only [List.map_cons, List.map_nil, List.length_cons, List.length_nil, Nat.zero_add, Nat.reduceAdd] at CC
                replace CC := Lib.hid CC
                go_wp2_with fail
                with_reducible refine Calls.mono CC.out ?_
                rintro e wz ⟨z, rfl, _, cz, uz⟩
                clear CC
                have hoz := own_low hoy uz (fun i hi => by omega)
                have hkz : Kp w wz := hky.turn uz (fun i hi => by omega)
                go_wp2_with fail
                go_ret2
                exact ⟨_, _, rfl, ⟨_, hoz.mono (by omega), by omega⟩, hkz⟩
def SuPost (w : World) (e : Ending) (w' : World) : Prop := MoPost w e w'
set_option maxRecDepth 100000 in
theorem drawIsSubmodular_any (A : Option Addr) (n c : Nat) (w : World) (hb : BytesAt w A n) :
    Calls Try.prog 9 #[.slice A n c] w fun e w' => SuPost w e w' := by
  have CC := Lib.hid (drawIsMonotone_any A n c w hb)
  go_enter Try.func9, Try.ntmps9
  go_wp2_with fail
  with_reducible refine Calls.mono CC.out ?_
  rintro e w1 ⟨a, l, rfl, h1, h2⟩
  clear CC
  go_wp2_with fail
  go_ret2
  exact ⟨_, _, rfl, h1, h2⟩
end Go.Proofs.Ytinpcfhgcilmoaa

/- LeastFlow: the program; The least flow has the least cost, and one more room saves at most its price: plain words. No condition. -/
import Derived.Test.YtgdicmeabppngaaQAu
import Derived.Test.YtgdicmeabppngaaQAg
import Derived.Laws.EntriesVeiled
import Derived.Test.YtgdicmeabppngaaQAt
namespace Go.Proofs.Ytgdicmeabppngaa
open Go.RowKit Go.Sort

theorem own_grid_nil2 (w : World) (base : Nat) : OwnGrid w base (.slice none 0 0) ([] : List (List Int)).length (rowAt []) :=
  ⟨fun _ => .slice none 0 0, World.ownsRow_nil _ _ _ _, fun j hj => by simp at hj, fun i j g hij hj => by simp at hj⟩
noncomputable def lsL (F : Fld) (rooms needs S : List Int) : List (List Int) := if lfOk F rooms needs S = true then matL F.di.length F.op.length (fstG F.di.length F.op.length (dF F) (openM S) (lget needs) (lget rooms)) else []
theorem lsL_no {F : Fld} {rooms needs S : List Int} (h : lfOk F rooms needs S = false) : lsL F rooms needs S = [] := by unfold lsL; rw [h]; rfl
theorem next_rest {J M : Nat} {d : Nat → Nat → Int} {may : Nat → Nat → Bool} {nd rm : Nat → Int} {c : Int} {v : Nat → Nat → Int} {j a : Nat} (h : FirstG J M d may nd rm c (j * M + a) v) (hj : j < J) (ha : a < M) {n : Nat} (he : ExtG J M d may nd rm c (j * M + a + 1) (upd2 v j a n)) : (n : Int) ≤ nd j - rowS M v j ∧ (n : Int) ≤ rm a - colT J v a := by
  have hz : ∀ i b, i < J → b < M → j * M + a + 1 ≤ i * M + b → upd2 v j a n i b = 0 := fun i b hi hb hp => by
    rw [upd2_ne (by
      by_cases e : i = j
      · subst e; right; intro e2; subst e2; omega
      · exact .inl e)]
    exact h.zero i b hi hb (by omega)
  obtain ⟨y, h1, _⟩ := ext_down he hz
  have hv := h.zero j a hj ha (Nat.le_refl _)
  have e1 := h1.row j hj
  have e2 := h1.col a ha
  have e3 : 0 ≤ rowS M y j := sumTo_nn (fun b hb => h1.nn j b hj hb)
  have e4 : 0 ≤ colT J y a := sumTo_nn (fun i hi => h1.nn i a hi ha)
  replace e1 : rowS M y j = nd j - rowS M (upd2 v j a n) j := e1
  replace e2 : colT J y a ≤ rm a - colT J (upd2 v j a n) a := e2
  rw [row_upd2 _ _ ha, if_pos rfl, hv] at e1
  rw [col_upd2 _ _ hj, if_pos rfl, hv] at e2
  omega
theorem LsS.sub {w0 wr : World} {base2 gl cl gr cr gw cw J M i g cap : Nat} {Bk Ck : Nat → Nat} {L E : Nat → Int} {V : Nat → Nat → Int} {R : Nat → Int} {bs bs' : List (Nat × Value)} (h : LsS w0 wr base2 gl cl gr cr gw cw J M i g cap Bk Ck L E V R bs) (hs : ∀ p ∈ bs', p ∈ bs) : LsS w0 wr base2 gl cl gr cr gw cw J M i g cap Bk Ck L E V R bs' :=
  ⟨⟨h.o.kp, h.o.ol, h.o.oe, h.o.mt, h.o.ne, h.o.lt, fun p hp => h.o.bx p (hs p hp)⟩, h.rw_, h.n1, h.n2, fun p hp => h.n3 p (hs p hp)⟩
theorem own_grid_congr {w : World} {base n : Nat} {v : Value} {R R' : Nat → List Int} (h : OwnGrid w base v n R) (e : ∀ j, j < n → R j = R' j) : OwnGrid w base v n R' := by
  obtain ⟨C, h1, h2, h3⟩ := h
  exact ⟨C, h1, fun j hj => by rw [← e j hj]; exact h2 j hj, h3⟩
theorem own_grid_empty {w : World} {base base' n c : Nat} {A : Option Addr} {R R' : Nat → List Int} (h : OwnGrid w base (.slice A n c) 0 R) (hb : base' ≤ base) : OwnGrid w base' (.slice A n c) 0 R' := by
  obtain ⟨C, h1, _, _⟩ := h
  refine ⟨C, ⟨h1.1, ?_⟩, fun j hj => by omega, fun i j g _ hj => by omega⟩
  rcases h1.2 with hh | ⟨g, cap, cur, e, hg, rest⟩
  · exact .inl hh
  · exact .inr ⟨g, cap, cur, e, Nat.le_trans hb hg, rest⟩
set_option maxRecDepth 100000 in
set_option maxHeartbeats 4000000 in
theorem implLs_any (f : Value) (F : Fld) (A1 : Option Addr) (rooms : List Int) (n1 c1 : Nat) (A2 : Option Addr) (needs : List Int) (n2 c2 : Nat) (A3 : Option Addr) (S : List Int) (n3 c3 : Nat) (w : World) (hf : FldAt w f F) (h1 : IntsAt w A1 rooms) (hn1 : rooms.length = n1) (h2 : IntsAt w A2 needs) (hn2 : needs.length = n2) (h3 : IntsAt w A3 S) (hn3 : S.length = n3) :
    Calls Try.prog 6 #[f, .slice A1 n1 c1, .slice A2 n2 c2, .slice A3 n3 c3] w fun e w' => ∃ v, e = .returned (.tuple #[v, .bool (lfOk F rooms needs S)]) ∧ OwnGrid w' w.heap.size v (lsL F rooms needs S).length (rowAt (lsL F rooms needs S)) ∧ Kp w w' := by
  obtain ⟨A, c, B, d, rfl, hA, hB⟩ := hf
  have hk0 : Kp w (w.alloc (.cells #[.slice A F.op.length c, .slice B F.di.length d] 27)) := (Kp.refl w).alloc _
  obtain ⟨d0, d1⟩ := box2 w (.slice A F.op.length c) (.slice B F.di.length d) 27
  have hFA := FldAt.kp (show FldAt w (.agg #[.slice A F.op.length c, .slice B F.di.length d]) F from ⟨A, c, B, d, rfl, hA, hB⟩) hk0
  have HB := Lib.hid (hB.kp hk0)
  replace h1 := h1.kp hk0
  replace h2 := h2.kp hk0
  replace h3 := h3.kp hk0
  have Hn1 := Lib.hid hn1; have Hn2 := Lib.hid hn2; have Hn3 := Lib.hid hn3
  clear hA hB hn1 hn2 hn3
  go_enter Try.func6, Try.ntmps6
  go_wp2_with fail
  have hsz : Hid ((w.alloc (.cells #[.slice A F.op.length c, .slice B F.di.length d] 27)).heap.size = w.heap.size + 1) := by show _ = _; simp
  generalize w.alloc (.cells #[.slice A F.op.length c, .slice B F.di.length d] 27) = wb at *
  have hkb : Kp wb wb := Kp.refl _
  have hkw := hk0
  have CC := Lib.hid (implLf_any _ F A1 rooms n1 c1 A2 needs n2 c2 A3 S n3 c3 _ (hFA.kp hkb) (h1.kp hkb) Hn1.out (h2.kp hkb) Hn2.out (h3.kp hkb) Hn3.out)
  with_reducible refine Calls.mono CC.out ?_
  rintro e w1 ⟨rfl, hk1⟩
  clear CC
  replace hkb := hkb.trans hk1
  cases hh_ : lfOk F rooms needs S
  · have Hno := Lib.hid (lsL_no hh_)
    have Hl := Lib.hid hh_
    clear hh_
    have q_d0 := hkb.get d0
    have q_d1 := hkb.get d1
    go_wp2_with fail
    go_ret2
    exact ⟨_, by rw [Hl.out]; rfl, by rw [Hno.out]; exact own_grid_nil2 _ _, hkw.trans hkb⟩
  have Hok := Lib.hid hh_
  have HL := Lib.hid (lf_lst hh_)
  have HBd := Lib.hid (lf_bd hh_)
  have HH := Lib.hid (lfOk_iff.1 hh_).1
  have HP := Lib.hid (haul_p (lfOk_iff.1 hh_).1)
  clear hh_
  have h7 := (goodF_iff.1 HP.out.good).1
  have h8 := (goodF_iff.1 HP.out.good).2.2.1
  have hM1 : Hid (n1 = F.op.length) := by show _ = _; rw [← Hn1.out, HP.out.rl]
  have hJ1 : Hid (n2 = F.di.length) := by show _ = _; rw [← Hn2.out, HP.out.nl]
  obtain rfl := hM1.out
  obtain rfl := hJ1.out
  clear hM1 hJ1
  have q_d0 := hkb.get d0
  have q_d1 := hkb.get d1
  go_wp2_with fail
  with_reducible refine Calls.mono (isOpen_any A3 S n3 c3 F.di.length F.op.length _ (h3.kp hkb) Hn3.out HP.out.mem h7.2) ?_
  rintro e w0 ⟨caps, rfl, hcan, hk1⟩
  have hk10 := hkb.trans hk1
  have Hcan := Lib.hid hcan
  clear hcan
  have CC := Lib.hid (clone_all A1 rooms F.op.length c1 w0 (h1.kp hk10) Hn1.out (by omega))
  have CD := Lib.hid (fun (wx : World) (hx : Kp w0 wx) => clone_all A2 needs F.di.length c2 wx (h2.kp (hk10.trans hx)) Hn2.out (by omega))
  go_wp2_with fail
  with_reducible refine Calls.mono CC.out ?_
  rintro e w2 ⟨vl, rfl, hol, hk2⟩
  obtain ⟨gl, cl, rfl⟩ := hol.at0 Hn1.out (by omega)
  clear CC
  go_wp2_with fail
  with_reducible refine Calls.mono (CD.out _ hk2) ?_
  rintro e w3 ⟨vr, rfl, hor, hk3⟩
  clear CD
  obtain ⟨Ar, cr, rfl⟩ := hor.shape
  rw [Hn2.out] at hor ⊢
  have hk4 : Kp w3 (w3.alloc (.cells #[.func (.func 49) #[] caps] 53)) := (Kp.refl w3).alloc _
  have hbx : (w3.alloc (.cells #[.func (.func 49) #[] caps] 53)).cell? ⟨w3.heap.size, 0, none⟩ = some (.func (.func 49) #[] caps) := range_new' _ [_] _ rfl 0 _ rfl
  have hszo : Hid ((w3.alloc (.cells #[.func (.func 49) #[] caps] 53)).heap.size = w3.heap.size + 1) := by show _ = _; simp only [World.size_alloc]
  have hm0 := mat_nil (w3.alloc (.cells #[.func (.func 49) #[] caps] 53)) (w3.heap.size + 1) F.op.length (fun _ => 0) (fun _ => 0) (fun _ _ => 0) (by rw [hszo.out]; exact Nat.le_refl _)
  have HM0 := Lib.hid hm0
  have Hbx := Lib.hid hbx
  have Hk4 := Lib.hid hk4
  have Hol := Lib.hid hol; have Hor := Lib.hid hor
  clear hm0 hbx hk4 hol hor
  have hz : ∀ j, rowS F.op.length (fun _ _ => (0 : Int)) j = 0 := fun j => sumTo_c0 _
  have hy : ∀ a, colT F.di.length (fun _ _ => (0 : Int)) a = 0 := fun a => sumTo_c0 _
  by_cases hJ0 : F.di.length = 0
  · have HJ0 := Lib.hid hJ0
    clear hJ0 hz hy
    go_wp2_with fail
    go_loopw [15, 43] (fun ov iv wr => ov = .slice (some ⟨w3.heap.size + 1, 0, none⟩) 0 0 ∧ iv = .int .i64 0 ∧ wr = (w3.alloc (.cells #[.func (.func 49) #[] caps] 53)).alloc (.cells #[] 24)) (fun _ _ _ => 0)
    case atStart => exact ⟨rfl, rfl, rfl⟩
    case round =>
      obtain ⟨rfl, rfl, rfl⟩ := hrel
      have hlt : ¬ ((0 : Int) < (F.di.length : Int)) := by rw [HJ0.out]; decide
      go_wp2_with fail
      go_ret2
      have hfin := (((hkw.trans hk10).trans hk2).trans hk3).trans Hk4.out
      have hl : lsL F rooms needs S = [] := by unfold lsL; rw [if_pos Hok.out, HJ0.out]; rfl
      rw [hl]
      refine ⟨_, by rw [Hok.out]; rfl, ?_, hfin.alloc _⟩
      have := HM0.out.ownGrid
      rw [hszo.out] at this
      exact own_grid_empty (base' := w.heap.size) this (by have := (((hkw.trans hk10).trans hk2).trans hk3).le; omega)
  have hJp : 0 < F.di.length := by omega
  clear hJ0
  obtain ⟨gr, cr', e9⟩ := Hor.out.at0 (n := F.di.length) Hn2.out hJp
  obtain ⟨rfl, -, rfl⟩ : Ar = some ⟨gr, 0, none⟩ ∧ F.di.length = F.di.length ∧ cr = cr' := by simpa using e9
  clear e9
  have hgl := Hol.out.lt gl rfl
  have hgr := Hor.out.lt gr rfl
  have hle2 := hk2.le
  have hle3 := hk3.le
  obtain ⟨bo, Hbo⟩ : ∃ bo, Hid (w3.heap.size = bo) := ⟨_, rfl⟩
  have hI0 : LsO w0 ((w3.alloc (.cells #[.func (.func 49) #[] caps] 53)).alloc (.cells #[] 24)) (w3.heap.size + 1) gl cl gr cr F.di.length F.op.length 0 (w3.heap.size + 1) 0 (fun _ => 0) (fun _ => 0) (fun a => lget rooms a - colT F.di.length (fun _ _ => 0) a) (fun j => lget needs j - rowS F.op.length (fun _ _ => 0) j) (fun _ _ => 0) [(w3.heap.size, .func (.func 49) #[] caps)] := by
    have k5 := Hk4.out.alloc (.cells #[] 24)
    refine ⟨(hk2.trans hk3).trans k5, ?_, ?_, ?_, by omega, ⟨by omega, by omega, by omega⟩, fun p hp => ?_⟩
    · have := (Hol.out.kp hk3).kp k5
      rw [show (fun a => lget rooms a - colT F.di.length (fun _ _ => 0) a) = lget rooms from by funext a; rw [hy]; omega, map_lget Hn1.out]
      exact this
    · have := (Hor.out.mono (base' := w0.heap.size) (by omega)).kp k5
      rw [show (fun j => lget needs j - rowS F.op.length (fun _ _ => 0) j) = lget needs from by funext a; rw [hz]; omega, map_lget Hn2.out]
      exact this
    · have := HM0.out
      rwa [hszo.out] at this
    · obtain rfl : p = _ := by simpa using hp
      exact ⟨((Kp.refl _).alloc _).get Hbx.out, by dsimp only; omega, by dsimp only; omega⟩
  rw [Hbo.out] at hI0
  have HI0 := Lib.hid hI0
  have HF0 := Lib.hid (FirstG.start HL.out)
  have hc0 : Hid (costT F.di.length F.op.length (dF F) (fun _ _ => 0) = 0) := by
    show _ = _
    have e : ∀ j, sumTo (fun a => (0 : Int) * dF F j a) F.op.length = 0 := fun j => by
      rw [show (fun a => (0 : Int) * dF F j a) = fun _ => 0 from by funext a; rw [Int.zero_mul]]; exact sumTo_c0 _
    unfold costT
    rw [show (fun j => sumTo (fun a => (0 : Int) * dF F j a) F.op.length) = fun _ => 0 from by funext j; exact e j]
    exact sumTo_c0 _
  clear hz hy hI0
  go_wp2_with fail
  rw [Hbo.out]
  go_loopw [15, 16, 43] (fun ov sv iv wr => ∃ (i g cap : Nat) (Bk Ck : Nat → Nat) (v : Nat → Nat → Int), i ≤ F.di.length ∧ iv = .int .i64 i ∧ ov = .slice (some ⟨g, 0, none⟩) i cap ∧ sv = .int .i64 (costT F.di.length F.op.length (dF F) v) ∧ LsO w0 wr (bo + 1) gl cl gr cr F.di.length F.op.length i g cap Bk Ck (fun a => lget rooms a - colT F.di.length v a) (fun j => lget needs j - rowS F.op.length v j) v [(bo, .func (.func 49) #[] caps)] ∧ Hid (FirstG F.di.length F.op.length (dF F) (openM S) (lget needs) (lget rooms) (lfV F rooms needs S) (i * F.op.length) v)) (fun _ _ iv _ => F.di.length - (intOf iv).toNat)
  case atStart => exact ⟨0, bo + 1, 0, _, _, _, by omega, rfl, rfl, by rw [hc0.out], HI0.out, by rw [Nat.zero_mul]; exact HF0.out⟩
  case round =>
    clear HI0 HF0 hc0 Hol Hor Hk4 Hbx HM0
    obtain ⟨i, g, cap, Bk, Ck, v, hi, rfl, rfl, rfl, hst, HFi⟩ := hrel
    obtain ⟨wo, rfl⟩ : ∃ wo : World, wo = wr := ⟨_, rfl⟩
    by_cases hli : i < F.di.length
    · have hm1 := run_make_row' (P := Try.prog) 24 3 (.int .i64 0) 8 Try.underlying24 infoInt rfl .i64 .i64 F.op.length (by omega) (by omega)
      have hk5 : Kp wo ((wo.alloc (.cells #[.int .i64 (i : Int)] 3)).alloc (.cells (madeCells #[.int .i64 0] F.op.length) 3)) := ((Kp.refl wo).alloc _).alloc _
      have hv0 : ∀ a, a < F.op.length → v i a = 0 := fun a ha => HFi.out.zero i a hli ha (by omega)
      have hI1 : LsS w0 ((wo.alloc (.cells #[.int .i64 (i : Int)] 3)).alloc (.cells (madeCells #[.int .i64 0] F.op.length) 3)) (bo + 1) gl cl gr cr (wo.heap.size + 1) F.op.length F.di.length F.op.length i g cap Bk Ck (fun a => lget rooms a - colT F.di.length v a) (fun j => lget needs j - rowS F.op.length v j) v (v i) [(bo, .func (.func 49) #[] caps), (wo.heap.size, .int .i64 (i : Int))] := by
        have ho := hst.go hk5
        have hlb := World.block_lt_of_cell? _ _ (hst.bx (bo, .func (.func 49) #[] caps) (by simp)).1
        have hg2 := hst.mt.glt
        have hgl2 := hst.ol.lt gl rfl
        have hgr2 := hst.oe.lt gr rfl
        refine ⟨⟨ho.kp, ho.ol, ho.oe, ho.mt, ho.ne, ho.lt, fun p hp => ?_⟩, ?_, ?_, fun j hj => ?_, fun p hp => ?_⟩
        · rcases List.mem_cons.1 hp with rfl | hp
          · exact ho.bx _ (by simp)
          · obtain rfl : p = _ := by simpa using hp
            exact ⟨range_kp (range_new' wo [.int .i64 (i : Int)] 3 rfl) ((Kp.refl _).alloc _) 0 _ rfl, by dsimp only; omega, by dsimp only; omega⟩
        · have := own_made (wo.alloc (.cells #[.int .i64 (i : Int)] 3)) (bo + 1) F.op.length (by rw [World.size_alloc]; dsimp only at hlb; omega) (by omega)
          rw [World.size_alloc] at this
          rw [show mapTo (v i) F.op.length = List.replicate F.op.length 0 from by
            apply List.ext_getElem
            · simp [mapTo_len]
            · intro k h1 h2
              rw [mapTo_get (by rw [mapTo_len] at h1; exact h1), hv0 k (by rw [mapTo_len] at h1; exact h1)]; simp]
          exact this
        · omega
        · have := hst.mt.lt hj; omega
        · rcases List.mem_cons.1 hp with rfl | hp
          · dsimp only at hlb ⊢; omega
          · obtain rfl : p = _ := by simpa using hp
            dsimp only; omega
      have hF1 : Hid (FirstG F.di.length F.op.length (dF F) (openM S) (lget needs) (lget rooms) (lfV F rooms needs S) (i * F.op.length + 0) v) := by rw [Nat.add_zero]; exact HFi
      obtain ⟨bi, Hbi⟩ : ∃ bi, Hid (wo.heap.size = bi) := ⟨_, rfl⟩
      rw [Hbi.out] at hI1
      have HI1 := Lib.hid hI1
      have Hv0 := Lib.hid hv0
      have hm2 := hm1
      clear hI1 hv0
      go_wp2_with fail
      rw [Hbi.out]
      go_loopw [16, 51] (fun sv av wa => ∃ (a : Nat) (v' : Nat → Nat → Int), a ≤ F.op.length ∧ av = .int .i64 a ∧ sv = .int .i64 (costT F.di.length F.op.length (dF F) v') ∧ LsS w0 wa (bo + 1) gl cl gr cr (bi + 1) F.op.length F.di.length F.op.length i g cap Bk Ck (fun a => lget rooms a - colT F.di.length v' a) (fun j => lget needs j - rowS F.op.length v' j) v (v' i) [(bo, .func (.func 49) #[] caps), (bi, .int .i64 (i : Int))] ∧ Hid (FirstG F.di.length F.op.length (dF F) (openM S) (lget needs) (lget rooms) (lfV F rooms needs S) (i * F.op.length + a) v') ∧ Hid (∀ j, j < i → v' j = v j)) (fun _ av _ => F.op.length - (intOf av).toNat)
      case atStart => exact ⟨0, v, by omega, rfl, rfl, HI1.out, hF1, fun _ _ => rfl⟩
      case round =>
        clear HI1 hF1 Hv0 hm1 hm2 hst HFi
        obtain ⟨a, v', ha, rfl, rfl, hsa, HFa, Hvj⟩ := hrel
        obtain ⟨wa, rfl⟩ : ∃ wa : World, wa = wr := ⟨_, rfl⟩
        by_cases hla : a < F.op.length
        · obtain ⟨ns, hns, hext⟩ := HFa.out.next hli hla (fun j => by have := HP.out.nb j; omega)
          obtain ⟨hr1, hr2⟩ := next_rest HFa.out hli hla hext
          have hvz : v' i a = 0 := HFa.out.zero i a hli hla (Nat.le_refl _)
          obtain ⟨ba, Hba⟩ : ∃ ba, Hid (wa.heap.size = ba) := ⟨_, rfl⟩
          have hI2 : LsS w0 (wa.alloc (.cells #[.int .i64 (a : Int)] 3)) (bo + 1) gl cl gr cr (bi + 1) F.op.length F.di.length F.op.length i g cap Bk Ck (fun a => lget rooms a - colT F.di.length v' a) (fun j => lget needs j - rowS F.op.length v' j) v (v' i) [(bo, .func (.func 49) #[] caps), (bi, .int .i64 (i : Int)), (wa.heap.size, .int .i64 (a : Int))] := by
            have hk6 : Kp wa (wa.alloc (.cells #[.int .i64 (a : Int)] 3)) := (Kp.refl wa).alloc _
            have ho := hsa.go hk6
            have hgw := hsa.rw_.lt (bi + 1) rfl
            have hgl2 := hsa.o.ol.lt gl rfl
            have hgr2 := hsa.o.oe.lt gr rfl
            refine ⟨⟨ho.o.kp, ho.o.ol, ho.o.oe, ho.o.mt, ho.o.ne, ho.o.lt, fun p hp => ?_⟩, ho.rw_, ho.n1, ho.n2, fun p hp => ?_⟩
            · rcases List.mem_cons.1 hp with rfl | hp
              · exact ho.o.bx _ (by simp)
              · rcases List.mem_cons.1 hp with rfl | hp
                · exact ho.o.bx _ (by simp)
                · obtain rfl : p = _ := by simpa using hp
                  exact ⟨range_new' wa [.int .i64 (a : Int)] 3 rfl 0 _ rfl, by dsimp only; omega, by dsimp only; omega⟩
            · rcases List.mem_cons.1 hp with rfl | hp
              · exact ho.n3 _ (by simp)
              · rcases List.mem_cons.1 hp with rfl | hp
                · exact ho.n3 _ (by simp)
                · obtain rfl : p = _ := by simpa using hp
                  dsimp only; omega
          rw [Hba.out] at hI2
          have HI2 := Lib.hid hI2
          have Hext := Lib.hid hext
          clear hI2 hext hsa
          go_wp2_with fail
          rw [Hba.out]
          go_loopw [21] (fun nv wn => ∃ (n : Nat) (R : Nat → Int), n ≤ ns ∧ nv = .int .i64 n ∧ LsS w0 wn (bo + 1) gl cl gr cr (bi + 1) F.op.length F.di.length F.op.length i g cap Bk Ck (fun a => lget rooms a - colT F.di.length v' a) (fun j => lget needs j - rowS F.op.length v' j) v R [(bo, .func (.func 49) #[] caps), (bi, .int .i64 (i : Int)), (ba, .int .i64 (a : Int))] ∧ Hid (∀ b, b < F.op.length → b ≠ a → R b = v' i b) ∧ Hid (∀ m : Nat, m < n → ¬ ExtG F.di.length F.op.length (dF F) (openM S) (lget needs) (lget rooms) (lfV F rooms needs S) (i * F.op.length + a + 1) (upd2 v' i a m))) (fun nv _ => ns + 1 - (intOf nv).toNat)
          case atStart => exact ⟨0, v' i, by omega, rfl, HI2.out, fun _ _ _ => rfl, fun m hm => by omega⟩
          case round =>
            clear HI2
            obtain ⟨n, R, hn, rfl, hq, HR, Hm⟩ := hrel
            obtain ⟨wn, rfl⟩ : ∃ wn : World, wn = wr := ⟨_, rfl⟩
            obtain ⟨la, Hla⟩ : ∃ z, Hid (lget rooms a - colT F.di.length v' a = z) := ⟨_, rfl⟩
            obtain ⟨ei, Hei⟩ : ∃ z, Hid (lget needs i - rowS F.op.length v' i = z) := ⟨_, rfl⟩
            have hr1' := hr1
            have hr2' := hr2
            rw [Hei.out] at hr1'
            rw [Hla.out] at hr2'
            have hlb : la ≤ 20 ∧ ei ≤ 5 := by
              have h1 := (HP.out.rb a).2
              have h2 := (HP.out.nb i).2
              have h3 : 0 ≤ colT F.di.length v' a := sumTo_nn (fun j _ => HFa.out.nn j a)
              have h4 : 0 ≤ rowS F.op.length v' i := sumTo_nn (fun b _ => HFa.out.nn i b)
              have := Hla.out; have := Hei.out
              omega
            have hlaI : (a : Int) < (F.op.length : Int) := by omega
            have hliI : (i : Int) < (F.di.length : Int) := by omega
            have q1 := hq.setR hla (n : Int)
            have q2 := q1.setL hla (la - n)
            have q3 := q2.setE hli (ei - n)
            have x1 := (hq.o.bx (ba, .int .i64 (a : Int)) (by simp)).1
            obtain ⟨x2, x2f, -⟩ := hq.rw_.slotL (mapTo_len _ _) hla
            have y1 := (q1.o.bx (ba, .int .i64 (a : Int)) (by simp)).1
            obtain ⟨y2, y2f, -⟩ := q1.o.ol.slotL (mapTo_len _ _) hla
            rw [mapTo_lget hla, Hla.out] at y2
            have z1 := (q2.o.bx (bi, .int .i64 (i : Int)) (by simp)).1
            obtain ⟨z2, z2f, -⟩ := q2.o.oe.slotL (mapTo_len _ _) hli
            rw [mapTo_lget hli, Hei.out] at z2
            have u0 := (hk1.trans q3.o.kp).get (hkb.get d0)
            have u1 := (hk1.trans q3.o.kp).get (hkb.get d1)
            have ad1 : (⟨bi + 1, 0, none⟩ : Addr).add a = ⟨bi + 1, a, none⟩ := add0 _ _
            have ad2 : (⟨gl, 0, none⟩ : Addr).add a = ⟨gl, a, none⟩ := add0 _ _
            have ad3 : (⟨gr, 0, none⟩ : Addr).add i = ⟨gr, i, none⟩ := add0 _ _
            have Q3 := Lib.hid q3
            have Hxi := Lib.hid (fun (wx : World) (hx : Kp (((wn.setCell ⟨bi + 1, a, none⟩ (.int .i64 (n : Int))).setCell ⟨gl, a, none⟩ (.int .i64 (la - n))).setCell ⟨gr, i, none⟩ (.int .i64 (ei - n))) wx) => lsfClo_any 49 caps F.di.length F.op.length (openM S) bo bi ba wx (Hcan.out.kp (q3.o.kp.trans hx)) i a hla (hx.get (q3.o.bx (bo, .func (.func 49) #[] caps) (by simp)).1) (hx.get (q3.o.bx (bi, .int .i64 (i : Int)) (by simp)).1) (hx.get (q3.o.bx (ba, .int .i64 (a : Int)) (by simp)).1))
            clear q1 q2 q3 hq
            go_wp2_with fail
            clear x1 x2 x2f y1 y2 y2f z1 z2 z2f u0 u1
            generalize ((wn.setCell ⟨bi + 1, a, none⟩ (.int .i64 (n : Int))).setCell ⟨gl, a, none⟩ (.int .i64 (la - n))).setCell ⟨gr, i, none⟩ (.int .i64 (ei - n)) = w5 at *
            have hcl : Can 25 #[.pointer (some ⟨bo, 0, none⟩), .pointer (some ⟨bi, 0, none⟩), .pointer (some ⟨ba, 0, none⟩)] F.di.length F.op.length (mayT F.op.length (openM S) (i * F.op.length + a + 1)) w5 :=
              ⟨callFunc_of Try.func25 (by kernel_rfl) (by kernel_rfl), fun j b w' hk hj hb => Hxi.out w' hk j b hj hb⟩
            have hLp : ∀ b, b < F.op.length → 0 ≤ upd (fun a => lget rooms a - colT F.di.length v' a) a (la - n) b ∧ upd (fun a => lget rooms a - colT F.di.length v' a) a (la - n) b ≤ 20 := fun b hb => by
              by_cases e : b = a
              · rw [e, upd_at]; omega
              · rw [upd_ne e]
                have h1 := (HP.out.rb b).2
                have h3 : 0 ≤ colT F.di.length v' b := sumTo_nn (fun j _ => HFa.out.nn j b)
                have := HFa.out.rest.2 b hb
                omega
            have hEp : ∀ b, b < F.di.length → 0 ≤ upd (fun j => lget needs j - rowS F.op.length v' j) i (ei - n) b ∧ upd (fun j => lget needs j - rowS F.op.length v' j) i (ei - n) b ≤ 5 := fun b hb => by
              by_cases e : b = i
              · rw [e, upd_at]; omega
              · rw [upd_ne e]
                have h1 := (HP.out.nb b).2
                have h3 : 0 ≤ rowS F.op.length v' b := sumTo_nn (fun j _ => HFa.out.nn b j)
                have := HFa.out.rest.1 b hb
                omega
            obtain ⟨LL, HLL⟩ : ∃ z, Hid (mapTo (upd (fun a => lget rooms a - colT F.di.length v' a) a (la - n)) F.op.length = z) := ⟨_, rfl⟩
            obtain ⟨EE, HEE⟩ : ∃ z, Hid (mapTo (upd (fun j => lget needs j - rowS F.op.length v' j) i (ei - n)) F.di.length = z) := ⟨_, rfl⟩
            have hLl : LL.length = F.op.length := by rw [← HLL.out]; exact mapTo_len _ _
            have hEl : EE.length = F.di.length := by rw [← HEE.out]; exact mapTo_len _ _
            have HLf : Hid (∀ b, b < F.op.length → lget LL b = lget rooms b - colT F.di.length (upd2 v' i a n) b) := fun b hb => by
              rw [← HLL.out, mapTo_lget hb, col_upd2 _ _ hli, hvz]
              by_cases e : b = a
              · subst e
                rw [upd_at, if_pos rfl]
                have := Hla.out; omega
              · rw [upd_ne e, if_neg e]; omega
            have HEf : Hid (∀ j, j < F.di.length → lget EE j = lget needs j - rowS F.op.length (upd2 v' i a n) j) := fun j hj => by
              rw [← HEE.out, mapTo_lget hj, row_upd2 _ _ hla, hvz]
              by_cases e : j = i
              · subst e
                rw [upd_at, if_pos rfl]
                have := Hei.out; omega
              · rw [upd_ne e, if_neg e]; omega
            have HHr : Hid (haulB F LL EE S = true) := by
              show _ = _
              rw [← HLL.out, ← HEE.out]
              exact haulB_rest HH.out hLp hEp
            have HPr := Lib.hid (haul_p HHr.out)
            have q3 := Q3.out.o
            have CF := Lib.hid (flow_any (.agg #[.slice A F.op.length c, .slice B F.di.length d]) F (some ⟨gl, 0, none⟩) LL F.op.length cl (some ⟨gr, 0, none⟩) EE F.di.length cr _ _ _ w5 (hFA.kp (hk10.trans q3.kp)) HP.out.good (by have := q3.ol.intsOf (by rw [mapTo_len]; omega); rwa [HLL.out] at this) hLl (by have := q3.oe.intsOf (by rw [mapTo_len]; omega); rwa [HEE.out] at this) hEl rfl rfl hcl (fun x => by have := HPr.out.rb x; omega) (fun x => by have := HPr.out.nb x; omega))
            clear q3 hcl Hxi hLp hEp
            with_reducible refine Calls.mono CF.out ?_
            clear CF
            intro e w6 hpost
            have hzv : ∀ j b, j < F.di.length → b < F.op.length → i * F.op.length + a + 1 ≤ j * F.op.length + b → upd2 v' i a n j b = 0 := fun j b hj hb hp => by
              rw [upd2_ne (by
                by_cases e : j = i
                · subst e; right; intro e2; subst e2; omega
                · exact .inl e)]
              exact HFa.out.zero j b hj hb (by omega)
            have hnv : ∀ j b, 0 ≤ upd2 v' i a (n : Int) j b := fun j b => by
              rw [upd2_same]
              split
              · omega
              · exact HFa.out.nn j b
            have hmv : ∀ j b, j < F.di.length → b < F.op.length → 0 < upd2 v' i a (n : Int) j b → openM S j b = true := fun j b hj hb hp => by
              rw [upd2_same] at hp
              by_cases e : j = i ∧ b = a
              · obtain ⟨rfl, rfl⟩ := e
                rw [if_pos ⟨rfl, rfl⟩] at hp
                cases ho : openM S j b
                · exact absurd (ext_closed HFa.out.ext hli hla ho) (Hm.out 0 (by omega))
                · rfl
              · rw [if_neg e] at hp
                exact HFa.out.mayG j b hj hb hp
            have Hzv := Lib.hid hzv; have Hnv := Lib.hid hnv; have Hmv := Lib.hid hmv
            have h0a : ∀ b, b < F.op.length → 0 ≤ lget LL b := fun b _ => (HPr.out.rb b).1
            have H0a := Lib.hid h0a
            have H0b : Hid (∀ b, b < F.op.length → 0 ≤ lget rooms b - colT F.di.length (upd2 v' i a n) b) := fun b hb => by rw [← HLf.out b hb]; exact h0a b hb
            clear hzv hnv hmv h0a
            rcases hpost with ⟨gq, cq, Bq, Cq, fl, lfq, rfl, hmq, hNq, hRq, hkq⟩ | ⟨rfl, hkq, hno, -⟩
            · have hLq := hNq.least hRq
              have hL1 : IsLst F.di.length F.op.length (dF F) (mayT F.op.length (openM S) (i * F.op.length + a + 1)) (lget EE) (lget LL) (costT F.di.length F.op.length (dF F) fl) := ⟨⟨fl, hLq.1, rfl⟩, hLq.2⟩
              have hL2 := lst_congr (d' := dF F) (may' := mayT F.op.length (openM S) (i * F.op.length + a + 1)) (fun _ _ _ _ => rfl) (fun _ _ _ _ => rfl) HEf.out (fun b hb => .inr (HLf.out b hb)) H0a.out H0b.out hL1
              have HT := Lib.hid (ext_test HL.out Hnv.out Hmv.out Hzv.out hL2)
              have hfb := haul_flow (S := S) (fun j b _ _ h => by unfold mayT at h; rw [Bool.and_eq_true] at h; exact h.1) hLq.1
              have hfc := costFl_bd (flow := matL F.di.length F.op.length fl) HP.out.good (fun j => (HPr.out.nb j).2) (fun j hj => (flow_parts hfb).2.1 j (by rw [matL_len]; exact hj)) F.di.length (Nat.le_refl _)
              rw [cost_mat] at hfc
              have hfc2 : costT F.di.length F.op.length (dF F) fl ≤ 24255 := by omega
              have CF2 := Lib.hid (fun (wx : World) (hx : Kp w6 wx) => (show Calls Try.prog 27 #[.agg #[.slice A F.op.length c, .slice B F.di.length d], .slice (some ⟨gq, 0, none⟩) F.di.length cq] wx (fun e w' => e = .returned (.int .i64 (costT F.di.length F.op.length (dF F) fl)) ∧ Kp wx w') from by
                rw [← cost_mat]
                exact flowCost_any _ F LL EE S (some ⟨gq, 0, none⟩) (matL F.di.length F.op.length fl) F.di.length cq wx (hFA.kp ((hk10.trans Q3.out.o.kp).trans (hkq.trans hx))) ((hmq.grid (by omega) (by omega)).kp hx) (matL_len _ _ _) HHr.out hfb))
              have Q4 := Lib.hid (Q3.out.go hkq)
              obtain ⟨bd, ar, cr2, rfl, y2, y3f⟩ := dist_row HP.out.good (HB.out.kp (hk10.trans Q4.out.o.kp)) hli
              have y3 := y3f a hla
              have y0 := (hk1.trans Q4.out.o.kp).get (hkb.get d0)
              have y1 := (hk1.trans Q4.out.o.kp).get (hkb.get d1)
              have y4 := (Q4.out.o.bx (bi, .int .i64 (i : Int)) (by simp)).1
              have y5 := (Q4.out.o.bx (ba, .int .i64 (a : Int)) (by simp)).1
              obtain ⟨dv, Hdv⟩ : ∃ z, Hid (dF F i a = z) := ⟨_, rfl⟩
              obtain ⟨fc, Hfc⟩ : ∃ z, Hid (costT F.di.length F.op.length (dF F) fl = z) := ⟨_, rfl⟩
              obtain ⟨cs, Hcs⟩ : ∃ z, Hid (lfV F rooms needs S = z) := ⟨_, rfl⟩
              rw [Hdv.out] at y3
              rw [Hfc.out] at hfc hfc2 CF2
              have hdb := dF_bd HP.out.good i a
              rw [Hdv.out] at hdb
              have hnd : 0 ≤ (n : Int) * dv ∧ (n : Int) * dv ≤ 495 := prod_bd (by omega) (by omega) hdb.1 hdb.2
              have hsp : 0 ≤ costT F.di.length F.op.length (dF F) v' ∧ costT F.di.length F.op.length (dF F) v' ≤ 24255 := by
                have h0 : 0 ≤ costT F.di.length F.op.length (dF F) v' := sumTo_nn (fun j _ => sumTo_nn (fun b _ => Int.mul_nonneg (HFa.out.nn j b) (dF_bd HP.out.good j b).1))
                obtain ⟨y, hy1, hy2⟩ := ext_down HFa.out.ext HFa.out.zero
                have h1 : 0 ≤ costT F.di.length F.op.length (dF F) y := sumTo_nn (fun j hj => sumTo_nn (fun b hb => Int.mul_nonneg (hy1.nn j b hj hb) (dF_bd HP.out.good j b).1))
                have := HBd.out
                omega
              have Hcv : Hid (costT F.di.length F.op.length (dF F) (upd2 v' i a n) = costT F.di.length F.op.length (dF F) v' + (n : Int) * dv) := by
                show _ = _
                rw [cost_upd2 _ _ _ hli hla, hvz, Hdv.out, Int.sub_zero]
              have Hww : Hid (IntKind.i64.wrap (IntKind.i64.wrap (costT F.di.length F.op.length (dF F) v' + IntKind.i64.wrap ((n : Int) * dv)) + fc) = costT F.di.length F.op.length (dF F) v' + (n : Int) * dv + fc) := by
                show _ = _
                rw [IntWalk.i64_in ((n : Int) * dv) (by omega), IntWalk.i64_in (costT F.di.length F.op.length (dF F) v' + (n : Int) * dv) (by omega)]
                exact IntWalk.i64_in _ (by omega)
              have hkz : Kp w6 w6 := Kp.refl _
              clear hL1 hL2 hLq hfb hNq hRq hmq y3f
              by_cases hx : ExtG F.di.length F.op.length (dF F) (openM S) (lget needs) (lget rooms) (lfV F rooms needs S) (i * F.op.length + a + 1) (upd2 v' i a n)
              · have heq : ((costT F.di.length F.op.length (dF F) v' + (n : Int) * dv + fc) == lfV F rooms needs S) = true := by
                  rw [beq_iff_eq, ← Hcv.out, ← Hfc.out]; exact HT.out.2 hx
                rw [← Hww.out] at heq
                have Hx := Lib.hid hx
                clear hx
                clear q_d0 q_d1
                have q_d0 := hkb.get d0
                have q_d1 := hkb.get d1
                have q_y0 := hkz.get y0
                have q_y1 := hkz.get y1
                have q_y2 := hkz.get y2
                have q_y3 := hkz.get y3
                have q_y4 := hkz.get y4
                have q_y5 := hkz.get y5
                go_wp2_with fail
                clear q_d0 q_d1 q_y0 q_y1 q_y2 q_y3 q_y4 q_y5
                have q_y0 := hkz.get y0
                have q_y1 := hkz.get y1
                have q_y2 := hkz.get y2
                have q_y3 := hkz.get y3
                have q_y4 := hkz.get y4
                have q_y5 := hkz.get y5
                have tok1 : True := trivial
                go_wp2_with fail
                go_region_held3 (fun w' => w'.cell? ⟨w.heap.size, 0, none⟩ = some (.slice A F.op.length c) ∧ w'.cell? ⟨w.heap.size, 1, none⟩ = some (.slice (some bd) F.di.length d) ∧ w'.cell? (bd.add i) = some (.slice (some ar) F.op.length cr2) ∧ w'.cell? (ar.add a) = some (.int .i64 dv) ∧ w'.cell? ⟨bi, 0, none⟩ = some (.int .i64 (i : Int)) ∧ w'.cell? ⟨ba, 0, none⟩ = some (.int .i64 (a : Int)) ∧ Kp w6 w')
                  (first | (refine keepc6 y0 y1 y2 y3 y4 y5 ?_; exact (by repeat (first | with_reducible assumption | with_reducible exact Kp.refl _ | with_reducible refine Kp.drew ?_ | with_reducible refine Kp.alloc ?_ _ | with_reducible refine Kp.drewN ?_ _ | refine Kp.setCell ?_ (by dsimp only; omega) _))) | fail)
                  (first
                    | (have _t := tok1; go_at_call 27; with_reducible refine Calls.mono (CF2.out _ (by repeat (first | with_reducible assumption | with_reducible exact Kp.refl _ | with_reducible refine Kp.drew ?_ | with_reducible refine Kp.alloc ?_ _ | with_reducible refine Kp.drewN ?_ _ | refine Kp.setCell ?_ (by dsimp only; omega) _))) ?_; rintro e wr1 ⟨rfl, hka⟩; have hr1 : Kp w6 wr1 := Kp.trans (by repeat (first | with_reducible assumption | with_reducible exact Kp.refl _ | with_reducible refine Kp.drew ?_ | with_reducible refine Kp.alloc ?_ _ | with_reducible refine Kp.drewN ?_ _ | refine Kp.setCell ?_ (by dsimp only; omega) _)) hka; have tok2 : True := trivial; clear tok1 _t)
                    | fail)
                all_goals
                  have Q5 := Lib.hid (((Q4.out.go hr1).congr (L' := fun b => lget rooms b - colT F.di.length (upd2 v' i a n) b) (E' := fun j => lget needs j - rowS F.op.length (upd2 v' i a n) j) (R' := upd2 v' i a n i) (fun b hb => by rw [← HLf.out b hb, ← HLL.out, mapTo_lget hb]) (fun j hj => by rw [← HEf.out j hj, ← HEE.out, mapTo_lget hj]) (fun b hb => by
                    by_cases e : b = a
                    · rw [e, upd2_at, upd_at]
                    · rw [upd2_ne (.inr e), upd_ne e, HR.out b hb e])).go (Kp.refl _).drew)
                  have Q4b := Lib.hid ((Q4.out.go hr1))
                  have HF2 := Lib.hid (HFa.out.step hli hla n Hx.out Hm.out)
                  have Hvj2 : Hid (∀ j, j < i → upd2 v' i a (n : Int) j = v j) := fun j hj => by
                    rw [← Hvj.out j hj]
                    funext b
                    rw [upd2_ne (.inl (by omega))]
                  have x1 := (Q4b.out.o.bx (ba, .int .i64 (a : Int)) (by simp)).1
                  have x2 := (Q4b.out.o.bx (bi, .int .i64 (i : Int)) (by simp)).1
                  obtain ⟨x3, x3f, -⟩ := Q4b.out.rw_.slotL (mapTo_len _ _) hla
                  rw [mapTo_lget hla, upd_at] at x3
                  have x4 := hr1.get y1; have x5 := hr1.get y2; have x6 := hr1.get y3
                  clear Q4b
                  go_wp2_with fail
                  go_region
                  (try go_wp2_with fail)
                  go_roundw
                  case rel => exact ⟨a + 1, upd2 v' i a n, by omega, by go_num, by rw [Hcv.out], Q5.out.sub (fun p hp => by simp only [List.mem_cons, List.not_mem_nil, or_false] at hp ⊢; rcases hp with h | h <;> simp [h]), HF2, Hvj2⟩
                  case measure => simp [intOf]; omega
              · have heq : ((costT F.di.length F.op.length (dF F) v' + (n : Int) * dv + fc) == lfV F rooms needs S) = false := by
                  rw [beq_eq_false_iff_ne, ← Hcv.out, ← Hfc.out]; exact fun e => hx (HT.out.1 e)
                rw [← Hww.out] at heq
                have Hne := Lib.hid hx
                clear hx
                clear q_d0 q_d1
                have q_d0 := hkb.get d0
                have q_d1 := hkb.get d1
                have q_y0 := hkz.get y0
                have q_y1 := hkz.get y1
                have q_y2 := hkz.get y2
                have q_y3 := hkz.get y3
                have q_y4 := hkz.get y4
                have q_y5 := hkz.get y5
                go_wp2_with fail
                clear q_d0 q_d1 q_y0 q_y1 q_y2 q_y3 q_y4 q_y5
                have q_y0 := hkz.get y0
                have q_y1 := hkz.get y1
                have q_y2 := hkz.get y2
                have q_y3 := hkz.get y3
                have q_y4 := hkz.get y4
                have q_y5 := hkz.get y5
                have tok1 : True := trivial
                go_wp2_with fail
                go_region_held3 (fun w' => w'.cell? ⟨w.heap.size, 0, none⟩ = some (.slice A F.op.length c) ∧ w'.cell? ⟨w.heap.size, 1, none⟩ = some (.slice (some bd) F.di.length d) ∧ w'.cell? (bd.add i) = some (.slice (some ar) F.op.length cr2) ∧ w'.cell? (ar.add a) = some (.int .i64 dv) ∧ w'.cell? ⟨bi, 0, none⟩ = some (.int .i64 (i : Int)) ∧ w'.cell? ⟨ba, 0, none⟩ = some (.int .i64 (a : Int)) ∧ Kp w6 w')
                  (first | (refine keepc6 y0 y1 y2 y3 y4 y5 ?_; exact (by repeat (first | with_reducible assumption | with_reducible exact Kp.refl _ | with_reducible refine Kp.drew ?_ | with_reducible refine Kp.alloc ?_ _ | with_reducible refine Kp.drewN ?_ _ | refine Kp.setCell ?_ (by dsimp only; omega) _))) | fail)
                  (first
                    | (have _t := tok1; go_at_call 27; with_reducible refine Calls.mono (CF2.out _ (by repeat (first | with_reducible assumption | with_reducible exact Kp.refl _ | with_reducible refine Kp.drew ?_ | with_reducible refine Kp.alloc ?_ _ | with_reducible refine Kp.drewN ?_ _ | refine Kp.setCell ?_ (by dsimp only; omega) _))) ?_; rintro e wr1 ⟨rfl, hka⟩; have hr1 : Kp w6 wr1 := Kp.trans (by repeat (first | with_reducible assumption | with_reducible exact Kp.refl _ | with_reducible refine Kp.drew ?_ | with_reducible refine Kp.alloc ?_ _ | with_reducible refine Kp.drewN ?_ _ | refine Kp.setCell ?_ (by dsimp only; omega) _)) hka; have tok2 : True := trivial; clear tok1 _t)
                    | fail)
                all_goals
                  replace Q4 := Lib.hid (Q4.out.go hr1)
                  have hnn : n < ns := by
                    rcases Nat.lt_or_ge n ns with h | h
                    · exact h
                    · obtain rfl : n = ns := by omega
                      exact absurd Hext.out Hne.out
                  have q4 := Q4.out.setL hla la
                  have x1 := (Q4.out.o.bx (ba, .int .i64 (a : Int)) (by simp)).1
                  obtain ⟨x2, x2f, -⟩ := Q4.out.o.ol.slotL (mapTo_len _ _) hla
                  rw [mapTo_lget hla, upd_at] at x2
                  have x3 := (q4.o.bx (bi, .int .i64 (i : Int)) (by simp)).1
                  obtain ⟨x4, x4f, -⟩ := q4.o.oe.slotL (mapTo_len _ _) hli
                  rw [mapTo_lget hli, upd_at] at x4
                  have hs1 : la - (n : Int) + n = la := by omega
                  have hs2 : ei - (n : Int) + n = ei := by omega
                  have Q5 := Lib.hid ((q4.setE hli ei).congr (L' := (fun a => lget rooms a - colT F.di.length v' a)) (E' := (fun j => lget needs j - rowS F.op.length v' j)) (R' := upd R a n) (fun b _ => by
                    by_cases e : b = a
                    · subst e; rw [upd_at, Hla.out]
                    · rw [upd_ne e, upd_ne e]) (fun b _ => by
                    by_cases e : b = i
                    · subst e; rw [upd_at, Hei.out]
                    · rw [upd_ne e, upd_ne e]) (fun _ _ => rfl))
                  have HR2 : Hid (∀ b, b < F.op.length → b ≠ a → upd R a (n : Int) b = v' i b) := fun b hb hne => by rw [upd_ne hne]; exact HR.out b hb hne
                  have Hm2 : Hid (∀ m : Nat, m < n + 1 → ¬ ExtG F.di.length F.op.length (dF F) (openM S) (lget needs) (lget rooms) (lfV F rooms needs S) (i * F.op.length + a + 1) (upd2 v' i a m)) := fun m hm => by
                    rcases Nat.lt_or_ge m n with h | h
                    · exact Hm.out m h
                    · obtain rfl : m = n := by omega
                      exact Hne.out
                  clear q4 Q4
                  go_wp2_with fail
                  refine ⟨⟨n + 1, upd R a n, by omega, by go_num, Q5.out, HR2, Hm2⟩, ?_⟩
                  simp [intOf]; omega
            · have Hne := Lib.hid (ext_no (nd := lget needs) (rm := lget rooms) (d := dF F) (c := lfV F rooms needs S) Hzv.out (fun y hy => hno y (haul_congr (fun _ _ _ _ => rfl) (fun j hj => (HEf.out j hj).symm) (fun b hb => .inr (HLf.out b hb).symm) H0a.out hy)))
              have Q4 := Lib.hid (Q3.out.go hkq)
              clear hno
              go_wp2_with fail
              go_region
              replace Q4 := Lib.hid (Q4.out.go (Kp.refl _).drew)
              generalize w6.drew = w7 at *
              have hnn : n < ns := by
                rcases Nat.lt_or_ge n ns with h | h
                · exact h
                · obtain rfl : n = ns := by omega
                  exact absurd Hext.out Hne.out
              have q4 := Q4.out.setL hla la
              have x1 := (Q4.out.o.bx (ba, .int .i64 (a : Int)) (by simp)).1
              obtain ⟨x2, x2f, -⟩ := Q4.out.o.ol.slotL (mapTo_len _ _) hla
              rw [mapTo_lget hla, upd_at] at x2
              have x3 := (q4.o.bx (bi, .int .i64 (i : Int)) (by simp)).1
              obtain ⟨x4, x4f, -⟩ := q4.o.oe.slotL (mapTo_len _ _) hli
              rw [mapTo_lget hli, upd_at] at x4
              have hs1 : la - (n : Int) + n = la := by omega
              have hs2 : ei - (n : Int) + n = ei := by omega
              have Q5 := Lib.hid ((q4.setE hli ei).congr (L' := (fun a => lget rooms a - colT F.di.length v' a)) (E' := (fun j => lget needs j - rowS F.op.length v' j)) (R' := upd R a n) (fun b _ => by
                by_cases e : b = a
                · subst e; rw [upd_at, Hla.out]
                · rw [upd_ne e, upd_ne e]) (fun b _ => by
                by_cases e : b = i
                · subst e; rw [upd_at, Hei.out]
                · rw [upd_ne e, upd_ne e]) (fun _ _ => rfl))
              have HR2 : Hid (∀ b, b < F.op.length → b ≠ a → upd R a (n : Int) b = v' i b) := fun b hb hne => by rw [upd_ne hne]; exact HR.out b hb hne
              have Hm2 : Hid (∀ m : Nat, m < n + 1 → ¬ ExtG F.di.length F.op.length (dF F) (openM S) (lget needs) (lget rooms) (lfV F rooms needs S) (i * F.op.length + a + 1) (upd2 v' i a m)) := fun m hm => by
                rcases Nat.lt_or_ge m n with h | h
                · exact Hm.out m h
                · obtain rfl : m = n := by omega
                  exact Hne.out
              clear q4 Q4
              go_wp2_with fail
              go_roundw
              case rel => exact ⟨n + 1, upd R a n, by omega, by go_num, Q5.out, HR2, Hm2⟩
              case measure => simp [intOf]; omega
        · obtain rfl : a = F.op.length := by omega
          have HFn : Hid (FirstG F.di.length F.op.length (dF F) (openM S) (lget needs) (lget rooms) (lfV F rooms needs S) ((i + 1) * F.op.length) v') := by
            show FirstG _ _ _ _ _ _ _ _ _
            rw [Nat.add_mul, Nat.one_mul]; exact HFa.out
          have HSa := Lib.hid hsa
          have hd1 := hsa.o.mt.hd
          have hbs : bo + 1 ≤ wa.heap.size := by have := hsa.o.mt.glt; omega
          have e8 : ∀ k2 : Nat, (Value.slice (some ⟨g, 0, none⟩) i cap).ownBlock = some k2 → g = k2 := fun k2 hh => by simpa [Value.ownBlock] using hh
          go_wp2_with (at_builtin; go_loud (refine wpl_appv rfl (.tmp 134) (.tmp 136) rfl (bo + 1) (.slice (some ⟨g, 0, none⟩) i cap) i _ (.slice (some ⟨bi + 1, 0, none⟩) F.op.length F.op.length) rfl rfl hd1 rfl hbs (by omega) ?_; intro g' c' w' ho' ht' hg4))
          have hst2 : LsO w0 w' (bo + 1) gl cl gr cr F.di.length F.op.length (i + 1) g' c' (upd Bk i (bi + 1)) (upd Ck i F.op.length) (fun a => lget rooms a - colT F.di.length v' a) (fun j => lget needs j - rowS F.op.length v' j) v' [(bo, .func (.func 49) #[] caps)] := by
            have hm := HSa.out.o.mt
            have hgl2 := HSa.out.o.ol.lt gl rfl
            have hgr2 := HSa.out.o.oe.lt gr rfl
            have hlt := HSa.out.o.lt
            have hgg := hm.glt
            refine ⟨HSa.out.o.kp.turn ht' (fun k e => by have := e8 k e; omega), HSa.out.o.ol.turn ht' (fun k hk e => by have := e8 k e; have h1 : gl = k := (by simpa [Value.ownBlock] using hk); omega), HSa.out.o.oe.turn ht' (fun k hk e => by have := e8 k e; have h1 : gr = k := (by simpa [Value.ownBlock] using hk); omega), Mat.addR hm HSa.out.rw_ Hvj.out HSa.out.n1 HSa.out.n2 ho' ht', HSa.out.o.ne, hlt, fun p hp => ?_⟩
            obtain rfl : p = _ := by simpa using hp
            have hb := HSa.out.o.bx (bo, .func (.func 49) #[] caps) (by simp)
            exact ⟨ht'.get hb.1 (fun e => by have := e8 _ e; dsimp only at this; omega), hb.2⟩
          have HS2 := Lib.hid hst2
          clear hst2 ho' ht' hg4 hd1 HSa hsa
          go_wp2_with fail
          go_roundw
          case rel => exact ⟨i + 1, g', c', _, _, v', by omega, by go_num, rfl, rfl, HS2.out, HFn⟩
          case measure => simp [intOf]; omega
    · obtain rfl : i = F.di.length := by omega
      go_wp2_with fail
      go_ret2
      have hfin := ((hkw.trans hk10).trans hst.kp)
      have hl : lsL F rooms needs S = matL F.di.length F.op.length v := by
        unfold lsL
        rw [if_pos Hok.out]
        unfold matL
        refine List.map_congr_left (fun j hj => ?_)
        unfold mapTo
        refine List.map_congr_left (fun a ha => ?_)
        exact (fst_eq HL.out HFi.out (List.mem_range.1 hj) (List.mem_range.1 ha)).symm
      rw [hl]
      refine ⟨_, by rw [Hok.out]; rfl, ?_, hfin⟩
      have hg := (hst.mt.mono (base' := w.heap.size) (by have := (hkw.trans hk10).le; have := hst.lt.2.2; omega)).ownGrid
      rw [matL_len]
      exact own_grid_congr hg (fun j hj => (matL_at hj).symm)
end Go.Proofs.Ytgdicmeabppngaa

namespace Go.Proofs.Ytgdicmeabppngaa
open Go.RowKit Go.Sort

theorem least_nat {P : Nat → Prop} (h : ∃ n, P n) : ∃ n, P n ∧ ∀ m, m < n → ¬ P m := by
  have key : ∀ k n, n ≤ k → P n → ∃ n, P n ∧ ∀ m, m < n → ¬ P m := by
    intro k
    induction k with
    | zero => exact fun n hn hp => ⟨n, hp, fun m hm => by omega⟩
    | succ k ih =>
      intro n hn hp
      by_cases hy : ∃ m, m < n ∧ P m
      · obtain ⟨m, h1, h2⟩ := hy
        exact ih m (by omega) h2
      · exact ⟨n, hp, fun m hm hm2 => hy ⟨m, hm, hm2⟩⟩
  obtain ⟨n, hp⟩ := h
  exact key n n (Nat.le_refl _) hp
theorem first_ex {J M : Nat} {d : Nat → Nat → Int} {may : Nat → Nat → Bool} {nd rm : Nat → Int} {c : Int} (hl : IsLst J M d may nd rm c) (hn : ∀ i, nd i ≤ 1000) : ∀ t, t ≤ J * M → ∃ v, FirstG J M d may nd rm c t v := by
  intro t
  induction t with
  | zero => exact fun _ => ⟨_, FirstG.start hl⟩
  | succ t ih =>
    intro ht
    obtain ⟨v, hv⟩ := ih (by omega)
    have hM : 0 < M := by
      rcases Nat.eq_zero_or_pos M with h | h
      · subst h; omega
      · exact h
    have e : t / M * M + t % M = t := by rw [Nat.mul_comm]; exact Nat.div_add_mod t M
    have ha : t % M < M := Nat.mod_lt _ hM
    have hj : t / M < J := (Nat.div_lt_iff_lt_mul hM).2 (by omega)
    rw [← e] at hv
    obtain ⟨n, _, hx⟩ := hv.next hj ha hn
    obtain ⟨m, h1, h2⟩ := least_nat (P := fun k => ExtG J M d may nd rm c (t / M * M + t % M + 1) (upd2 v (t / M) (t % M) (k : Nat))) ⟨n, hx⟩
    have := hv.step hj ha m h1 h2
    rw [e] at this
    exact ⟨_, this⟩
/-- The least flow is a flow of least cost. -/
theorem ls_flow {F : Fld} {rooms needs S : List Int} (hok : lfOk F rooms needs S = true) : fcIn F rooms needs S (lsL F rooms needs S) = true ∧ fcV F rooms needs S (lsL F rooms needs S) = lfV F rooms needs S := by
  have h0 := hok
  unfold lfOk at h0
  rw [Bool.and_eq_true, decide_eq_true_eq] at h0
  have hP := haul_p h0.1
  have hl := lf_lstF hok
  obtain ⟨v, hv⟩ := first_ex hl (fun i => by have := hP.nb i; omega) (F.di.length * F.op.length) (Nat.le_refl _)
  have hg : ∀ j a, j < F.di.length → a < F.op.length → v j a = fstG F.di.length F.op.length (dF F) (openM S) (lget needs) (lget rooms) j a := fun j a hj ha => fst_eq hl hv hj ha
  obtain ⟨x, hx, hc, he⟩ := hv.ext
  have hex : ∀ j a, j < F.di.length → a < F.op.length → x j a = fstG F.di.length F.op.length (dF F) (openM S) (lget needs) (lget rooms) j a := fun j a hj ha => by
    rw [← hg j a hj ha]
    refine he j a hj ha ?_
    have h1 : (j + 1) * F.op.length ≤ F.di.length * F.op.length := Nat.mul_le_mul_right _ hj
    rw [Nat.add_mul, Nat.one_mul] at h1
    omega
  have hL : lsL F rooms needs S = matL F.di.length F.op.length (fstG F.di.length F.op.length (dF F) (openM S) (lget needs) (lget rooms)) := by unfold lsL; rw [if_pos hok]
  have hL2 : lsL F rooms needs S = matL F.di.length F.op.length x := by
    rw [hL]
    unfold matL
    refine List.map_congr_left (fun j hj => ?_)
    unfold mapTo
    exact List.map_congr_left (fun a ha => (hex j a (List.mem_range.1 hj) (List.mem_range.1 ha)).symm)
  have hin : fcIn F rooms needs S (lsL F rooms needs S) = true := by
    unfold fcIn
    rw [h0.1, hL2, haul_flow (fun j a _ _ h => h) hx]; rfl
  refine ⟨hin, ?_⟩
  rw [fcV, if_pos hin, hL2, cost_mat, hc]
/-- The least flow with the least prices is a proof. -/
theorem ls_proof {F : Fld} {rooms needs S : List Int} {fl : Nat → Nat → Int} (hok : lfOk F rooms needs S = true) (ho : OptN F rooms needs S fl) :
    ipIn F rooms needs S (lsL F rooms needs S) (lpU F rooms needs S) (lpW F rooms needs S) = true ∧ ipR F rooms needs S (lsL F rooms needs S) (lpU F rooms needs S) (lpW F rooms needs S) = true ∧ yieldF rooms needs (lpU F rooms needs S) (lpW F rooms needs S) = lfV F rooms needs S := by
  have h0 := hok
  unfold lfOk at h0
  rw [Bool.and_eq_true, decide_eq_true_eq] at h0
  have hP := haul_p h0.1
  obtain ⟨h1, h2⟩ := lp_proof hok ho
  obtain ⟨h3, h4⟩ := ls_flow hok
  have hin : ipIn F rooms needs S (lsL F rooms needs S) (lpU F rooms needs S) (lpW F rooms needs S) = true := by unfold ipIn; rw [h3, h1]; rfl
  have hy : yieldF rooms needs (lpU F rooms needs S) (lpW F rooms needs S) = lfV F rooms needs S := by
    obtain ⟨lf, hn⟩ := ho.net
    have hx : Haul F.di.length F.op.length (openM S) (lget needs) (lget rooms) fl := by
      refine ⟨hn.nn, hn.mayf, ho.row, fun a ha => ?_⟩
      have h5 := hn.col a ha
      have h6 := hn.lf0 a ha
      have h7 := (hP.rb a).1
      unfold startR at h5
      split at h5 <;> omega
    have h5 := (lf_lstF hok).all_ _ hx
    obtain ⟨y, hy1, hy2⟩ := (lf_lstF hok).some_
    have h6 := yield_haul hP hy1 h1
    omega
  refine ⟨hin, ?_, hy⟩
  unfold ipR
  rw [hin, hy, Bool.true_and]
  rw [fcV, if_pos h3] at h4
  exact decide_eq_true h4
theorem sum_plus {f g : Nat → Int} {b M : Nat} (hb : b < M) (h1 : ∀ a, a < M → a ≠ b → f a = g a) : sumTo f M - sumTo g M = f b - g b := by
  rw [← sumTo_sub]
  exact sumTo_single (g := fun a => f a - g a) hb (fun a ha hne => by rw [h1 a ha hne]; omega)
/-- One more room at a site saves at most its price. -/
theorem more_room {F : Fld} {rooms needs S : List Int} {fl : Nat → Nat → Int} (hok : lfOk F rooms needs S = true) (ho : OptN F rooms needs S fl) {b : Nat} (hb : b < F.op.length) (hok2 : lfOk F (rooms.set b (lget rooms b + 1)) needs S = true) :
    lfV F (rooms.set b (lget rooms b + 1)) needs S ≤ lfV F rooms needs S ∧ lfV F rooms needs S - lfV F (rooms.set b (lget rooms b + 1)) needs S ≤ lget (lpW F rooms needs S) b := by
  have h0 := hok
  unfold lfOk at h0
  rw [Bool.and_eq_true, decide_eq_true_eq] at h0
  have hP := haul_p h0.1
  have h02 := hok2
  unfold lfOk at h02
  rw [Bool.and_eq_true, decide_eq_true_eq] at h02
  have hP2 := haul_p h02.1
  have hbl : b < rooms.length := by rw [hP.rl]; exact hb
  have hr : ∀ a, lget (rooms.set b (lget rooms b + 1)) a = if a = b then lget rooms b + 1 else lget rooms a := fun a => lget_set hbl
  obtain ⟨h1, _⟩ := lp_proof hok ho
  obtain ⟨_, _, hy⟩ := ls_proof hok ho
  constructor
  · obtain ⟨x, hx, hc⟩ := (lf_lstF hok).some_
    rw [← hc]
    refine (lf_lstF hok2).all_ x ⟨hx.nn, hx.may, hx.row, fun a ha => ?_⟩
    have h2 := hx.col a ha
    rw [hr]
    split
    · rename_i e; subst e; omega
    · exact h2
  · obtain ⟨x, hx, hc⟩ := (lf_lstF hok2).some_
    have h2 := yield_haul hP2 hx h1
    rw [hc] at h2
    have h3 : yieldF (rooms.set b (lget rooms b + 1)) needs (lpU F rooms needs S) (lpW F rooms needs S) = yieldF rooms needs (lpU F rooms needs S) (lpW F rooms needs S) - lget (lpW F rooms needs S) b := by
      unfold yieldF yP
      rw [List.length_set]
      have h4 := sum_plus (f := fun j => lget (rooms.set b (lget rooms b + 1)) j * lget (lpW F rooms needs S) j) (g := fun j => lget rooms j * lget (lpW F rooms needs S) j) hbl (fun a _ hne => by
        show lget (rooms.set b (lget rooms b + 1)) a * _ = _
        rw [hr, if_neg hne])
      have h5 : lget (rooms.set b (lget rooms b + 1)) b * lget (lpW F rooms needs S) b = lget rooms b * lget (lpW F rooms needs S) b + lget (lpW F rooms needs S) b := by
        rw [hr, if_pos rfl, Int.add_mul, Int.one_mul]
      omega
    rw [h3, hy] at h2
    omega
end Go.Proofs.Ytgdicmeabppngaa

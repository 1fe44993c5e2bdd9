/- The follower's best set: the program's walk. No condition. -/
import Derived.Test.YtcekddpllpbkmaaFollP
import Derived.Test.YtcekddpllpbkmaaDel
namespace Go.Proofs.Ytcekddpllpbkmaa
open Go.RowKit Go.Sort

theorem fp_len {L : List Int} {k : Int} {S : List Int} (h : ¬ (S.length : Int) = k) : fp L k S = false := by unfold fp; rw [decide_eq_false h]; rfl
theorem fp_meet {L : List Int} {k : Int} {S : List Int} (h : meetB L S = true) : fp L k S = false := by unfold fp; rw [h]; simp
theorem fp_yes {L : List Int} {k : Int} {S : List Int} (h : (S.length : Int) = k) (h2 : meetB L S = false) : fp L k S = true := by unfold fp; rw [h2, decide_eq_true h]; rfl
set_option maxHeartbeats 1000000 in
theorem folClo1_any (L : List Int) (k : Int) (p q : Nat) (W : World) (x0 : W.cell? ⟨p, 0, none⟩ = some (.int .i64 k)) (x1 : W.cell? ⟨q, 0, none⟩ = some (.int .u64 (bagN L))) (Av : Option Addr) (S : List Int) (n cv : Nat) (hS : IntsAt W Av S) (hn : S.length = n) (hm : ∀ x ∈ S, 0 ≤ x ∧ x < 7) (hl : ∀ x ∈ L, 0 ≤ x ∧ x < 7) :
    Calls Try.prog 75 #[.slice Av n cv, .pointer (some ⟨p, 0, none⟩), .pointer (some ⟨q, 0, none⟩)] W fun e w' => e = .returned (.bool (!fp L k S)) ∧ ∃ q, w' = W.drewN q := by
  have C1 := Lib.hid (fun (wx : World) (hx : Kp W wx) => bagOf_any Av S n cv wx (hS.kp hx) hn (fun x hx => by have := hm x hx; omega))
  have Cq := Lib.hid (fun nn => Calls.same_quiet (C1.out (W.drewN nn) ((Kp.refl W).drewN nn)))
  have b0 : bagN L < 2 ^ 7 := bagN_lt hl
  have b1 : bagN S < 2 ^ 7 := bagN_lt hm
  have hand := u64_and_nat (bagN S) (bagN L) (by omega) (by omega)
  by_cases hlen : (n : Int) = k
  · have hdec : ((n : Int) == k) = true := by simp [hlen]
    have hdec2 : ((n : Int) != k) = false := by simp [hlen]
    by_cases hz : bagN S &&& bagN L = 0
    · have hno := bag_yes (L := L) (S := S) (fun y hy => (hl y hy).1) (fun y hy => (hm y hy).1) (by rw [Nat.and_comm]; exact hz)
      have Hy : Hid (Value.bool false = Value.bool (!fp L k S)) := by show _ = _; rw [fp_yes (by rw [hn]; exact hlen) hno]; rfl
      rw [hz] at hand
      replace hand : bits .and .u64 (bagN S : Int) (bagN L : Int) = 0 := hand
      clear C1 hS hn hm hl hlen hz b0 b1 hno
      go_enter Try.func75, Try.ntmps75
      go_wp2_with fail
      go_quiet (exact Cq.out _)
      go_wp2_with fail
      go_ret
      exact ⟨by rw [← Hy.out]; rfl, nq, rfl⟩
    · have hyes := bag_no (L := L) (S := S) (fun y hy => (hl y hy).1) (fun y hy => (hm y hy).1) (by rw [Nat.and_comm]; exact hz)
      have Hy : Hid (Value.bool true = Value.bool (!fp L k S)) := by show _ = _; rw [fp_meet hyes]; rfl
      obtain ⟨Z, hZ⟩ : ∃ Z : Int, ((bagN S &&& bagN L : Nat) : Int) = Z := ⟨_, rfl⟩
      have hZ0 : Z ≠ 0 := by omega
      have hZb : (Z == 0) = false := by simp [hZ0]
      have hZc : (Z != 0) = true := by simp [hZ0]
      rw [hZ] at hand
      clear C1 hS hn hm hl hlen hz b0 b1 hyes hZ
      go_enter Try.func75, Try.ntmps75
      go_wp2_with fail
      go_quiet (exact Cq.out _)
      go_wp2_with fail
      go_ret
      exact ⟨by rw [← Hy.out]; rfl, nq, rfl⟩
  · have hdec : ((n : Int) == k) = false := by simp [hlen]
    have hdec2 : ((n : Int) != k) = true := by simp [hlen]
    have Hy : Hid (Value.bool true = Value.bool (!fp L k S)) := by show _ = _; rw [fp_len (by rw [hn]; exact hlen)]; rfl
    clear C1 hS hn hm hl hlen b0 b1 hand
    go_enter Try.func75, Try.ntmps75
    go_wp2_with fail
    go_quiet (exact Cq.out _)
    go_wp2_with fail
    go_ret
    exact ⟨by rw [← Hy.out]; rfl, nq, rfl⟩
set_option maxHeartbeats 400000 in
theorem folClo2_any (F : Fld) (L : List Int) (A : Option Addr) (c : Nat) (B : Option Addr) (d : Nat) (p q : Nat) (w : World) (hf : FldAt w (.agg #[.slice A F.op.length c, .slice B F.di.length d]) F) (x0 : w.cell? ⟨p, 0, none⟩ = some (.slice A F.op.length c)) (x1 : w.cell? ⟨p, 1, none⟩ = some (.slice B F.di.length d))
    (A0 : Option Addr) (n0 c0 : Nat) (y0 : w.cell? ⟨q, 0, none⟩ = some (.slice A0 n0 c0)) (hL : IntsAt w A0 L) (hn0 : L.length = n0) (hg : goodF F = true) (hl : setB F L = true) (hne : L ≠ [])
    (Av : Option Addr) (S : List Int) (n cv : Nat) (hS : IntsAt w Av S) (hn : S.length = n) (hs : setB F S = true) (hse : S ≠ []) :
    Calls Try.prog 76 #[.slice Av n cv, .pointer (some ⟨p, 0, none⟩), .pointer (some ⟨q, 0, none⟩)] w fun e w' => e = .returned (.int .i64 (negT F L S)) ∧ Kp w w' := by
  have CC := Lib.hid (takes_any _ F A0 L n0 c0 Av S n cv w hf hL hn0 hS hn hg hl hne hs)
  have hd7 := (goodF_iff.1 hg).2.2.1
  have htl := takenTo_len F L S F.di.length
  have Hd : Hid (negT F L S = -((takenTo F L S F.di.length).length : Int)) := negT_not hse
  generalize takenTo F L S F.di.length = T at *
  clear hf hL hS hn0 hn hg hl hne hs hse
  go_enter Try.func76, Try.ntmps76
  go_wp2_with fail
  with_reducible refine Calls.mono CC.out ?_
  rintro e w1 ⟨v, rfl, hov, hk1⟩
  clear CC
  obtain ⟨At, ct, rfl⟩ := hov.shape
  clear hov
  have hT : (T.length : Int) ≤ 7 := by omega
  go_wp2_with fail
  go_ret
  exact ⟨ret_int (by rw [Hd.out] <;> first | omega | (rw [IntWalk.i64_in _ (by omega)] <;> omega)), hk1⟩
set_option maxRecDepth 100000 in
set_option maxHeartbeats 1000000 in
theorem follower_any (f : Value) (F : Fld) (A0 : Option Addr) (L : List Int) (n0 c0 : Nat) (k : Int) (w : World) (hf : FldAt w f F) (hL : IntsAt w A0 L) (hn0 : L.length = n0) (hg : goodF F = true) (hl : setB F L = true) (hne : L ≠ []) (hk1 : 1 ≤ k) (hk2 : k ≤ (F.op.length : Int) - (L.length : Int)) :
    Calls Try.prog 41 #[f, .slice A0 n0 c0, .int .i64 k] w fun e w' => ∃ u, e = .returned u ∧ RowP w' (some w.heap.size) u (folF F L k) ∧ Kp w w' := by
  obtain ⟨A, c, B, d, rfl, hA, hB⟩ := hf
  have hk0 : Kp w (((w.alloc (.cells #[.slice A F.op.length c, .slice B F.di.length d] 29)).alloc (.cells #[.slice A0 n0 c0] 22)).alloc (.cells #[.int .i64 k] 3)) := (((Kp.refl w).alloc _).alloc _).alloc _
  obtain ⟨d0, d1⟩ := box2 w (.slice A F.op.length c) (.slice B F.di.length d) 29
  have hFA := FldAt.kp (show FldAt w (.agg #[.slice A F.op.length c, .slice B F.di.length d]) F from ⟨A, c, B, d, rfl, hA, hB⟩) hk0
  have d2 : ((w.alloc (.cells #[.slice A F.op.length c, .slice B F.di.length d] 29)).alloc (.cells #[.slice A0 n0 c0] 22)).cell? ⟨w.heap.size + 1, 0, none⟩ = some (.slice A0 n0 c0) := by
    rw [World.cell?_alloc_at _ _ _ _ (by simp)]; rfl
  replace d0 := (((Kp.refl _).alloc (.cells #[.slice A0 n0 c0] 22)).alloc (.cells #[.int .i64 k] 3)).get d0
  replace d1 := (((Kp.refl _).alloc (.cells #[.slice A0 n0 c0] 22)).alloc (.cells #[.int .i64 k] 3)).get d1
  replace d2 := ((Kp.refl _).alloc (.cells #[.int .i64 k] 3)).get d2
  have d3 : (((w.alloc (.cells #[.slice A F.op.length c, .slice B F.di.length d] 29)).alloc (.cells #[.slice A0 n0 c0] 22)).alloc (.cells #[.int .i64 k] 3)).cell? ⟨w.heap.size + 1 + 1, 0, none⟩ = some (.int .i64 k) := by
    rw [World.cell?_alloc_at _ _ _ _ (by simp)]; rfl
  have hLA := hL.kp hk0
  have Hn0 := Lib.hid hn0; have HG := Lib.hid hg; have HL := Lib.hid hl; have HE := Lib.hid hne
  have Hk1 := Lib.hid hk1; have Hk2 := Lib.hid hk2
  have hg7 := (goodF_iff.1 hg).1.2
  have HM : Hid (∀ x ∈ L, 0 ≤ x ∧ x < 7) := by show ∀ x ∈ L, _; exact fun x hx => by have := set_mem hl x hx; omega
  have hsz : Hid ((((w.alloc (.cells #[.slice A F.op.length c, .slice B F.di.length d] 29)).alloc (.cells #[.slice A0 n0 c0] 22)).alloc (.cells #[.int .i64 k] 3)).heap.size = w.heap.size + 1 + 1 + 1) := by show _ = _; simp
  clear hA hB hL hn0 hg hl hne hk1 hk2
  go_enter Try.func41, Try.ntmps41
  go_wp2_with fail
  generalize ((w.alloc (.cells #[.slice A F.op.length c, .slice B F.di.length d] 29)).alloc (.cells #[.slice A0 n0 c0] 22)).alloc (.cells #[.int .i64 k] 3) = wb at *
  have CC := Lib.hid (bagOf_any A0 L n0 c0 wb hLA Hn0.out (fun x hx => by have := HM.out x hx; omega))
  with_reducible refine Calls.mono CC.out ?_
  rintro e w1 ⟨rfl, hw⟩
  obtain rfl := hw
  clear CC
  have hkx := (Kp.refl wb).alloc (.cells #[.int .u64 (bagN L)] 79)
  have f0 := hkx.get d0; have f1 := hkx.get d1; have f2 := hkx.get d2; have f3 := hkx.get d3
  have f4 : (wb.alloc (.cells #[.int .u64 (bagN L)] 79)).cell? ⟨wb.heap.size, 0, none⟩ = some (.int .u64 (bagN L)) := by
    rw [World.cell?_alloc_at _ _ _ _ rfl]; rfl
  go_wp2_with fail
  have hky := hk0.trans hkx
  have hFB := hFA.kp hkx
  have hLB := hLA.kp hkx
  rw [hsz.out] at f4
  have hsz2 : Hid ((wb.alloc (.cells #[.int .u64 (bagN L)] 79)).heap.size = w.heap.size + 1 + 1 + 1 + 1) := by show _ = _; rw [World.size_alloc, hsz.out]
  rw [hsz.out]
  clear d0 d1 d2 d3 hk0 hkx hFA hLA
  generalize wb.alloc (.cells #[.int .u64 (bagN L)] 79) = wc at *
  have CC := Lib.hid (sets_any F.op.length wc hg7)
  with_reducible refine Calls.mono CC.out ?_
  rintro e w1 ⟨v, rfl, hvn, hgo, hk1⟩
  clear CC
  have e0 := hk1.get f0; have e1 := hk1.get f1; have e2 := hk1.get f2; have e3 := hk1.get f3; have e4 := hk1.get f4
  have hgl := hgo.lt
  have hap : ∀ i, i < wc.heap.size → ¬ v.ownBlock = some i := fun i hi e => by have := (hgl i e).1; omega
  have hsl : (setsL F.op.length).length ≤ 127 := by rw [setsL_len]; have h128 : 2 ^ F.op.length ≤ 2 ^ 7 := Nat.pow_le_pow_right (by omega) hg7; omega
  have hfp := fol_pos (n := F.op.length) (L := L) (k := k) Hk1.out Hk2.out
  have hne0 : setsL F.op.length ≠ [] := fun e => by rw [e] at hfp; simp at hfp
  have hsz3 := hsz2.out
  have CD := Lib.hid (del_any hgo hvn hne0 (by omega) 75 #[.pointer (some ⟨w.heap.size + 1 + 1, 0, none⟩), .pointer (some ⟨w.heap.size + 1 + 1 + 1, 0, none⟩)] (fun S => !fp L k S) (fun S => ∀ x ∈ S, 0 ≤ x ∧ x < 7)
    (callFunc_of Try.func75 (by kernel_rfl) (by kernel_rfl)) (fun S hS x hx => by have h3 : setB F S = true := (mem_setsL.1 hS).2; have := set_mem h3 x hx; omega) (fun x hx => by cases hx)
    (fun W Av S n cv hT hq hi hn => folClo1_any L k _ _ W (cell_turn e3 hT (hap _ (by show w.heap.size + 1 + 1 < _; omega))) (cell_turn e4 hT (hap _ (by show w.heap.size + 1 + 1 + 1 < _; omega))) Av S n cv hi hn hq HM.out))
  simp only [Bool.not_not] at CD
  clear hne0 hgo
  go_wp2_with fail
  with_reducible refine Calls.mono CD.out ?_
  rintro e w2 ⟨ad, cc, rfl, hrows, hT⟩
  clear CD
  have hk2 : Kp wc w2 := hk1.turn hT (fun i hi => (hgl i hi).1)
  have g0 := hk2.get f0; have g1 := hk2.get f1; have g2 := hk2.get f2
  have hFC := hFB.kp hk2
  have hLC := hLB.kp hk2
  have CL := Lib.hid (least_any 76 #[] #[.pointer (some ⟨w.heap.size, 0, none⟩), .pointer (some ⟨w.heap.size + 1, 0, none⟩)] (negT F L) (fun S => S ≠ [] ∧ setB F S = true) _ (some ad) _ _ cc w2 hrows rfl hfp
    ⟨callFunc_of Try.func76 (by kernel_rfl) (by kernel_rfl), fun S Av cv w' hk hq hi _ => folClo2_any F L A c B d _ _ w' (hFC.kp hk) (hk.get g0) (hk.get g1) A0 n0 c0 (hk.get g2) (hLC.kp hk) Hn0.out HG.out HL.out HE.out Av S S.length cv hi rfl hq.2 hq.1⟩
    (fun S hS => mem_setsL.1 (List.mem_filter.1 hS).1))
  clear hrows hvn hap hgl hfp e0 e1 e2 e3 e4 f0 f1 f2 f3 f4
  go_wp2_with fail
  with_reducible refine Calls.mono CL.out ?_
  rintro e w3 ⟨u, rfl, hu, hk3⟩
  clear CL
  go_wp2_with fail
  go_ret
  exact ⟨u, rfl, hu.mono (hky.le), hky.trans (hk2.trans hk3)⟩
end Go.Proofs.Ytcekddpllpbkmaa

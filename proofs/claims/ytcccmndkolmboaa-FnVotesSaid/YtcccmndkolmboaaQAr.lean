/- FnVotes: the program's field of a tree. No condition. -/
import Derived.Test.YtcccmndkolmboaaQAq
import Derived.Test.YtcccmndkolmboaaQAb
import Derived.StillTailTactics
namespace Go.Proofs.Ytcccmndkolmboaa
open Go.RowKit Go.Sort

theorem lenP_of {ls : List Int} (h : allB ls 0 99 = true) : LenP ls := fun i => by
  by_cases hi : i < ls.length
  · have := allB_iff.1 h ls[i] (List.getElem_mem hi)
    have e : ls.getD i 0 = ls[i] := by simp [List.getD, hi]
    rw [e]; exact this
  · have e : ls.getD i 0 = 0 := by simp [List.getD, List.getElem?_eq_none (by omega : ls.length ≤ i)]
    rw [e]; omega
theorem lenOf_bd {ls : List Int} (hL : LenP ls) : ∀ x, 0 ≤ lenOf ls x ∧ lenOf ls x ≤ 99 := hL
theorem treeT_bd {ps ls : List Int} (hT : TreeP ps) (hL : LenP ls) {i a : Nat} (hi : i < ps.length) (ha : a < ps.length) : 0 ≤ treeT ps ls i a ∧ treeT ps ls i a ≤ 1500 := by
  have h1 := tD_bd (parOf_lt hT) (lenOf_bd hL) _ i a (Nat.le_refl _)
  have := hT.1
  unfold treeT
  omega
/-- One step towards the other node. -/
theorem tx_gt {ps ls : List Int} (hT : TreeP ps) (hL : LenP ls) {x y : Nat} {s D : Int} (hx : x < ps.length) (hxl : x < ls.length) (h : y < x) (hs : 0 ≤ s) (hD : D ≤ 1500) (e : s + tD (parOf ps) (lenOf ls) x y = D) :
    ps[x] = ((parOf ps x : Nat) : Int) ∧ parOf ps x < x ∧ 0 ≤ s + ls[x] ∧ s + ls[x] ≤ 1500 ∧ (s + ls[x]) + tD (parOf ps) (lenOf ls) (parOf ps x) y = D := by
  have h1 := parOf_lt hT x (by omega)
  have h2 := hT.2 x (by omega) hx
  have e1 : ps.getD x 0 = ps[x] := by simp [List.getD, hx]
  have e2 : ls.getD x 0 = ls[x] := by simp [List.getD, hxl]
  have h3 := hL x
  have h4 := tD_bd (parOf_lt hT) (lenOf_bd hL) _ (parOf ps x) y (Nat.le_refl _)
  rw [tD_gt (parOf_lt hT) h] at e
  have e3 : lenOf ls x = ls[x] := e2
  rw [e3] at e
  rw [e2] at h3
  rw [e1] at h2
  refine ⟨?_, h1, by omega, by omega, by omega⟩
  unfold parOf
  rw [e1]; omega
theorem tx_lt {ps ls : List Int} (hT : TreeP ps) (hL : LenP ls) {x y : Nat} {s D : Int} (hy : y < ps.length) (hyl : y < ls.length) (h : x < y) (hs : 0 ≤ s) (hD : D ≤ 1500) (e : s + tD (parOf ps) (lenOf ls) x y = D) :
    ps[y] = ((parOf ps y : Nat) : Int) ∧ parOf ps y < y ∧ 0 ≤ s + ls[y] ∧ s + ls[y] ≤ 1500 ∧ (s + ls[y]) + tD (parOf ps) (lenOf ls) x (parOf ps y) = D := by
  have hc : ∀ a b, tD (parOf ps) (lenOf ls) a b = tD (parOf ps) (lenOf ls) b a := fun a b => tD_comm (parOf_lt hT) _ a b (Nat.le_refl _)
  rw [hc] at e ⊢
  exact tx_gt hT hL hy hyl h hs hD e
theorem tx_eq {ps ls : List Int} {x : Nat} {s D : Int} (e : s + tD (parOf ps) (lenOf ls) x x = D) : s = D := by
  rw [tD_self] at e; omega
section
variable {w0 wr wr' : World} {rb bf n J : Nat} {ov dv : Value} {B Cp : Nat → Nat} {f : Nat → Nat → Int}
theorem TS.under (h : TS w0 wr rb bf ov dv n J B Cp f) : (∀ g, ov.ownBlock = some g → g < wr.heap.size) ∧ (∀ g, dv.ownBlock = some g → g < wr.heap.size) ∧ (∀ j, j < J → B j < wr.heap.size) ∧ bf < wr.heap.size :=
  ⟨fun g hg => (h.op.lt g hg).2, fun g hg => (h.di.vlt g hg).2, fun _ hj => (h.di.lt hj).2, h.size⟩
/-- Something far from it has turned. -/
theorem TS.far {S : Nat → Prop} {N : Nat} {w2 : World} (h : TS w0 wr rb bf ov dv n J B Cp f) (hu : (∀ g, ov.ownBlock = some g → g < N) ∧ (∀ g, dv.ownBlock = some g → g < N) ∧ (∀ j, j < J → B j < N) ∧ bf < N) (ht : Turn S wr w2) (hS : ∀ i, S i → N ≤ i) : TS w0 w2 rb bf ov dv n J B Cp f := by
  have hl := h.lo
  have hlow : ∀ i, i < N → ¬ S i := fun i hi hs => by have := hS i hs; omega
  have hz : w0.heap.size ≤ N := by have := hu.2.2.2; omega
  exact ⟨turn_cellD ht h.c0 (hlow _ hu.2.2.2), turn_cellD ht h.c1 (hlow _ hu.2.2.2), turn_thereD ht h.th (hlow _ hu.2.2.2), turn_thereD ht h.rt (hlow _ (by have := hu.2.2.2; omega)),
    h.op.turn ht (fun g hg => hlow g (hu.1 g hg)), h.di.turn ht (fun g hg => hlow g (hu.2.1 g hg)) (fun j hj => hlow _ (hu.2.2.1 j hj)), h.nb, h.kp.turn ht (fun i hi => by have := hS i hi; omega), h.lo⟩
end
theorem ts_new {w0 W : World} {rb n : Nat} {t : TypeId} (hk : Kp w0 W) (hr : W.there rb 0 2) (h1 : w0.heap.size ≤ rb) (h2 : rb < W.heap.size) (hn : n ≤ 1048576) :
    TS w0 ((W.alloc (.cells (madeCells #[.int .i64 0] n) 3)).alloc (.cells #[.slice (some ⟨W.heap.size, 0, none⟩) n n, .slice none 0 0] t)) rb (W.heap.size + 1) (.slice (some ⟨W.heap.size, 0, none⟩) n n) (.slice none 0 0) n 0 (fun _ => 0) (fun _ => 0) (fun _ _ => 0) := by
  have ho := own_made W (rb + 1) n (by omega) hn
  have ka : Kp W (W.alloc (.cells (madeCells #[.int .i64 0] n) 3)) := (Kp.refl W).alloc _
  have hz : (W.alloc (.cells (madeCells #[.int .i64 0] n) 3)).heap.size = W.heap.size + 1 := by simp
  generalize W.alloc (.cells (madeCells #[.int .i64 0] n) 3) = W1 at *
  have kb : Kp W1 (W1.alloc (.cells #[.slice (some ⟨W.heap.size, 0, none⟩) n n, .slice none 0 0] t)) := (Kp.refl W1).alloc _
  obtain ⟨d0, d1⟩ := box2 W1 (.slice (some ⟨W.heap.size, 0, none⟩) n n) (.slice none 0 0) t
  have th := there_newD W1 [.slice (some ⟨W.heap.size, 0, none⟩) n n, .slice none 0 0] t
  rw [hz] at d0 d1 th
  refine ⟨d0, d1, th, turn_thereD (Turn.of_kp (S := fun _ => False) (ka.trans kb)) hr (fun h => h), ho.kp kb, DMat.nil _ _ _ _ _ _, ⟨fun h => ?_, fun h => by simp [Value.ownBlock] at h, fun j hj => by omega⟩, hk.trans (ka.trans kb), ⟨h1, by omega⟩⟩
  have : W.heap.size = W.heap.size + 1 := Option.some.inj h
  omega
/-- What has been handed out is the tree's field. -/
theorem ts_tree {ps ls : List Int} {n : Nat} {f : Nat → Nat → Int} (hn : ps.length = n) (hf : ∀ j, j < n → f j = treeT ps ls j) : (⟨List.replicate n 0, matL n n f⟩ : Fld) = treeF ps ls := by
  unfold treeF matL
  rw [hn]
  congr 1
  exact List.map_congr_left fun j hj => by rw [hf j (List.mem_range.1 hj)]
def TfPost (ps ls : List Int) (w : World) (e : Ending) (w' : World) : Prop :=
  ∃ A n c B k d b, e = .returned (.tuple #[.agg #[.slice A n c, .slice B k d], .bool b]) ∧ (b = true → TreeP ps ∧ LenP ls ∧ goodF (treeF ps ls) = true ∧ FldAt w' (.agg #[.slice A n c, .slice B k d]) (treeF ps ls)) ∧ Kp w w'
set_option maxRecDepth 100000 in
set_option maxHeartbeats 2000000 in
theorem treeField_any (A1 : Option Addr) (ps : List Int) (n1 c1 : Nat) (A2 : Option Addr) (ls : List Int) (n2 c2 : Nat) (w : World) (h1 : IntsAt w A1 ps) (hn1 : ps.length = n1) (hc1 : n1 ≤ c1) (h2 : IntsAt w A2 ls) (hn2 : ls.length = n2) :
    Calls Try.prog 15 #[.slice A1 n1 c1, .slice A2 n2 c2] w (TfPost ps ls w) := by
  have t0 := there_newD w [.slice none 0 0, .slice none 0 0] 27
  simp only [List.length_cons, List.length_nil, Nat.zero_add, Nat.reduceAdd] at t0
  have k0 : Kp w (w.alloc (.cells #[.slice none 0 0, .slice none 0 0] 27)) := (Kp.refl w).alloc _
  have hsz : Hid ((w.alloc (.cells #[.slice none 0 0, .slice none 0 0] 27)).heap.size = w.heap.size + 1) := by show _ = _; simp
  have Hn1 := Lib.hid hn1
  have Hn2 := Lib.hid hn2
  have CC := Lib.hid (areParents_any A1 ps n1 c1 _ (h1.kp k0) hn1 hc1)
  clear hn1 hn2
  go_enter Try.func15, Try.ntmps15
  go_wp2_with fail
  generalize w.alloc (.cells #[.slice none 0 0, .slice none 0 0] 27) = wa at *
  with_reducible refine Calls.mono CC.out ?_
  rintro e w1 ⟨b, rfl, hb, hk1⟩
  clear CC
  have k1 := k0.trans hk1
  have t1 := turn_thereD (Turn.of_kp (S := fun _ => False) hk1) t0 (fun h => h)
  clear t0 k0
  cases b
  · clear hb
    go_wp2_with (first | (refine wpList_store_mid rfl 27 (.tmp 4) (.tmp 35) rfl w.heap.size 0 #[.slice none 0 0, .slice none 0 0] rfl rfl t1 (by kernel_rfl) (by simp [Value.oneCell']) ?_) | fail)
    have ts := turn_setCellsD w.heap.size [.slice none 0 0, .slice none 0 0] 0 w1
    have hg := World.rangeAt_setCells_same w1 w.heap.size 0 [.slice none 0 0, .slice none 0 0] t1
    have z0 := hg 0 _ rfl
    have z1 := hg 1 _ rfl
    exact bodyPost_ret (v := .tuple #[.agg #[.slice none 0 0, .slice none 0 0], .bool false]) (by simp [results, Try.results15, go_sem, z0, z1]) rfl ⟨_, _, _, _, _, _, _, rfl, (fun h => by cases h), (k1).turn ts (fun i hi => by omega)⟩
  have HT := Lib.hid (hb rfl)
  clear hb
  have hT1 := HT.out.1
  rw [Hn1.out] at hT1
  by_cases hne : n2 = n1
  rotate_left
  · have hnI : ((n2 : Int) != (n1 : Int)) = true := by simp; omega
    go_wp2_with (first | (refine wpList_store_mid rfl 27 (.tmp 4) (.tmp 35) rfl w.heap.size 0 #[.slice none 0 0, .slice none 0 0] rfl rfl t1 (by kernel_rfl) (by simp [Value.oneCell']) ?_) | fail)
    have ts := turn_setCellsD w.heap.size [.slice none 0 0, .slice none 0 0] 0 w1
    have hg := World.rangeAt_setCells_same w1 w.heap.size 0 [.slice none 0 0, .slice none 0 0] t1
    have z0 := hg 0 _ rfl
    have z1 := hg 1 _ rfl
    exact bodyPost_ret (v := .tuple #[.agg #[.slice none 0 0, .slice none 0 0], .bool false]) (by simp [results, Try.results15, go_sem, z0, z1]) rfl ⟨_, _, _, _, _, _, _, rfl, (fun h => by cases h), (k1).turn ts (fun i hi => by omega)⟩
  subst hne
  have hnI : ((n2 : Int) != (n2 : Int)) = false := by simp
  have CC := Lib.hid (areBetween_any A2 ls n2 c2 0 99 w1 (h2.kp k1) Hn2.out)
  go_wp2_with fail
  with_reducible refine Calls.mono CC.out ?_
  rintro e w2 ⟨rfl, hk2⟩
  clear CC hnI
  have k2 := k1.trans hk2
  have t2 := turn_thereD (Turn.of_kp (S := fun _ => False) hk2) t1 (fun h => h)
  have hs2 : w.heap.size < w2.heap.size := by have h3 := hk1.le; have h4 := hk2.le; have h5 := hsz.out; omega
  clear t1 k1 hk1 hk2 hsz
  cases hlb : allB ls 0 99
  · clear hlb
    go_wp2_with (first | (refine wpList_store_mid rfl 27 (.tmp 4) (.tmp 35) rfl w.heap.size 0 #[.slice none 0 0, .slice none 0 0] rfl rfl t2 (by kernel_rfl) (by simp [Value.oneCell']) ?_) | fail)
    have ts := turn_setCellsD w.heap.size [.slice none 0 0, .slice none 0 0] 0 w2
    have hg := World.rangeAt_setCells_same w2 w.heap.size 0 [.slice none 0 0, .slice none 0 0] t2
    have z0 := hg 0 _ rfl
    have z1 := hg 1 _ rfl
    exact bodyPost_ret (v := .tuple #[.agg #[.slice none 0 0, .slice none 0 0], .bool false]) (by simp [results, Try.results15, go_sem, z0, z1]) rfl ⟨_, _, _, _, _, _, _, rfl, (fun h => by cases h), (k2).turn ts (fun i hi => by omega)⟩
  have HL := Lib.hid (lenP_of hlb)
  clear hlb
  have l0 : 0 < ls.length := by rw [Hn2.out]; omega
  obtain ⟨ad, rfl, y0⟩ := (h2.kp k2).at_ l0
  rw [show ad.add 0 = ad from by unfold Addr.add; simp] at y0
  obtain ⟨z0, hz0⟩ : ∃ z, ls[0] = z := ⟨_, rfl⟩
  rw [hz0] at y0
  clear hz0
  have hn0I : (0 : Int) < (n2 : Int) := by omega
  by_cases hz : z0 = 0
  rotate_left
  · have hzI : (z0 != 0) = true := by simpa using hz
    go_wp2_with (first | (refine wpList_store_mid rfl 27 (.tmp 4) (.tmp 35) rfl w.heap.size 0 #[.slice none 0 0, .slice none 0 0] rfl rfl t2 (by kernel_rfl) (by simp [Value.oneCell']) ?_) | fail)
    have ts := turn_setCellsD w.heap.size [.slice none 0 0, .slice none 0 0] 0 w2
    have hg := World.rangeAt_setCells_same w2 w.heap.size 0 [.slice none 0 0, .slice none 0 0] t2
    have z0 := hg 0 _ rfl
    have z1 := hg 1 _ rfl
    exact bodyPost_ret (v := .tuple #[.agg #[.slice none 0 0, .slice none 0 0], .bool false]) (by simp [results, Try.results15, go_sem, z0, z1]) rfl ⟨_, _, _, _, _, _, _, rfl, (fun h => by cases h), (k2).turn ts (fun i hi => by omega)⟩
  subst hz
  have hmk := run_make_row' (P := Try.prog) 24 3 (.int .i64 0) 8 Try.underlying24 infoInt rfl .i64 .i64 n2 (by omega) (by omega)
  have hst := ts_new (t := 27) (n := n2) k2 t2 (Nat.le_refl _) hs2 (by omega)
  go_wp2_with fail
  clear t2 y0
  generalize (w2.alloc (.cells (madeCells #[.int .i64 0] n2) 3)).alloc (.cells #[.slice (some ⟨w2.heap.size, 0, none⟩) n2 n2, .slice none 0 0] 27) = wb at *
  generalize hbe : w2.heap.size = bo at *
  clear k2
  go_loopw [40] (fun iv wr => ∃ (i : Nat) (dv : Value) (B Cp : Nat → Nat) (f : Nat → Nat → Int), iv = .int .i64 i ∧ i ≤ n2 ∧ Hid (∀ j, j < i → f j = treeT ps ls j) ∧ TS w wr w.heap.size (bo + 1) (.slice (some ⟨bo, 0, none⟩) n2 n2) dv n2 i B Cp f) (fun iv _ => n2 - (intOf iv).toNat)
  case atStart => exact ⟨0, _, _, _, _, rfl, by omega, Lib.hid (fun j hj => by omega), hst⟩
  case round =>
    clear hst
    obtain ⟨i, dv, B, Cp, f, rfl, hi, Hf, hts⟩ := hrel
    obtain ⟨wo, rfl⟩ : ∃ wo : World, wo = wr := ⟨_, rfl⟩
    by_cases hlt : i < n2
    · have hun := hts.under
      have hro := own_made wo wo.heap.size n2 (Nat.le_refl _) (by omega)
      have hka : Kp wo (wo.alloc (.cells (madeCells #[.int .i64 0] n2) 3)) := (Kp.refl wo).alloc _
      have hra := hts.go hka
      rw [← rowT_zero (treeT ps ls i)] at hro
      go_wp2_with fail
      clear hts hka
      generalize hNe : wo.heap.size = N at *
      generalize wo.alloc (.cells (madeCells #[.int .i64 0] n2) 3) = wi at *
      go_loopw [46] (fun av wr => ∃ a : Nat, av = .int .i64 a ∧ a ≤ n2 ∧ Own wr N (.slice (some ⟨N, 0, none⟩) n2 n2) (rowT (treeT ps ls i) n2 a) ∧ TS w wr w.heap.size (bo + 1) (.slice (some ⟨bo, 0, none⟩) n2 n2) dv n2 i B Cp f) (fun av _ => n2 - (intOf av).toNat)
      case atStart => exact ⟨0, rfl, by omega, hro, hra⟩
      case round =>
        clear hro hra
        obtain ⟨a, rfl, ha, hrow, hts⟩ := hrel
        by_cases hla : a < n2
        · have hD := treeT_bd HT.out HL.out (i := i) (a := a) (by rw [Hn1.out]; exact hlt) (by rw [Hn1.out]; exact hla)
          obtain ⟨D, HD⟩ : ∃ D, Hid (treeT ps ls i a = D) := ⟨_, Lib.hid rfl⟩
          rw [HD.out] at hD
          have hr0 : Own wr N (.slice (some ⟨N, 0, none⟩) n2 n2) ((rowT (treeT ps ls i) n2 a).set a 0) := by
            have e : (rowT (treeT ps ls i) n2 a).set a 0 = rowT (treeT ps ls i) n2 a := by
              have := rowT_get (g := treeT ps ls i) hla
              apply List.ext_getElem
              · simp
              · intro q h3 h4
                rw [List.getElem_set]
                by_cases e : a = q
                · subst e; rw [if_pos rfl]
                  rw [lget_at h4] at this
                  exact this.symm
                · rw [if_neg e]
            rw [e]; exact hrow
          obtain ⟨xs, Hxs⟩ : ∃ xs, Hid (rowT (treeT ps ls i) n2 a = xs) := ⟨_, Lib.hid rfl⟩
          have hxl : xs.length = n2 := by rw [← Hxs.out]; exact rowT_len _ _ _
          rw [Hxs.out] at hr0
          clear hrow
          go_wp2_with fail
          go_loopw [11, 12] (fun xv yv wr => ∃ (x y : Nat) (s : Int), xv = .int .i64 x ∧ yv = .int .i64 y ∧ x < n2 ∧ y < n2 ∧ 0 ≤ s ∧ Hid (s + tD (parOf ps) (lenOf ls) x y = D) ∧ Own wr N (.slice (some ⟨N, 0, none⟩) n2 n2) (xs.set a s) ∧ TS w wr w.heap.size (bo + 1) (.slice (some ⟨bo, 0, none⟩) n2 n2) dv n2 i B Cp f) (fun xv yv _ => (intOf xv).toNat + (intOf yv).toNat)
          case atStart => exact ⟨i, a, 0, rfl, rfl, hlt, hla, Int.le_refl _, (by show _ = _; rw [Int.zero_add]; exact HD.out), hr0, hts⟩
          case round =>
            clear hr0 hts
            obtain ⟨x, y, s, rfl, rfl, hx, hy, hs0, HS, hrow, hts⟩ := hrel
            obtain ⟨q0, q1, q2⟩ := hrow.slotL (by rw [List.length_set]; exact hxl) hla
            have e0 : lget (xs.set a s) a = s := by rw [lget_at (by rw [List.length_set, hxl]; exact hla)]; simp
            rw [e0] at q0
            by_cases hxy : x = y
            · subst hxy
              have hsD := tx_eq HS.out
              have hxyI : ((x : Int) != (x : Int)) = false := by simp
              have hr2 : Own wr N (.slice (some ⟨N, 0, none⟩) n2 n2) (rowT (treeT ps ls i) n2 (a + 1)) := by
                rw [← rowT_set hla, Hxs.out, HD.out, ← hsD]; exact hrow
              clear q0 q1 q2 e0
              go_wp2_with fail
              go_roundw
              case rel => exact ⟨a + 1, by go_num, by omega, hr2, hts⟩
              case measure => simp [intOf]; omega
            · have hxyI : ((x : Int) != (y : Int)) = true := by simp; omega
              by_cases hgt : y < x
              · have hgtI : decide ((y : Int) < (x : Int)) = true := decide_eq_true (by omega)
                have hp := tx_gt HT.out HL.out (by rw [Hn1.out]; exact hx) (by rw [Hn2.out]; exact hx) hgt hs0 hD.2 HS.out
                obtain ⟨p1, p2, p3, p4, p5⟩ := hp
                have lp : x < ps.length := by rw [Hn1.out]; omega
                have ll : x < ls.length := by rw [Hn2.out]; omega
                have hls := (h2.kp hts.kp).some_ ll
                obtain ⟨lx, hlx⟩ : ∃ z, ls[x] = z := ⟨_, rfl⟩
                obtain ⟨px, hpx⟩ : ∃ z, parOf ps x = z := ⟨_, rfl⟩
                rw [hlx] at hls p3 p4 p5
                rw [hpx] at p1 p2 p5
                have w1 : IntKind.i64.wrap (s + lx) = s + lx := IntWalk.i64_in _ (by omega)
                have w2 : wrap64 (s + lx) = s + lx := IntWalk.wrap64_in _ (by omega)
                obtain ⟨o3, t3⟩ := q2 (s + lx)
                rw [List.set_set] at o3
                have hts3 := (hts.far hun t3 (fun j hj => by rw [hj]; exact Nat.le_refl _)).go (Kp.refl _).drew
                have hrow3 := o3.kp (Kp.refl _).drew
                obtain ⟨ap, rfl, hps⟩ := (h1.kp hts3.kp).at_ lp
                rw [p1] at hps
                have HS3 := Lib.hid p5
                have HTS := Lib.hid hts3
                have HRW := Lib.hid hrow3
                have hxI : (x : Int) < (n2 : Int) := by omega
                have haI : (a : Int) < (n2 : Int) := by omega
                have a1 : (⟨N, 0, none⟩ : Addr).add a = ⟨N, a, none⟩ := add0 _ _
                have e8 : ((x : Int)).toNat = x := Int.toNat_natCast x
                have e9 : ((a : Int)).toNat = a := Int.toNat_natCast a
                clear hts3 hrow3 o3 t3 q2 p5 hts hrow
                go_wp2_with fail
                go_still_tail 10, (by kernel_rfl)
                change wpList _ _ _ _ _ _
                go_wp2_with fail
                go_roundw
                case rel => exact ⟨px, y, s + lx, by go_num, by go_num, by omega, by omega, p3, HS3, HRW.out, HTS.out⟩
                case measure => simp [intOf]; omega
              · have hgtI : decide ((y : Int) < (x : Int)) = false := decide_eq_false (by omega)
                have hp := tx_lt HT.out HL.out (by rw [Hn1.out]; exact hy) (by rw [Hn2.out]; exact hy) (by omega) hs0 hD.2 HS.out
                obtain ⟨p1, p2, p3, p4, p5⟩ := hp
                have lp : y < ps.length := by rw [Hn1.out]; omega
                have ll : y < ls.length := by rw [Hn2.out]; omega
                have hls := (h2.kp hts.kp).some_ ll
                obtain ⟨lx, hlx⟩ : ∃ z, ls[y] = z := ⟨_, rfl⟩
                obtain ⟨px, hpx⟩ : ∃ z, parOf ps y = z := ⟨_, rfl⟩
                rw [hlx] at hls p3 p4 p5
                rw [hpx] at p1 p2 p5
                have w1 : IntKind.i64.wrap (s + lx) = s + lx := IntWalk.i64_in _ (by omega)
                have w2 : wrap64 (s + lx) = s + lx := IntWalk.wrap64_in _ (by omega)
                obtain ⟨o3, t3⟩ := q2 (s + lx)
                rw [List.set_set] at o3
                have hts3 := (hts.far hun t3 (fun j hj => by rw [hj]; exact Nat.le_refl _)).go (Kp.refl _).drew
                have hrow3 := o3.kp (Kp.refl _).drew
                obtain ⟨ap, rfl, hps⟩ := (h1.kp hts3.kp).at_ lp
                rw [p1] at hps
                have HS3 := Lib.hid p5
                have HTS := Lib.hid hts3
                have HRW := Lib.hid hrow3
                have hxI : (y : Int) < (n2 : Int) := by omega
                have haI : (a : Int) < (n2 : Int) := by omega
                have a1 : (⟨N, 0, none⟩ : Addr).add a = ⟨N, a, none⟩ := add0 _ _
                have e8 : ((y : Int)).toNat = y := Int.toNat_natCast y
                have e9 : ((a : Int)).toNat = a := Int.toNat_natCast a
                clear hts3 hrow3 o3 t3 q2 p5 hts hrow
                go_wp2_with fail
                go_still_tail 10, (by kernel_rfl)
                change wpList _ _ _ _ _ _
                go_wp2_with fail
                go_roundw
                case rel => exact ⟨x, px, s + lx, by go_num, by go_num, by omega, by omega, p3, HS3, HRW.out, HTS.out⟩
                case measure => simp [intOf]; omega
        · obtain rfl : a = n2 := by omega
          rw [rowT_all] at hrow
          have q0 := hts.c0
          have q1 := hts.c1
          have hbs : w.heap.size + 1 ≤ wr.heap.size := by have h3 := hts.lo; have h4 := hts.size; omega
          have hj2 : i < 1048576 := by omega
          have hrow1 := hrow.mono (base' := w.heap.size + 1) (by have h3 := hts.lo; have := hun.2.2.2; omega)
          go_wp2_with (at_builtin; go_loud (refine wpl_apph rfl (.tmp 87) (.tmp 89) rfl (w.heap.size + 1) dv i _ (.slice (some ⟨N, 0, none⟩) a a) rfl rfl rfl hts.di.hd hbs hj2 ?_); intro v2 w2 ho2 ht2 h42; obtain ⟨g0, g1⟩ := hts.stay1 ht2; obtain ⟨A2, c2, hv2⟩ := ownh_shape ho2; subst hv2)
          have hst2 := hts.push ht2 ho2 hrow1 (fun j hj => by have := hun.2.2.1 j hj; omega) (by have := hun.2.2.2; omega) h42
          go_roundw
          case rel => exact ⟨i + 1, _, _, _, _, by go_num, by omega, Lib.hid (fun j hj => by
            by_cases e : j = i
            · subst e; rw [upd_at]
            · rw [upd_ne e]; exact Hf.out j (by omega)), hst2⟩
          case measure => simp [intOf]; omega
    · obtain rfl : i = n2 := by omega
      obtain ⟨Ad, cd, hdv⟩ := hts.di.shape
      subst hdv
      have q0 := hts.c0
      have q1 := hts.c1
      have hfl := ts_fld hts.op hts.di (by omega) (by omega)
      have Hfe := Lib.hid (ts_tree (n := i) Hn1.out Hf.out)
      rw [Hfe.out] at hfl
      have CC := Lib.hid (isField_any _ _ wo hfl)
      clear hfl
      go_wp2_with fail
      with_reducible refine Calls.mono CC.out ?_
      rintro e w3 ⟨rfl, hk3⟩
      clear CC q0 q1
      have ht3 := hts.go hk3
      have HT3 := Lib.hid ht3
      have q0 := ht3.c0
      have q1 := ht3.c1
      clear hts ht3
      cases hgd : goodF (treeF ps ls)
      · clear hgd
        go_wp2_with (first | (refine wpList_store_mid rfl 27 (.tmp 4) (.tmp 96) rfl w.heap.size 0 #[.slice none 0 0, .slice none 0 0] rfl rfl HT3.out.rt (by kernel_rfl) (by simp [Value.oneCell']) ?_) | fail)
        have ts := turn_setCellsD w.heap.size [.slice none 0 0, .slice none 0 0] 0 w3
        have hg := World.rangeAt_setCells_same w3 w.heap.size 0 [.slice none 0 0, .slice none 0 0] HT3.out.rt
        have z0 := hg 0 _ rfl
        have z1 := hg 1 _ rfl
        exact bodyPost_ret (v := .tuple #[.agg #[.slice none 0 0, .slice none 0 0], .bool false]) (by simp [results, Try.results15, go_sem, z0, z1]) rfl ⟨_, _, _, _, _, _, _, rfl, (fun h => by cases h), (HT3.out.kp).turn ts (fun i hi => by omega)⟩
      · have HG := Lib.hid hgd
        clear hgd
        go_wp2_with (first | (refine wpList_store_mid rfl 27 (.tmp 4) (.tmp 97) rfl w.heap.size 0 #[.slice (some ⟨bo, 0, none⟩) i i, .slice Ad i cd] rfl rfl HT3.out.rt (by kernel_rfl) (by simp [Value.oneCell']) ?_) | fail)
        obtain ⟨z0, z1, z2, z3, z4⟩ := HT3.out.ret
        have hfl := ts_fld z2 z3 (by omega) (by omega)
        rw [Hfe.out] at hfl
        exact bodyPost_ret (v := .tuple #[.agg #[.slice (some ⟨bo, 0, none⟩) i i, .slice Ad i cd], .bool true]) (by simp [results, Try.results15, go_sem, z0, z1]) rfl ⟨_, _, _, _, _, _, _, rfl, fun _ => ⟨HT.out, HL.out, HG.out, hfl⟩, z4⟩
end Go.Proofs.Ytcccmndkolmboaa

/- The drawing of arguments: a field whose table is written anew; a field on a line; The drawing of arguments: a copy of a field; whether a field is metric. No condition. -/
import Derived.Test.YtpiijhfjliolfaaGreatQBb
import Derived.StillTailTactics
import Derived.Test.YtpiijhfjliolfaaGreatQAt
namespace Go.Proofs.YtpiijhfjliolfaaGreat
open Go.RowKit Go.Sort

/-- While the table of a field in the variable of block bf is written; the result's block is rb. -/
structure LS (w0 wr : World) (p rb bf base : Nat) (ov dv : Value) (xs : List Int) (J : Nat) (B Cp : Nat → Nat) (f : Nat → Nat → Int) (m : Nat) : Prop where
  c0 : wr.cell? ⟨bf, 0, none⟩ = some ov
  c1 : wr.cell? ⟨bf, 1, none⟩ = some dv
  rt : wr.there rb 0 2
  rf : RF wr base ov dv xs J B Cp f
  nb : ∀ j, j < J → B j ≠ bf
  cu : Cur wr p m
  tp : Tp p w0 wr
  lo : p < rb ∧ rb < base ∧ w0.heap.size ≤ rb ∧ base ≤ bf
section
variable {w0 wr wr' : World} {p rb bf base J m m' : Nat} {ov dv : Value} {xs : List Int} {B Cp : Nat → Nat} {f : Nat → Nat → Int}
theorem LS.size (h : LS w0 wr p rb bf base ov dv xs J B Cp f m) : bf < wr.heap.size := World.block_lt_of_cell? _ _ h.c0
theorem LS.more (h : LS w0 wr p rb bf base ov dv xs J B Cp f m) (hm : m ≤ m') : LS w0 wr p rb bf base ov dv xs J B Cp f m' := ⟨h.c0, h.c1, h.rt, h.rf, h.nb, h.cu.mono hm, h.tp, h.lo⟩
theorem LS.kp (h : LS w0 wr p rb bf base ov dv xs J B Cp f m) (hk : Kp wr wr') : LS w0 wr' p rb bf base ov dv xs J B Cp f m :=
  ⟨hk.get h.c0, hk.get h.c1, turn_thereD (Turn.of_kp (S := fun _ => False) hk) h.rt (fun h => h), h.rf.kp hk, h.nb, h.cu.kp hk, h.tp.trans (Turn.of_kp hk), h.lo⟩
theorem LS.drawn (h : LS w0 wr p rb bf base ov dv xs J B Cp f m) (ht : Tp p wr wr') (hc : Cur wr' p m') : LS w0 wr' p rb bf base ov dv xs J B Cp f m' := by
  have hl := h.lo
  exact ⟨turn_cellD ht h.c0 (by show bf ≠ p; omega), turn_cellD ht h.c1 (by show bf ≠ p; omega), turn_thereD ht h.rt (by omega), h.rf.low ht (fun i hi => by omega), h.nb, hc, h.tp.trans ht, h.lo⟩
theorem LS.under (h : LS w0 wr p rb bf base ov dv xs J B Cp f m) : (∀ g, ov.ownBlock = some g → g < wr.heap.size) ∧ (∀ g, dv.ownBlock = some g → g < wr.heap.size) ∧ (∀ j, j < J → B j < wr.heap.size) :=
  ⟨fun g hg => (h.rf.op.lt g hg).2, fun g hg => (h.rf.di.vlt g hg).2, fun j hj => (h.rf.di.lt hj).2⟩
/-- Something far from it has turned. -/
theorem LS.far {S : Nat → Prop} {N : Nat} {w2 : World} (h : LS w0 wr p rb bf base ov dv xs J B Cp f m) (hu : (∀ g, ov.ownBlock = some g → g < N) ∧ (∀ g, dv.ownBlock = some g → g < N) ∧ (∀ j, j < J → B j < N)) (ht : Turn S wr w2) (hS : ∀ i, S i → N ≤ i) (hN : base ≤ N) (hb : ¬ S bf) : LS w0 w2 p rb bf base ov dv xs J B Cp f m := by
  have hl := h.lo
  have hlow : ∀ i, i < base → ¬ S i := fun i hi hs => by have := hS i hs; omega
  exact ⟨turn_cellD ht h.c0 hb, turn_cellD ht h.c1 hb, turn_thereD ht h.rt (hlow rb (by omega)),
    ⟨h.rf.op.turn ht (fun g hg hs => by have := hu.1 g hg; have := hS g hs; omega), h.rf.di.turn ht (fun g hg hs => by have := hu.2.1 g hg; have := hS g hs; omega) (fun j hj hs => by have := hu.2.2 j hj; have := hS _ hs; omega), h.rf.ap⟩,
    h.nb, h.cu.turn ht (fun i hi => hlow i (by omega)), ⟨ht.os.trans h.tp.os, ht.tape.trans h.tp.tape, ht.output.trans h.tp.output, Nat.le_trans h.tp.size ht.size, fun i hi hn => by
      rw [ht.block i (Nat.lt_of_lt_of_le hi h.tp.size) (hlow i (by omega)), h.tp.block i hi hn]⟩, h.lo⟩
/-- The cells, and what a store of one number leaves. -/
theorem LS.cell (h : LS w0 wr p rb bf base ov dv xs J B Cp f m) {j a : Nat} (hj : j < J) (ha : a < xs.length) : ∃ g cap, dv = .slice (some ⟨g, 0, none⟩) J cap ∧ wr.cell? ⟨g, j, none⟩ = some (.slice (some ⟨B j, 0, none⟩) xs.length (Cp j)) ∧ wr.cell? ⟨B j, a, none⟩ = some (.int .i64 (f j a)) ∧ wr.frozen? ⟨B j, a, none⟩ = false ∧
    ∀ z : Int, LS w0 (wr.setCell ⟨B j, a, none⟩ (.int .i64 z)) p rb bf base ov dv xs J B Cp (upd2 f j a z) m := by
  have hl := h.lo
  obtain ⟨g, cap, rfl, hm⟩ := h.rf.di.mat (by omega)
  obtain ⟨c1, c2, c3⟩ := hm.cell hj ha
  refine ⟨g, cap, rfl, hm.hcell hj, c1, c2, fun z => ?_⟩
  obtain ⟨m2, t2⟩ := c3 z
  have hb := (hm.lt hj).1
  exact ⟨turn_cellD t2 h.c0 (by show bf ≠ B j; exact (h.nb j hj).symm), turn_cellD t2 h.c1 (by show bf ≠ B j; exact (h.nb j hj).symm), turn_thereD t2 h.rt (by show rb ≠ B j; omega),
    ⟨h.rf.op.turn t2 (fun g hg e => h.rf.ap j hj (e ▸ hg)), m2.dmat, h.rf.ap⟩, h.nb, h.cu.turn t2 (fun i hi => by show i ≠ B j; omega),
    ⟨t2.os.trans h.tp.os, t2.tape.trans h.tp.tape, t2.output.trans h.tp.output, Nat.le_trans h.tp.size t2.size, fun i hi hn => by
      rw [t2.block i (Nat.lt_of_lt_of_le hi h.tp.size) (by show i ≠ B j; omega), h.tp.block i hi hn]⟩, h.lo⟩
/-- The field is handed out. -/
theorem LS.ret (h : LS w0 wr p rb bf base ov dv xs J B Cp f m) : (wr.setCells rb 0 [ov, dv]).cell? ⟨rb, 0, none⟩ = some ov ∧ (wr.setCells rb 0 [ov, dv]).cell? ⟨rb, 1, none⟩ = some dv ∧ RF (wr.setCells rb 0 [ov, dv]) w0.heap.size ov dv xs J B Cp f ∧ Cur (wr.setCells rb 0 [ov, dv]) p m ∧ Tp p w0 (wr.setCells rb 0 [ov, dv]) := by
  have hl := h.lo
  have ts := turn_setCellsD rb [ov, dv] 0 wr
  have hr := World.rangeAt_setCells_same wr rb 0 [ov, dv] h.rt
  exact ⟨hr 0 _ rfl, hr 1 _ rfl, (h.rf.low ts (fun i hi => by omega)).mono (by omega), h.cu.turn ts (fun i hi => by omega), ⟨ts.os.trans h.tp.os, ts.tape.trans h.tp.tape, ts.output.trans h.tp.output, Nat.le_trans h.tp.size ts.size, fun i hi hn => by
    rw [ts.block i (Nat.lt_of_lt_of_le hi h.tp.size) (by omega), h.tp.block i hi hn]⟩⟩
end
theorem ls_new {w w1 : World} {p rb base J m : Nat} {ov dv : Value} {xs : List Int} {B Cp : Nat → Nat} {f : Nat → Nat → Int} {t : TypeId} (h : RF w1 base ov dv xs J B Cp f) (c : Cur w1 p m) (k : Tp p w w1) (t1 : w1.there rb 0 2) (lo : p < rb ∧ rb < base ∧ w.heap.size ≤ rb) (hb : base ≤ w1.heap.size) (o : Obj) :
    LS w ((w1.alloc o).alloc (.cells #[ov, dv] t)) p rb (w1.heap.size + 1) base ov dv xs J B Cp f m := by
  have hk : Kp w1 ((w1.alloc o).alloc (.cells #[ov, dv] t)) := ((Kp.refl w1).alloc _).alloc _
  obtain ⟨d0, d1⟩ := box2 (w1.alloc o) ov dv t
  have hz : (w1.alloc o).heap.size = w1.heap.size + 1 := by simp
  rw [hz] at d0 d1
  exact ⟨d0, d1, turn_thereD (Turn.of_kp (S := fun _ => False) hk) t1 (fun h => h), h.kp hk, fun j hj => by have := (h.di.lt hj).2; omega, c.kp hk, k.trans (Turn.of_kp hk), ⟨lo.1, lo.2.1, lo.2.2, by omega⟩⟩
set_option maxRecDepth 100000 in
set_option maxHeartbeats 2000000 in
theorem lineField_any (p m : Nat) (most : Int) (w : World) (hc : Cur w p m) (hm : m < 1000000000 - 1000) (hmost : 1 ≤ most) :
    Calls Tryz.prog 104 #[.pointer (some ⟨p, 0, none⟩), .int .i64 most] w fun e w' => ∃ a d, e = .returned (.agg #[a, d]) ∧ DF w' w.heap.size a d ∧ Cur w' p (m + 2000) ∧ Tp p w w' := by
  have hp := hc.lt
  have t0 := there_newD w [.slice none 0 0, .slice none 0 0] 27
  simp only [List.length_cons, List.length_nil, Nat.zero_add, Nat.reduceAdd] at t0
  have k0 : Tp p w (w.alloc (.cells #[.slice none 0 0, .slice none 0 0] 27)) := Turn.of_kp ((Kp.refl w).alloc _)
  have c0 := hc.kp ((Kp.refl w).alloc (.cells #[.slice none 0 0, .slice none 0 0] 27))
  have hsz : (w.alloc (.cells #[.slice none 0 0, .slice none 0 0] 27)).heap.size = w.heap.size + 1 := by simp
  have CC := Lib.hid (rawField_any p m most (w.alloc (.cells #[.slice none 0 0, .slice none 0 0] 27)) c0 (by omega) hmost)
  rw [hsz] at CC
  go_enter Tryz.func104, Tryz.ntmps104
  go_wp2_with fail
  with_reducible refine Calls.mono CC.out ?_
  rintro e w1 ⟨ov, dv, rfl, ⟨xs, J, B, Cp, f, hrf, hrb⟩, c1, u1⟩
  clear CC
  have k1 := k0.trans u1
  have t1 := turn_thereD u1 t0 (by show ¬ w.heap.size = p; omega)
  have s1 := Nat.le_trans (Nat.le_of_eq hsz.symm) u1.size
  clear t0 k0 c0 hsz u1
  generalize hrbe : w.heap.size = rb at *
  replace hrbe := Lib.hid hrbe
  obtain ⟨Ao, co, hvo⟩ := hrf.op.shape
  obtain ⟨Ad, cd, hvd⟩ := hrf.di.shape
  have HRB := Lib.hid hrb
  obtain ⟨M, hM⟩ : ∃ M, xs.length = M := ⟨_, rfl⟩
  rw [hM] at hvo
  subst hvo
  subst hvd
  have hM8 : M ≤ 8 := by have := hrb.xl; omega
  have hJ8 := hrb.jl
  clear hrb
  have hst := ls_new (t := 27) hrf c1 k1 t1 ⟨hp, Nat.lt_succ_self _, by rw [hrbe.out]; exact Nat.le_refl _⟩ s1 (.cells #[] 3)
  have hpl : Own ((w1.alloc (.cells #[] 3)).alloc (.cells #[.slice Ao M co, .slice Ad J cd] 27)) w1.heap.size (.slice (some ⟨w1.heap.size, 0, none⟩) 0 0) [] := (own_new0 w1 w1.heap.size (Nat.le_refl _)).kp ((Kp.refl _).alloc _)
  have hun : (∀ g, (Value.slice Ao M co).ownBlock = some g → g < w1.heap.size) ∧ (∀ g, (Value.slice Ad J cd).ownBlock = some g → g < w1.heap.size) ∧ (∀ j, j < J → B j < w1.heap.size) := ⟨fun g hg => (hrf.op.lt g hg).2, fun g hg => (hrf.di.vlt g hg).2, fun j hj => (hrf.di.lt hj).2⟩
  clear hrf c1 k1 t1
  go_wp2_with fail
  generalize (w1.alloc (.cells #[] 3)).alloc (.cells #[.slice Ao M co, .slice Ad J cd] 27) = wb at *
  generalize w1.heap.size = N at *
  have hpb0 : ∀ g, (Value.slice (some ⟨N, 0, none⟩) 0 0).ownBlock = some g → g ≠ N + 1 := fun g hg => by
    have : N = g := by simpa [Value.ownBlock] using hg
    omega
  go_loopw [6, 7] (fun px iv wr => ∃ (a : Nat) (pv : Value) (ps : List Int), pv = px ∧ iv = .int .i64 a ∧ a ≤ M ∧ ps.length = a ∧ Hid (∀ x ∈ ps, 0 ≤ x ∧ x < 20) ∧ Own wr N pv ps ∧ Hid (∀ g, pv.ownBlock = some g → g ≠ N + 1) ∧ LS w wr p rb (N + 1) (rb + 1) (.slice Ao M co) (.slice Ad J cd) xs J B Cp f (m + 1000 + 2 * a)) (fun _ iv _ => M - (intOf iv).toNat)
  case atStart => exact ⟨0, _, [], rfl, rfl, by omega, rfl, (by show ∀ x ∈ _, _; simp), hpl, Lib.hid hpb0, hst⟩
  case round =>
    clear hst hpl hpb0
    obtain ⟨a, pv, ps, rfl, rfl, ha, hpa, Hps, hpl, Hpb, hls⟩ := hrel
    have q0 := hls.c0
    have q1 := hls.c1
    by_cases hlt : a < M
    · have CP := Lib.hid (pick_any p _ 20 wr hls.cu (by omega) (by omega))
      have hpa2 : ps.length < 1048576 := by omega
      go_wp2_with fail
      with_reducible refine Calls.mono CP.out ?_
      rintro e wp1 ⟨r, rfl, hr, hc1, ht1⟩
      clear CP
      have hq := hls.drawn ht1 hc1
      have hl := hls.lo
      have hpl1 := own_low hpl ht1 (fun i hi => by omega)
      have hNw : N ≤ wp1.heap.size := by have := hq.size; omega
      have hsN : N + 1 < wp1.heap.size := hq.size
      go_wp2_with (at_builtin; go_loud (refine wpl_app rfl (.tmp 22) (.tmp 25) rfl N pv ps r rfl rfl hpl1 hNw hpa2 ?_); intro v2 w2 ho2 ht2 h42)
      have hq2 := hq.far hun ht2 (fun i hi => (hpl1.lt i hi).1) (by omega) (fun h => Hpb.out _ h rfl)
      go_roundw
      case rel => exact ⟨a + 1, v2, ps ++ [r], rfl, by go_num, by omega, by simp [hpa], (by show ∀ y ∈ _, _; intro y hy; rcases List.mem_append.1 hy with h | h; exact Hps.out y h; rw [List.mem_singleton] at h; rw [h]; have := hr.2.2 (by omega); omega), ho2, (by
        show ∀ g, _ → _
        intro g hg
        rcases h42 with e | e
        · exact Hpb.out g (e ▸ hg)
        · have := e g hg; omega), hq2.more (by omega)⟩
      case measure => simp [intOf]; omega
    · obtain rfl : a = M := by omega
      clear hlt ha
      have hl := hls.lo
      have HU := Lib.hid hun
      have HF : Hid (∀ j b, j < J → b < a → 0 ≤ f j b ∧ f j b < 20) := by show ∀ j b, _ → _; intro j b hj hb; exact HRB.out.fb j b hj (by omega)
      obtain ⟨gp, cp, hpv⟩ : ∃ A c, pv = .slice A a c := by obtain ⟨A, c, e⟩ := hpl.shape; rw [hpa] at e; exact ⟨A, c, e⟩
      subst hpv
      go_wp2_with fail
      clear hun q0 q1
      go_loopw [8] (fun iv wr => ∃ (j : Nat) (f' : Nat → Nat → Int), iv = .int .i64 j ∧ j ≤ J ∧ Hid (∀ j b, j < J → b < a → 0 ≤ f' j b ∧ f' j b < 20) ∧ Own wr N (.slice gp a cp) ps ∧ LS w wr p rb (N + 1) (rb + 1) (.slice Ao a co) (.slice Ad J cd) xs J B Cp f' (m + 1100 + 2 * j)) (fun iv _ => J - (intOf iv).toNat)
      case atStart => exact ⟨0, f, rfl, by omega, HF, hpl, hls.more (by omega)⟩
      case round =>
        clear hpl hls HF
        obtain ⟨j, f1, rfl, hj, HF, hpl, hls⟩ := hrel
        have q0 := hls.c0
        have q1 := hls.c1
        by_cases hlt : j < J
        · have CP := Lib.hid (pick_any p _ 20 wr hls.cu (by omega) (by omega))
          go_wp2_with fail
          with_reducible refine Calls.mono CP.out ?_
          rintro e wp1 ⟨x, rfl, hx, hc1, ht1⟩
          clear CP
          have hls1 := hls.drawn ht1 hc1
          have hpl1 := own_low hpl ht1 (fun i hi => by omega)
          have hx20 := hx.2.2 (by omega)
          have hx0 := hx.1
          clear q0 q1 hls hpl hx
          go_wp2_with fail
          go_loopw [10] (fun iv wr => ∃ (b : Nat) (f' : Nat → Nat → Int), iv = .int .i64 b ∧ b ≤ a ∧ Hid (∀ j b, j < J → b < a → 0 ≤ f' j b ∧ f' j b < 20) ∧ Own wr N (.slice gp a cp) ps ∧ LS w wr p rb (N + 1) (rb + 1) (.slice Ao a co) (.slice Ad J cd) xs J B Cp f' (m + 1100 + 2 * j + 2)) (fun iv _ => a - (intOf iv).toNat)
          case atStart => exact ⟨0, f1, rfl, by omega, HF, hpl1, hls1⟩
          case round =>
            clear hpl1 hls1 HF
            obtain ⟨b, f2, rfl, hb, HF, hpl, hls⟩ := hrel
            have q0 := hls.c0
            have q1 := hls.c1
            by_cases hlb : b < a
            · obtain ⟨g, cap, hdv, y1, y2, y3, hset⟩ := hls.cell hlt (a := b) (by omega)
              rw [hM] at y1
              simp only [Value.slice.injEq] at hdv
              obtain ⟨rfl, -, rfl⟩ := hdv
              have lb : b < ps.length := by omega
              have hin := hpl.intsOf (by omega)
              obtain ⟨gq, rfl, y4⟩ := hin.at_ lb
              obtain ⟨pl, hpl0⟩ : ∃ z, ps[b] = z := ⟨_, rfl⟩
              have hplb := Hps.out _ (List.getElem_mem lb)
              rw [hpl0] at y4 hplb
              have hw1 : IntKind.i64.wrap (x - pl) = x - pl := IntWalk.i64_in _ (by omega)
              have hw2 : IntKind.i64.wrap (pl - x) = pl - x := IntWalk.i64_in _ (by omega)
              have hw3 : wrap64 (x - pl) = x - pl := IntWalk.wrap64_in _ (by omega)
              have hw4 : wrap64 (pl - x) = pl - x := IntWalk.wrap64_in _ (by omega)
              have a1 : (⟨g, 0, none⟩ : Addr).add j = ⟨g, j, none⟩ := add0 _ _
              have a2 : (⟨B j, 0, none⟩ : Addr).add b = ⟨B j, b, none⟩ := add0 _ _
              have hjI : (j : Int) < (J : Int) := by omega
              have hbI : (b : Int) < (a : Int) := by omega
              have e8 : ((j : Int)).toNat = j := Int.toNat_natCast j
              have e9 : ((b : Int)).toNat = b := Int.toNat_natCast b
              have C1 := Lib.hid ((l1Most_any (x - pl) (pl - x) wr.drew).mono (fun e w' h => (⟨h.1, h.2.symm⟩ : e = .returned (.int .i64 (max (x - pl) (pl - x))) ∧ w' = wr.drew)))
              have hst := hset (max (x - pl) (pl - x))
              have htn : Turn (fun i => i = B j) wr (wr.setCell ⟨B j, b, none⟩ (.int .i64 (max (x - pl) (pl - x)))) := ⟨rfl, rfl, rfl, by simp [World.setCell], fun i _ hn => Below.heap_setCell _ _ _ _ hn⟩
              have hplw := hpl.turn htn (fun k hk e => by have := (hpl.lt k hk).1; have := HU.out.2.2 j hlt; omega)
              have HST := Lib.hid hst
              have HPL := Lib.hid hplw
              clear hst hplw htn hset hin
              go_wp2_with fail
              refine wp_region_still_tail 20 (by kernel_rfl) (by kernel_rfl) ?_
              simp only [List.take_succ_cons, List.take_zero, List.drop_succ_cons, List.drop_zero]
              repeat still_step
              still_call C1.out
              repeat still_step
              try refine wpStill_nil ?_
              change wpList _ _ _ _ _ _
              go_wp2_with fail
              go_roundw
              case rel => exact ⟨b + 1, _, by go_num, by omega, (by
                show ∀ j b, _ → _
                intro j' b' hj' hb'
                by_cases e : j' = j ∧ b' = b
                · obtain ⟨rfl, rfl⟩ := e
                  rw [upd2_at]; omega
                · rw [upd2_ne (by omega)]; exact HF.out j' b' hj' hb'), HPL.out.kp (Kp.refl _).drew, HST.out.kp (Kp.refl _).drew⟩
              case measure => simp [intOf]; omega
            · obtain rfl : b = a := by omega
              go_wp2_with fail
              go_roundw
              case rel => exact ⟨j + 1, f2, by go_num, by omega, HF, hpl, hls.more (by omega)⟩
              case measure => simp [intOf]; omega
        · obtain rfl : j = J := by omega
          have HS := Lib.hid hls
          have hrbb : RB xs j f1 := ⟨HRB.out.pos, by omega, by omega, HRB.out.xb, fun i b hi hb => HF.out i b hi (by omega)⟩
          clear hls
          go_wp2_with (first | (refine wpList_store_mid rfl 27 (.tmp 4) (.tmp 63) rfl rb 0 #[.slice Ao a co, .slice Ad j cd] rfl rfl HS.out.rt (by kernel_rfl) (by simp [Value.oneCell']) ?_) | fail)
          obtain ⟨z0, z1, z2, z3, z4⟩ := HS.out.ret
          exact bodyPost_ret (v := .agg #[.slice Ao a co, .slice Ad j cd]) (by simp [results, Tryz.results104, go_sem, z0, z1]) rfl ⟨_, _, rfl, ⟨xs, j, B, Cp, f1, z2, hrbb⟩, z3.mono (by omega), z4⟩
end Go.Proofs.YtpiijhfjliolfaaGreat

namespace Go.Proofs.YtpiijhfjliolfaaGreat
open Go.RowKit Go.Sort

theorem Own.someP {w : World} {base : Nat} {v : Value} {xs : List Int} (h : Own w base v xs) (hn : 0 < xs.length) : ∃ g c, v = .slice (some ⟨g, 0, none⟩) xs.length c ∧ IntsAt w (some ⟨g, 0, none⟩) xs ∧ base ≤ g := by
  obtain ⟨g, c, rfl⟩ := h.someD hn
  exact ⟨g, c, rfl, h.intsOf (by
    rcases h.2 with ⟨e, _⟩ | ⟨_, _, _, e, _, _, h1, h2, _⟩
    · cases e
    · unfold maxLen at h2; omega), (h.lt g rfl).1⟩
/-- While a copy of the field is made in the variable of block bf. -/
structure OS (w0 wr : World) (bf : Nat) (a d ov dv : Value) (xs : List Int) (j : Nat) (B Cp : Nat → Nat) (f : Nat → Nat → Int) : Prop where
  b0 : wr.cell? ⟨w0.heap.size, 0, none⟩ = some a
  b1 : wr.cell? ⟨w0.heap.size, 1, none⟩ = some d
  c0 : wr.cell? ⟨bf, 0, none⟩ = some ov
  c1 : wr.cell? ⟨bf, 1, none⟩ = some dv
  th : wr.there bf 0 2
  rt : wr.there (w0.heap.size + 1) 0 2
  op : Own wr (w0.heap.size + 2) ov xs
  ob : ∀ g, ov.ownBlock = some g → g < bf
  di : DMat wr (bf + 1) dv j xs.length B Cp f
  kp : Kp w0 wr
  lo : w0.heap.size + 2 ≤ bf
section
variable {w0 wr wr' : World} {bf j : Nat} {a d ov dv : Value} {xs : List Int} {B Cp : Nat → Nat} {f : Nat → Nat → Int}
theorem OS.size (h : OS w0 wr bf a d ov dv xs j B Cp f) : bf < wr.heap.size := World.block_lt_of_cell? _ _ h.c0
theorem OS.next (h : OS w0 wr bf a d ov dv xs j B Cp f) (hk : Kp wr wr') : OS w0 wr' bf a d ov dv xs j B Cp f :=
  ⟨hk.get h.b0, hk.get h.b1, hk.get h.c0, hk.get h.c1, turn_thereD (Turn.of_kp (S := fun _ => False) hk) h.th (fun h => h), turn_thereD (Turn.of_kp (S := fun _ => False) hk) h.rt (fun h => h), h.op.kp hk, h.ob, h.di.kp hk, h.kp.trans hk, h.lo⟩
theorem OS.stay {w2 : World} (h : OS w0 wr bf a d ov dv xs j B Cp f) (ht : Turn (fun i => dv.ownBlock = some i) wr w2) : w2.cell? ⟨bf, 1, none⟩ = some dv ∧ w2.frozen? ⟨bf, 1, none⟩ = false := by
  have hob : ¬ dv.ownBlock = some bf := fun e => by have := (h.di.vlt bf e).1; omega
  have h1 := (h.th 1 (by omega)).2
  simp only [Nat.zero_add] at h1
  exact ⟨turn_cellD ht h.c1 hob, by rw [turn_frozD ht h.size hob]; exact h1⟩
theorem OS.set {w2 : World} {dv' : Value} {J' : Nat} {B' Cp' : Nat → Nat} {f' : Nat → Nat → Int} (h : OS w0 wr bf a d ov dv xs j B Cp f) (ht : Turn (fun i => dv.ownBlock = some i) wr w2) (hd : DMat w2 (bf + 1) dv' J' xs.length B' Cp' f') : OS w0 (w2.setCell ⟨bf, 1, none⟩ dv') bf a d ov dv' xs J' B' Cp' f' := by
  have hl := h.lo
  have hob : ∀ i, i ≤ bf → ¬ dv.ownBlock = some i := fun i hi e => by have := (h.di.vlt i e).1; omega
  have ts : Turn (fun i => i = bf) w2 (w2.setCell ⟨bf, 1, none⟩ dv') := ⟨rfl, rfl, rfl, by simp [World.setCell], fun i _ hn => Below.heap_setCell _ _ _ _ hn⟩
  have t2 := turn_thereD ht h.th (hob bf (Nat.le_refl _))
  have hz := (t2 1 (by omega)).1
  simp only [Nat.zero_add] at hz
  refine ⟨turn_cellD ts (turn_cellD ht h.b0 (hob _ (by show w0.heap.size ≤ bf; omega))) (by show w0.heap.size ≠ bf; omega), turn_cellD ts (turn_cellD ht h.b1 (hob _ (by show w0.heap.size ≤ bf; omega))) (by show w0.heap.size ≠ bf; omega), ?_, World.cell?_setCell_same' _ _ _ hz, World.there_setCells t2 bf 1 [_], turn_thereD ts (turn_thereD ht h.rt (hob _ (by omega))) (by omega),
    (h.op.turn ht (fun k hk hs => by have := h.ob k hk; exact hob k (by omega) hs)).turn ts (fun k hk hs => by have := h.ob k hk; omega), h.ob, hd.low ts (fun i hi => by omega), ?_, hl⟩
  · rw [World.cell?_setCell_other _ _ _ _ (by intro h; cases h)]
    exact turn_cellD ht h.c0 (hob bf (Nat.le_refl _))
  · exact (h.kp.turn ht (fun i hi => by have := (h.di.vlt i hi).1; omega)).turn ts (fun i hi => by omega)
theorem OS.congr {f' : Nat → Nat → Int} (h : OS w0 wr bf a d ov dv xs j B Cp f) (e : ∀ i, i < j → f i = f' i) : OS w0 wr bf a d ov dv xs j B Cp f' :=
  ⟨h.b0, h.b1, h.c0, h.c1, h.th, h.rt, h.op, h.ob, ⟨h.di.hd, fun i hi => by rw [← e i hi]; exact h.di.row i hi, h.di.apart⟩, h.kp, h.lo⟩
theorem OS.rf (h : OS w0 wr bf a d ov dv xs j B Cp f) : RF wr (w0.heap.size + 2) ov dv xs j B Cp f :=
  ⟨h.op, h.di.mono (by have := h.lo; omega), fun i hi e => by have := h.ob _ e; have := (h.di.lt hi).1; omega⟩
end
set_option maxRecDepth 100000 in
set_option maxHeartbeats 2000000 in
theorem l2Own_any (a d : Value) (base : Nat) (xs : List Int) (J : Nat) (B Cp : Nat → Nat) (f : Nat → Nat → Int) (w : World) (hr : RF w base a d xs J B Cp f) (hb : RB xs J f) :
    Calls Tryz.prog 121 #[.agg #[a, d]] w fun e w' => ∃ a' d' B' Cp', e = .returned (.agg #[a', d']) ∧ RF w' w.heap.size a' d' xs J B' Cp' f ∧ Kp w w' := by
  obtain ⟨go, co, rfl, hio, _⟩ := hr.op.someP hb.pos
  obtain ⟨Ad, cd, hvd⟩ := hr.di.shape
  subst hvd
  have HRB := Lib.hid hb
  obtain ⟨M, hM⟩ : ∃ M, xs.length = M := ⟨_, rfl⟩
  have hM8 : M ≤ 8 := by have := hb.xl; omega
  have hM0 : 0 < M := by have := hb.pos; omega
  have hJ8 := hb.jl
  rw [hM] at hr ⊢
  clear hb
  obtain ⟨d0, d1⟩ := box2 w (.slice (some ⟨go, 0, none⟩) M co) (.slice Ad J cd) 27
  have k1 : Kp w (w.alloc (.cells #[.slice (some ⟨go, 0, none⟩) M co, .slice Ad J cd] 27)) := (Kp.refl w).alloc _
  have k2 : Kp _ ((w.alloc (.cells #[.slice (some ⟨go, 0, none⟩) M co, .slice Ad J cd] 27)).alloc (.cells #[.slice none 0 0, .slice none 0 0] 27)) := (Kp.refl _).alloc _
  have k0 := k1.trans k2
  have e0 := k2.get d0
  have e1 := k2.get d1
  have t0 := there_newD (w.alloc (.cells #[.slice (some ⟨go, 0, none⟩) M co, .slice Ad J cd] 27)) [.slice none 0 0, .slice none 0 0] 27
  have hsz : Hid (((w.alloc (.cells #[.slice (some ⟨go, 0, none⟩) M co, .slice Ad J cd] 27)).alloc (.cells #[.slice none 0 0, .slice none 0 0] 27)).heap.size = w.heap.size + 2) := by show _ = _; simp
  simp only [List.length_cons, List.length_nil, Nat.zero_add, Nat.reduceAdd, World.size_alloc] at t0
  clear d0 d1 k1 k2
  go_enter Tryz.func121, Tryz.ntmps121
  go_wp2_with fail
  generalize (w.alloc (.cells #[.slice (some ⟨go, 0, none⟩) M co, .slice Ad J cd] 27)).alloc (.cells #[.slice none 0 0, .slice none 0 0] 27) = wb at *
  have CC := Lib.hid (l1Own_any ⟨go, 0, none⟩ xs M co wb (hio.kp k0) hM (by omega))
  with_reducible refine Calls.mono CC.out ?_
  rintro e w1 ⟨ov, rfl, ho, hk1⟩
  clear CC
  obtain ⟨gv, cv, hov⟩ := ho.someD (by omega)
  rw [hM] at hov
  subst hov
  have hk01 := k0.trans hk1
  have hst : OS w (w1.alloc (.cells #[.slice (some ⟨gv, 0, none⟩) M cv, .slice none 0 0] 27)) w1.heap.size (.slice (some ⟨go, 0, none⟩) M co) (.slice Ad J cd) (.slice (some ⟨gv, 0, none⟩) M cv) (.slice none 0 0) xs 0 (fun _ => 0) (fun _ => 0) f := by
    have hk : Kp w1 (w1.alloc (.cells #[.slice (some ⟨gv, 0, none⟩) M cv, .slice none 0 0] 27)) := (Kp.refl w1).alloc _
    obtain ⟨x0, x1⟩ := box2 w1 (.slice (some ⟨gv, 0, none⟩) M cv) (.slice none 0 0) 27
    have th := there_newD w1 [.slice (some ⟨gv, 0, none⟩) M cv, .slice none 0 0] 27
    have hle := hk1.le
    rw [hsz.out] at hle
    refine ⟨(hk1.trans hk).get e0, (hk1.trans hk).get e1, x0, x1, th, turn_thereD (Turn.of_kp (S := fun _ => False) (hk1.trans hk)) t0 (fun h => h), ?_, fun g hg => (ho.lt g hg).2, DMat.nil _ _ _ _ _ _, hk01.trans hk, hle⟩
    have := ho.kp hk
    rw [hsz.out] at this
    exact this
  have HR := Lib.hid hr
  clear hr hio e0 e1 t0 hk1 ho
  go_wp2_with fail
  generalize w1.alloc (.cells #[.slice (some ⟨gv, 0, none⟩) M cv, .slice none 0 0] 27) = wc at *
  generalize w1.heap.size = bf at *
  go_loopw [4] (fun iv wr => ∃ (j : Nat) (dv : Value) (B' Cp' : Nat → Nat), iv = .int .i64 j ∧ j ≤ J ∧ OS w wr bf (.slice (some ⟨go, 0, none⟩) M co) (.slice Ad J cd) (.slice (some ⟨gv, 0, none⟩) M cv) dv xs j B' Cp' f) (fun iv _ => J - (intOf iv).toNat)
  case atStart => exact ⟨0, _, _, _, rfl, by omega, hst⟩
  case round =>
    clear hst
    obtain ⟨j, dv, B', Cp', rfl, hj, hos⟩ := hrel
    by_cases hlt : j < J
    · obtain ⟨g, cap, hdv, hm0⟩ := HR.out.di.mat (by omega)
      simp only [Value.slice.injEq] at hdv
      obtain ⟨rfl, -, rfl⟩ := hdv
      rw [hM] at hm0
      have hmk := hm0.kp hos.kp
      have y1 := hmk.hcell hlt
      have hri : IntsAt wr (some ⟨B j, 0, none⟩) (mapTo (f j) M) := hmk.ints (by omega) hlt
      have a1 : (⟨g, 0, none⟩ : Addr).add j = ⟨g, j, none⟩ := add0 _ _
      have hd := hos.next (Kp.refl wr).drew
      have hjI : (j : Int) < (J : Int) := by omega
      have e8 : ((j : Int)).toNat = j := Int.toNat_natCast j
      have q1 := hos.b1
      have CC := Lib.hid (l1Own_any ⟨B j, 0, none⟩ (mapTo (f j) M) M (Cp j) wr.drew (hri.kp (Kp.refl wr).drew) (mapTo_len _ _) (by omega))
      have hj2 : j < 1048576 := by omega
      have y1d : wr.drew.cell? ⟨g, j, none⟩ = some (.slice (some ⟨B j, 0, none⟩) M (Cp j)) := (Kp.refl wr).drew.get y1
      go_wp2_with fail
      refine wp_region_last2 (S := fun w' => w'.cell? ⟨bf, 1, none⟩ = some dv ∧ w'.cell? ⟨w.heap.size, 1, none⟩ = some (.slice (some ⟨g, 0, none⟩) J cd) ∧ w'.cell? ⟨g, j, none⟩ = some (.slice (some ⟨B j, 0, none⟩) M (Cp j))) (split_cons (split_cons (split_cons (split_cons (split_cons (split_cons (split_cons (split_cons (split_cons (split_cons (split_cons split_one))))))))))) (by kernel_rfl) (by kernel_rfl) ?_
      have hHeld : (fun w' => w'.cell? ⟨bf, 1, none⟩ = some dv ∧ w'.cell? ⟨w.heap.size, 1, none⟩ = some (.slice (some ⟨g, 0, none⟩) J cd) ∧ w'.cell? ⟨g, j, none⟩ = some (.slice (some ⟨B j, 0, none⟩) M (Cp j))) wr.drew := ⟨hd.c1, hd.b1, y1d⟩
      refine wpAnyH_take (i := 0) (v := ?_) rfl (by kernel_rfl) (by kernel_rfl) (by kernel_rfl) (fun _ _ _ h => h) (Or.inl ⟨by rfl, ?_⟩) (by assumption) ?_
      rotate_left
      · intro w hSw; (try dsimp only at hSw); go_simp <;> with_reducible rfl
      (try simp only [Act.put, List.setIfInBounds_toArray, List.set_cons_zero, List.set_cons_succ])
      refine wpAnyH_take (i := 1) (v := ?_) rfl (by kernel_rfl) (by kernel_rfl) (by kernel_rfl) (fun _ _ _ h => h) (Or.inl ⟨by rfl, ?_⟩) (by assumption) ?_
      rotate_left
      · intro w hSw; (try dsimp only at hSw); go_simp <;> with_reducible rfl
      (try simp only [Act.put, List.setIfInBounds_toArray, List.set_cons_zero, List.set_cons_succ])
      refine wpAnyH_take (i := 2) (v := ?_) rfl (by kernel_rfl) (by kernel_rfl) (by kernel_rfl) (fun _ _ _ h => h) (Or.inl ⟨by rfl, ?_⟩) (by assumption) ?_
      rotate_left
      · intro w hSw; (try dsimp only at hSw); go_simp <;> with_reducible rfl
      (try simp only [Act.put, List.setIfInBounds_toArray, List.set_cons_zero, List.set_cons_succ])
      refine wpAnyH_take (i := 3) (v := ?_) rfl (by kernel_rfl) (by kernel_rfl) (by kernel_rfl) (fun _ _ _ h => h) (Or.inl ⟨by rfl, ?_⟩) (by assumption) ?_
      rotate_left
      · intro w hSw; (try dsimp only at hSw); go_simp <;> with_reducible rfl
      (try simp only [Act.put, List.setIfInBounds_toArray, List.set_cons_zero, List.set_cons_succ])
      refine wpAnyH_take (i := 4) (v := ?_) rfl (by kernel_rfl) (by kernel_rfl) (by kernel_rfl) (fun _ _ _ h => h) (Or.inl ⟨by rfl, ?_⟩) (by assumption) ?_
      rotate_left
      · intro w hSw; (try dsimp only at hSw); go_simp <;> with_reducible rfl
      (try simp only [Act.put, List.setIfInBounds_toArray, List.set_cons_zero, List.set_cons_succ])
      refine wpAnyH_take (i := 5) (v := ?_) rfl (by kernel_rfl) (by kernel_rfl) (by kernel_rfl) (fun _ _ _ h => h) (Or.inl ⟨by rfl, ?_⟩) (by assumption) ?_
      rotate_left
      · intro w hSw; (try dsimp only at hSw); go_simp <;> with_reducible rfl
      (try simp only [Act.put, List.setIfInBounds_toArray, List.set_cons_zero, List.set_cons_succ])
      refine wpAnyH_take (i := 6) (v := ?_) rfl (by kernel_rfl) (by kernel_rfl) (by kernel_rfl) (fun _ _ _ h => h) (Or.inl ⟨by rfl, ?_⟩) (by assumption) ?_
      rotate_left
      · intro w hSw; (try dsimp only at hSw); go_simp <;> with_reducible rfl
      (try simp only [Act.put, List.setIfInBounds_toArray, List.set_cons_zero, List.set_cons_succ])
      refine wpAnyH_ready (rs := [7]) (by kernel_rfl) (by simp) ?_
      refine AllReadyH.cons rfl (fun K hK => ?_) AllReadyH.nil
      go_simp
      with_reducible refine Calls.mono CC.out ?_
      rintro e w2 ⟨rv, rfl, hrow, hk2⟩
      obtain ⟨gr, cr, hrv⟩ := hrow.someD (by rw [mapTo_len]; exact hM0)
      rw [mapTo_len] at hrv
      subst hrv
      (try go_wp2_with fail)
      have hq := hd.next hk2
      have y1e := hk2.get y1d
      refine hK.out _ _ ?_ (fun hHeld => ?_)
      · (try dsimp only); exact ⟨hq.c1, hq.b1, y1e⟩
      clear hK K
      (try simp only [Act.put, List.setIfInBounds_toArray, List.set_cons_zero, List.set_cons_succ])
      refine wpAnyH_ready (rs := [8]) (by kernel_rfl) (by simp) ?_
      refine AllReadyH.cons rfl (fun K hK => ?_) AllReadyH.nil
      go_simp
      have hka : Kp w2 (w2.alloc (.cells #[.slice (some ⟨gr, 0, none⟩) M cr] 24)) := (Kp.refl w2).alloc _
      have hqa := hq.next hka
      refine hK.out _ _ ?_ (fun hHeld => ?_)
      · (try dsimp only); exact ⟨hqa.c1, hqa.b1, hka.get y1e⟩
      clear hK K
      (try simp only [Act.put, List.setIfInBounds_toArray, List.set_cons_zero, List.set_cons_succ])
      refine wpAnyH_ready (rs := [9]) (by kernel_rfl) (by simp) ?_
      refine AllReadyH.cons rfl (fun K hK => ?_) AllReadyH.nil
      refine step_apph (by rfl) (.tmp 17) (.tmp 24) (by rfl) (bf + 1) dv j _ (.slice (some ⟨gr, 0, none⟩) M cr) ⟨w2.heap.size, 0, none⟩ rfl (by rfl) (by rfl) hqa.di.hd (by rw [World.cell?_alloc_at _ _ _ _ rfl]; rfl) hqa.size hj2 ?_
      intro v2 w3 ho2 ht2 h42
      obtain ⟨A2, c2, hv2⟩ := ownh_shape ho2
      subst hv2
      obtain ⟨g0, g1⟩ := hqa.stay ht2
      have hgr := (hrow.lt gr rfl).1
      have hszw : bf + 1 ≤ wr.heap.size := hos.size
      have hrow2 : Own (w2.alloc (.cells #[.slice (some ⟨gr, 0, none⟩) M cr] 24)) (bf + 1) (.slice (some ⟨gr, 0, none⟩) M cr) (mapTo (f j) M) := (hrow.mono (by exact hszw)).kp hka
      rw [hM] at ho2
      have hd2 := (hM ▸ hqa.di : DMat _ (bf + 1) dv j M B' Cp' f).push ht2 ho2 hrow2 (fun i hi => by have := (hos.di.lt hi).2; show B' i ≠ gr; exact Nat.ne_of_lt (Nat.lt_of_lt_of_le this hgr))
      have hst2 := hqa.set ht2 (hM.symm ▸ hd2)
      refine hK.out _ _ ?_ (fun hHeld => ?_)
      · (try dsimp only); exact ⟨g0, turn_cellD ht2 hqa.b1 (fun e => by have h5 : bf + 1 ≤ w.heap.size := (hqa.di.vlt _ e).1; have h6 := hqa.lo; omega), turn_cellD ht2 (hka.get y1e) (fun e => by have h5 := (hos.di.vlt g e).1; have h6 := hm0.glt.2; have h7 := hos.lo; omega)⟩
      clear hK K
      (try simp only [Act.put, List.setIfInBounds_toArray, List.set_cons_zero, List.set_cons_succ])
      refine wpAnyH_take (i := 10) (v := ?_) rfl (by kernel_rfl) (by kernel_rfl) (by kernel_rfl) (fun _ _ _ h => h) (Or.inl ⟨by rfl, ?_⟩) (by assumption) ?_
      rotate_left
      · intro w hSw; (try dsimp only at hSw); go_simp <;> with_reducible rfl
      (try simp only [Act.put, List.setIfInBounds_toArray, List.set_cons_zero, List.set_cons_succ])
      refine wpAnyH_done (by kernel_rfl) ?_ _
      change Oper.wp _ _ _ _ _ _
      go_simp
      go_wp2_with fail
      go_roundw
      case rel => exact ⟨j + 1, _, _, _, by go_num, by omega, hst2.congr (fun i hi => by
        by_cases e : i = j
        · rw [e, upd_at]
        · rw [upd_ne e])⟩
      case measure => simp [intOf]; omega
    · obtain rfl : j = J := by omega
      obtain ⟨A2, c2, hv2⟩ := hos.di.shape
      subst hv2
      have q0 := hos.c0
      have q1 := hos.c1
      have q2 := hos.b1
      have HS := Lib.hid hos
      clear hos
      go_wp2_with (first | (refine wpList_store_mid rfl 27 (.tmp 2) (.tmp 27) rfl (w.heap.size + 1) 0 #[.slice (some ⟨gv, 0, none⟩) M cv, .slice A2 j c2] rfl rfl HS.out.rt (by kernel_rfl) (by simp [Value.oneCell']) ?_) | fail)
      have ts := turn_setCellsD (w.heap.size + 1) [.slice (some ⟨gv, 0, none⟩) M cv, .slice A2 j c2] 0 wr
      have hrg := World.rangeAt_setCells_same wr (w.heap.size + 1) 0 [.slice (some ⟨gv, 0, none⟩) M cv, .slice A2 j c2] HS.out.rt
      have z0 := hrg 0 _ rfl
      have z1 := hrg 1 _ rfl
      exact bodyPost_ret (v := .agg #[.slice (some ⟨gv, 0, none⟩) M cv, .slice A2 j c2]) (by simp [results, Tryz.results121, go_sem, z0, z1]) rfl ⟨_, _, _, _, rfl, (HS.out.rf.low ts (fun i hi => by omega)).mono (by omega), HS.out.kp.turn ts (fun i hi => by omega)⟩
end Go.Proofs.YtpiijhfjliolfaaGreat

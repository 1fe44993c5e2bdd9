/- The reference sends one unit. No condition. -/
import Derived.Test.YtpiijhfjliolfaaGreatQAo
namespace Go.Proofs.YtpiijhfjliolfaaGreat
open Go.RowKit Go.Sort

/-- A net lies below. -/
structure NetLo (L : NetL) (J bl : Nat) : Prop where
  gn : 0 < J → L.gn < bl
  g : 0 < J → L.g < bl
  gm : 0 < J → L.gm < bl
  gr : L.gr < bl
  bk : ∀ j, j < J → L.Bk j < bl
  bm : ∀ j, j < J → L.Bm j < bl
theorem NetS.lo {w : World} {base : Nat} {L : NetL} {J M : Nat} {nl lf : Nat → Int} {fl : Nat → Nat → Int} {may : Nat → Nat → Bool} (h : NetS w base L J M nl lf fl may) {bl : Nat} (hb : w.heap.size ≤ bl) : NetLo L J bl :=
  ⟨fun hj => Nat.lt_of_lt_of_le ((h.nd hj).lt L.gn rfl).2 hb, fun hj => Nat.lt_of_lt_of_le (h.fl hj).glt.2 hb, fun hj => Nat.lt_of_lt_of_le (World.ownsRow.lt (h.mh hj) L.gm rfl).2 hb, Nat.lt_of_lt_of_le (h.rm.lt L.gr rfl).2 hb, fun j hj => Nat.lt_of_lt_of_le ((h.fl (by omega)).lt hj).2 hb, fun j hj => Nat.lt_of_lt_of_le (World.ownsRow.lt (h.mr j hj) (L.Bm j) rfl).2 hb⟩
/-- Something else is written. -/
theorem NetS.turnB {w w' : World} {base : Nat} {L : NetL} {J M : Nat} {nl lf : Nat → Int} {fl : Nat → Nat → Int} {may : Nat → Nat → Bool} {b bl : Nat} (h : NetS w base L J M nl lf fl may) (hl : NetLo L J bl) (ht : Turn (fun i => i = b) w w') (hb : bl ≤ b) : NetS w' base L J M nl lf fl may := by
  have own : ∀ {g n c : Nat} {xs : List Int}, Own w base (.slice (some ⟨g, 0, none⟩) n c) xs → g < bl → Own w' base (.slice (some ⟨g, 0, none⟩) n c) xs := fun {g n c xs} o hg => o.other ht (by omega)
  refine ⟨fun hj => own (h.nd hj) (hl.gn hj), h.na, own h.rm hl.gr, h.fa, fun hj => (h.fl hj).turn ht (fun e => ?_) (fun j hj' e => ?_), h.ma, fun hj => own_turn (h.mh hj) ht (fun k hk e => ?_), fun j hj => own_turn (h.mr j hj) ht (fun k hk e => ?_), h.a1, h.a2⟩
  · have := hl.g hj; omega
  · have := hl.bk j hj'; omega
  · have := hl.gm hj; have := slb hk; omega
  · have := hl.bm j hj; have := slb hk; omega
theorem Turn.new {S : Nat → Prop} {a w w' : World} {b : Nat} (h : Turn S a w) (ht : Turn (fun i => i = b) w w') (hb : a.heap.size ≤ b) : Turn S a w' :=
  ⟨ht.os.trans h.os, ht.tape.trans h.tape, ht.output.trans h.output, Nat.le_trans h.size ht.size, fun k hk hs => (ht.block k (Nat.lt_of_lt_of_le hk h.size) (fun e => by omega)).trans (h.block k hk hs)⟩
theorem range_new' (w : World) (vs : List Value) (t : TypeId) {n : Nat} (hn : w.heap.size = n) : (w.alloc (.cells vs.toArray t)).rangeAt n 0 vs := fun j v hv => by
  subst hn
  rw [World.cell?_alloc_at _ _ _ _ rfl]
  simp [hv]
/-- While a unit is sent. -/
structure SdS (w wr : World) (base bl : Nat) (L : NetL) (J M : Nat) (nl lf : Nat → Int) (fl : Nat → Nat → Int) (may : Nat → Nat → Bool) (gc gs gb gf : Nat) (cl si be fr : List Int) : Prop where
  n : NetS wr base L J M nl lf fl may
  l : LabM wr bl gc gs gb gf J M cl si be fr
  rp : wr.rangeAt (w.heap.size + 1) 0 [.slice (some ⟨gc, 0, none⟩) J J, .slice (some ⟨gs, 0, none⟩) M M, .slice (some ⟨gb, 0, none⟩) J J, .slice (some ⟨gf, 0, none⟩) M M]
  rn : wr.rangeAt (w.heap.size + 1 + 1 + 1) 0 [.slice L.nA J L.cn, .slice (some ⟨L.gr, 0, none⟩) M L.cr, .slice L.fA J L.cf, .slice L.mA J L.cm]
  rt : wr.there (w.heap.size + 1 + 1) 0 4
  tw : Turn (fun i => base ≤ i ∧ i < bl) w wr
section
variable {w wr w' : World} {base bl : Nat} {L : NetL} {J M : Nat} {nl lf nl' lf' : Nat → Int} {fl fl' : Nat → Nat → Int} {may : Nat → Nat → Bool} {gc gs gb gf : Nat} {cl si be fr : List Int}
theorem SdS.go (h : SdS w wr base bl L J M nl lf fl may gc gs gb gf cl si be fr) (hk : Kp wr w') : SdS w w' base bl L J M nl lf fl may gc gs gb gf cl si be fr :=
  ⟨h.n.kp hk, h.l.kp hk, range_kp h.rp hk, range_kp h.rn hk, there_kp h.rt hk, h.tw.trans (Turn.of_kp hk)⟩
theorem SdS.step (h : SdS w wr base bl L J M nl lf fl may gc gs gb gf cl si be fr) (hbl : bl ≤ w.heap.size) {b : Nat} (hn : NetS w' base L J M nl' lf' fl' may) (ht : Turn (fun i => i = b) wr w') (hb : base ≤ b ∧ b < bl) : SdS w w' base bl L J M nl' lf' fl' may gc gs gb gf cl si be fr :=
  ⟨hn, h.l.turnS ht (fun k hk e => by omega), ht.range h.rp (by omega), ht.range h.rn (by omega), ht.there h.rt (by omega), h.tw.trans (ht.mono fun i e => by subst e; exact hb)⟩
theorem SdS.path (h : SdS w wr base bl L J M nl lf fl may gc gs gb gf cl si be fr) : wr.cell? ⟨w.heap.size + 1, 2, none⟩ = some (.slice (some ⟨gb, 0, none⟩) J J) ∧ wr.cell? ⟨w.heap.size + 1, 3, none⟩ = some (.slice (some ⟨gf, 0, none⟩) M M) := ⟨h.rp 2 _ rfl, h.rp 3 _ rfl⟩
theorem SdS.net (h : SdS w wr base bl L J M nl lf fl may gc gs gb gf cl si be fr) (hJ : 0 < J) : wr.cell? ⟨w.heap.size + 1 + 1 + 1, 0, none⟩ = some (.slice (some ⟨L.gn, 0, none⟩) J L.cn) ∧ wr.cell? ⟨w.heap.size + 1 + 1 + 1, 1, none⟩ = some (.slice (some ⟨L.gr, 0, none⟩) M L.cr) ∧ wr.cell? ⟨w.heap.size + 1 + 1 + 1, 2, none⟩ = some (.slice (some ⟨L.g, 0, none⟩) J L.cf) :=
  ⟨by rw [← h.n.na hJ]; exact h.rn 0 _ rfl, h.rn 1 _ rfl, by rw [← h.n.fa hJ]; exact h.rn 2 _ rfl⟩
theorem fl_bd {d : Nat → Nat → Int} {rm : Nat → Int} (hn : Net J M d may rm fl lf) (hrm : ∀ x, x < M → rm x ≤ 1000) {i x : Nat} (hi : i < J) (hx : x < M) : 0 ≤ fl i x ∧ fl i x ≤ 1000 := by
  have h1 := hn.nn i x hi hx
  have h2 := hn.col x hx
  have h3 := hn.lf0 x hx
  have h4 := hrm x hx
  have h5 : fl i x ≤ colT J fl x := sumTo_ge (g := fun j => fl j x) (fun j hj => hn.nn j x hj hx) hi
  omega
theorem sns_bd {d : Nat → Nat → Int} {rm pc ps : Nat → Int} {tm : Nd → Nat} {best j : Nat} (hn : Net J M d may rm fl lf) (hrm : ∀ x, x < M → rm x ≤ 1000) (h : Sns J M d may fl pc ps cl si tm best j fl') {i x : Nat} (hi : i < J) (hx : x < M) : 0 ≤ fl' i x ∧ fl' i x ≤ 1001 := by
  have h1 := h.nn i x hi hx
  have h2 := hn.col x hx
  have h3 := hn.lf0 x hx
  have h4 := hrm x hx
  have h5 : fl' i x ≤ colT J fl' x := sumTo_ge (g := fun j => fl' j x) (fun j hj => h.nn j x hj hx) hi
  have h6 := h.col x hx
  split at h6 <;> omega
end
def SendPost (w : World) (base : Nat) (L : NetL) (J M : Nat) (d : Nat → Nat → Int) (may : Nat → Nat → Bool) (rm nl lf : Nat → Int) (fl : Nat → Nat → Int) (best bl : Nat) (e : Ending) (w' : World) : Prop :=
  ∃ (f' : Nat → Nat → Int) (j0 : Nat), e = .returned (L.val J M) ∧ NetS w' base L J M (upd nl j0 (nl j0 - 1)) (upd lf best (lf best - 1)) f' may ∧ Net J M d may rm f' (upd lf best (lf best - 1)) ∧ j0 < J ∧ nl j0 ≠ 0 ∧ (∀ i, i < J → rowS M f' i = rowS M fl i + if i = j0 then 1 else 0) ∧ Turn (fun i => base ≤ i ∧ i < bl) w w'
set_option maxRecDepth 100000 in
set_option maxHeartbeats 4000000 in
theorem l7Send_any (L : NetL) (J M : Nat) (d : Nat → Nat → Int) (may : Nat → Nat → Bool) (rm nl lf : Nat → Int) (fl : Nat → Nat → Int) (base bl gc gs gb gf : Nat) (cl si be fr : List Int) (pc ps : Nat → Int) (T : Int) (best : Nat) (w : World)
    (hn : NetS w base L J M nl lf fl may) (hlab : LabM w bl gc gs gb gf J M cl si be fr) (hlt : NetLo L J bl) (hbl : bl ≤ w.heap.size) (hN : Net J M d may rm fl lf) (hP : Pot J M d may fl lf pc ps T) (hB : Bss J M d may fl pc ps nl cl si be fr) (hS : StopS J M d may fl cl si) (hL : Lab J M d may fl (lget cl) (lget si) (rsI cl) (rsI si)) (hbest : BestS M lf si best)
    (hJ : J ≤ 7) (hM : M ≤ 7) (hnl : ∀ j, 0 ≤ nl j ∧ nl j ≤ 1000) (hrm : ∀ x, x < M → rm x ≤ 1000) :
    Calls Tryz.prog 110 #[L.val J M, .agg #[.slice (some ⟨gc, 0, none⟩) J J, .slice (some ⟨gs, 0, none⟩) M M, .slice (some ⟨gb, 0, none⟩) J J, .slice (some ⟨gf, 0, none⟩) M M], .int .i64 (best : Int)] w (SendPost w base L J M d may rm nl lf fl best bl) := by
  have H3 := Lib.hid hlt; have HN := Lib.hid hN; have HP := Lib.hid hP; have HB := Lib.hid hB; have HS := Lib.hid hS; have HL := Lib.hid hL; have HBe := Lib.hid hbest; have Hnl := Lib.hid hnl; have Hrm := Lib.hid hrm
  have hbM := hbest.lt
  obtain ⟨tm, now, ht⟩ := hB.tree
  have HT := Lib.hid ht
  obtain ⟨j0, hf0, hjJ, hr0, hle0, htg0, hbf0⟩ := hB.parent ht hS hbM hbest.reach (Int.le_refl _)
  have hJ0 : 0 < J := by omega
  have hs : SdS w ((((w.alloc (.cells #[.slice L.nA J L.cn, .slice (some ⟨L.gr, 0, none⟩) M L.cr, .slice L.fA J L.cf, .slice L.mA J L.cm] 90)).alloc (.cells #[.slice (some ⟨gc, 0, none⟩) J J, .slice (some ⟨gs, 0, none⟩) M M, .slice (some ⟨gb, 0, none⟩) J J, .slice (some ⟨gf, 0, none⟩) M M] 109)).alloc (.cells #[.slice none 0 0, .slice none 0 0, .slice none 0 0, .slice none 0 0] 90)).alloc (.cells #[.slice L.nA J L.cn, .slice (some ⟨L.gr, 0, none⟩) M L.cr, .slice L.fA J L.cf, .slice L.mA J L.cm] 90)) base bl L J M nl lf fl may gc gs gb gf cl si be fr := by
    have hk : Kp w ((((w.alloc (.cells #[.slice L.nA J L.cn, .slice (some ⟨L.gr, 0, none⟩) M L.cr, .slice L.fA J L.cf, .slice L.mA J L.cm] 90)).alloc (.cells #[.slice (some ⟨gc, 0, none⟩) J J, .slice (some ⟨gs, 0, none⟩) M M, .slice (some ⟨gb, 0, none⟩) J J, .slice (some ⟨gf, 0, none⟩) M M] 109)).alloc (.cells #[.slice none 0 0, .slice none 0 0, .slice none 0 0, .slice none 0 0] 90)).alloc (.cells #[.slice L.nA J L.cn, .slice (some ⟨L.gr, 0, none⟩) M L.cr, .slice L.fA J L.cf, .slice L.mA J L.cm] 90)) := (((((Kp.refl w).alloc _).alloc _).alloc _).alloc _)
    refine ⟨hn.kp hk, hlab.kp hk, ?_, ?_, ?_, Turn.of_kp hk⟩
    · exact World.rangeAt_alloc (World.rangeAt_alloc (range_new' _ [.slice (some ⟨gc, 0, none⟩) J J, .slice (some ⟨gs, 0, none⟩) M M, .slice (some ⟨gb, 0, none⟩) J J, .slice (some ⟨gf, 0, none⟩) M M] _ (by simp only [World.size_alloc])) _) _
    · exact range_new' _ [.slice L.nA J L.cn, .slice (some ⟨L.gr, 0, none⟩) M L.cr, .slice L.fA J L.cf, .slice L.mA J L.cm] _ (by simp only [World.size_alloc])
    · exact World.there_alloc (there_new' _ _ _ (by simp only [World.size_alloc])) _
  have H0 := Lib.hid hs
  have HSN := Lib.hid (Sns.start (tm := tm) (pc := pc) (fun i x hi hx => (fl_bd hN hrm hi hx).1) hbM hjJ hr0 hle0 htg0)
  unfold NetL.val
  clear hn hlab hlt hN hP hB hS hL hbest hnl hrm ht hs hle0 hr0 htg0 hbf0
  go_enter Tryz.func110, Tryz.ntmps110
  go_wp2_with fail
  obtain ⟨wb, Hwb⟩ : ∃ wb : World, Hid (wb = ((((w.alloc (.cells #[.slice L.nA J L.cn, .slice (some ⟨L.gr, 0, none⟩) M L.cr, .slice L.fA J L.cf, .slice L.mA J L.cm] 90)).alloc (.cells #[.slice (some ⟨gc, 0, none⟩) J J, .slice (some ⟨gs, 0, none⟩) M M, .slice (some ⟨gb, 0, none⟩) J J, .slice (some ⟨gf, 0, none⟩) M M] 109)).alloc (.cells #[.slice none 0 0, .slice none 0 0, .slice none 0 0, .slice none 0 0] 90)).alloc (.cells #[.slice L.nA J L.cn, .slice (some ⟨L.gr, 0, none⟩) M L.cr, .slice L.fA J L.cf, .slice L.mA J L.cm] 90))) := ⟨_, rfl⟩
  rw [← Hwb.out] at H0 ⊢
  clear Hwb
  have hlf : 0 < lf best ∧ lf best ≤ 1000 := by
    have h1 := HBe.out.room
    have h2 := HN.out.col best hbM
    have h3 := Hrm.out best hbM
    have h4 : 0 ≤ colT J fl best := sumTo_nn (fun j hj => HN.out.nn j best hj hbM)
    omega
  obtain ⟨c1, c2, c3, c4⟩ := H0.out.n.setRoom hbM
  obtain ⟨q0, q1, q2⟩ := H0.out.net hJ0
  obtain ⟨o1, t1⟩ := c4 (lf best - 1)
  have hs1 := (H0.out.step hbl o1 t1 ⟨c3, H3.out.gr⟩).go (Kp.refl _).drew
  obtain ⟨p2, p3⟩ := hs1.path
  obtain ⟨f1, _, _⟩ := hs1.l.of.slotL HB.out.lfr hbM
  rw [hf0] at f1
  have H1 := Lib.hid hs1
  obtain ⟨lb, Hlb⟩ : ∃ z, Hid (lf best = z) := ⟨_, rfl⟩
  rw [Hlb.out] at c1 H1 p2 p3 f1 hlf
  have hbI : (best : Int) < (M : Int) := by omega
  have hjI : (j0 : Int) < (J : Int) := by omega
  have ad1 : (⟨L.gr, 0, none⟩ : Addr).add best = ⟨L.gr, best, none⟩ := add0 _ _
  have ad2 : (⟨gf, 0, none⟩ : Addr).add best = ⟨gf, best, none⟩ := add0 _ _
  have ad3 : (⟨L.g, 0, none⟩ : Addr).add j0 = ⟨L.g, j0, none⟩ := add0 _ _
  have ad4 : (⟨L.Bk j0, 0, none⟩ : Addr).add best = ⟨L.Bk j0, best, none⟩ := add0 _ _
  have hwl : IntKind.i64.wrap (lb - 1) = lb - 1 := IntWalk.i64_in _ (by omega)
  clear c4 o1 t1 hs1 H0
  go_region
  go_wp2_with fail
  clear c1 c2 c3 q0 q1 q2 p2 p3 f1
  generalize (wb.setCell ⟨L.gr, best, none⟩ (.int .i64 (lb - 1))).drew = wa at *
  obtain ⟨c1, c2, c3, c4, c5⟩ := H1.out.n.setFlow hjJ hbM
  obtain ⟨q0, q1, q2⟩ := H1.out.net hJ0
  have hfb := fl_bd HN.out Hrm.out hjJ hbM
  obtain ⟨o1, t1⟩ := c5 (fl j0 best + 1)
  have hs1 := (H1.out.step hbl o1 t1 ⟨c4, H3.out.bk j0 hjJ⟩).go (Kp.refl _).drew
  have H2 := Lib.hid hs1
  obtain ⟨fv, Hfv⟩ : ∃ z, Hid (fl j0 best = z) := ⟨_, rfl⟩
  rw [Hfv.out] at c2 H2 hfb HSN
  have hwf : IntKind.i64.wrap (fv + 1) = fv + 1 := IntWalk.i64_in _ (by omega)
  clear c5 o1 t1 hs1 H1
  go_region
  go_wp2_with fail
  clear c1 c2 c3 c4 q0 q1 q2 hfb
  generalize (wa.setCell ⟨L.Bk j0, best, none⟩ (.int .i64 (fv + 1))).drew = wz at *
  go_loopw [8] (fun jv wr => ∃ (j : Nat) (f' : Nat → Nat → Int), jv = .int .i64 j ∧ Hid (SdS w wr base bl L J M nl (upd lf best (lb - 1)) f' may gc gs gb gf cl si be fr) ∧ Hid (Sns J M d may fl pc ps cl si tm best j f')) (fun jv _ => cntN (allN J M) (pS pc ps) (lS cl si) tm (.inl (intOf jv).toNat))
  case atStart => exact ⟨j0, _, rfl, H2, HSN⟩
  case round =>
    clear H2 HSN Hfv hwf
    obtain ⟨j, f', rfl, HSd, HSn⟩ := hrel
    obtain ⟨hjJ, hrj, hlj⟩ := HSn.out.cur
    obtain ⟨p2, p3⟩ := HSd.out.path
    obtain ⟨b1, _, _⟩ := HSd.out.l.ob.slotL HB.out.lbe hjJ
    have hjI : (j : Int) < (J : Int) := by omega
    have ad5 : (⟨gb, 0, none⟩ : Addr).add j = ⟨gb, j, none⟩ := add0 _ _
    rcases HB.out.before HT.out hjJ hrj hlj with ⟨hneg, hnz⟩ | ⟨a, hba, haM, hfa, hra, hla, hba2⟩
    · obtain ⟨bv, Hbv⟩ : ∃ z, Hid (lget be j = z) := ⟨_, rfl⟩
      rw [Hbv.out] at b1 hneg
      obtain ⟨q0, q1, q2⟩ := HSd.out.net hJ0
      obtain ⟨c1, c2, c3, c4⟩ := HSd.out.n.setNeed hjJ
      obtain ⟨o1, t1⟩ := c4 (nl j - 1)
      have hs1 := (HSd.out.step hbl o1 t1 ⟨c3, H3.out.gn hJ0⟩).go (Kp.refl _).drew
      have H4 := Lib.hid hs1
      have hnb := Hnl.out j
      have hrn0 := hs1.rn 0 _ rfl
      have hrn1 := hs1.rn 1 _ rfl
      have hrn2 := hs1.rn 2 _ rfl
      have hrn3 := hs1.rn 3 _ rfl
      simp only [Nat.zero_add] at hrn0 hrn1 hrn2 hrn3
      have HX := Lib.hid (World.rangeAt_setCells_same _ (w.heap.size + 1 + 1) 0 [.slice L.nA J L.cn, .slice (some ⟨L.gr, 0, none⟩) M L.cr, .slice L.fA J L.cf, .slice L.mA J L.cm] hs1.rt)
      have htn := turn_setCells (w.heap.size + 1 + 1) [.slice L.nA J L.cn, .slice (some ⟨L.gr, 0, none⟩) M L.cr, .slice L.fA J L.cf, .slice L.mA J L.cm] 0 (((wr.setCell ⟨L.gn, j, none⟩ (.int .i64 (nl j - 1)))).drew)
      have hpost : SendPost w base L J M d may rm nl lf fl best bl (.returned (.agg #[.slice L.nA J L.cn, .slice (some ⟨L.gr, 0, none⟩) M L.cr, .slice L.fA J L.cf, .slice L.mA J L.cm])) (((wr.setCell ⟨L.gn, j, none⟩ (.int .i64 (nl j - 1)))).drew.setCells (w.heap.size + 1 + 1) 0 [.slice L.nA J L.cn, .slice (some ⟨L.gr, 0, none⟩) M L.cr, .slice L.fA J L.cf, .slice L.mA J L.cm]) := by
        refine ⟨f', j, rfl, by rw [Hlb.out]; exact hs1.n.turnB H3.out htn (by omega), Sns.net HN.out HP.out HBe.out HL.out HSn.out, hjJ, hnz, HSn.out.row, ?_⟩
        exact hs1.tw.new htn (by omega)
      have HPost := Lib.hid hpost
      have HRT := Lib.hid hs1.rt
      obtain ⟨nv, Hnv⟩ : ∃ z, Hid (nl j = z) := ⟨_, rfl⟩
      rw [Hnv.out] at c1 H4 hrn0 hrn1 hrn2 hrn3 HX HPost HRT hnb
      have hwn : IntKind.i64.wrap (nv - 1) = nv - 1 := IntWalk.i64_in _ (by omega)
      have ad6 : (⟨L.gn, 0, none⟩ : Addr).add j = ⟨L.gn, j, none⟩ := add0 _ _
      clear c4 o1 t1 hs1 htn hpost hrn0 hrn1 hrn2 hrn3
      go_wp2_with fail
      go_region
      clear c1 c2 c3 q0 q1 q2 p2 p3 b1
      have hrn0 := H4.out.rn 0 _ rfl
      have hrn1 := H4.out.rn 1 _ rfl
      have hrn2 := H4.out.rn 2 _ rfl
      have hrn3 := H4.out.rn 3 _ rfl
      simp only [Nat.zero_add] at hrn0 hrn1 hrn2 hrn3
      generalize (wr.setCell ⟨L.gn, j, none⟩ (.int .i64 (nv - 1))).drew = wx at *
      go_wp2_with (first | (refine wpList_store_mid rfl 90 (.tmp 6) (.tmp 100) rfl (w.heap.size + 1 + 1) 0 #[.slice L.nA J L.cn, .slice (some ⟨L.gr, 0, none⟩) M L.cr, .slice L.fA J L.cf, .slice L.mA J L.cm] rfl rfl HRT.out (by kernel_rfl) (by simp [Value.oneCell']) ?_) | fail)
      have z0 := HX.out 0 _ rfl
      have z1 := HX.out 1 _ rfl
      have z2 := HX.out 2 _ rfl
      have z3 := HX.out 3 _ rfl
      simp only [Nat.zero_add] at z0 z1 z2 z3
      exact bodyPost_ret (v := .agg #[.slice L.nA J L.cn, .slice (some ⟨L.gr, 0, none⟩) M L.cr, .slice L.fA J L.cf, .slice L.mA J L.cm]) (by simp [results, Tryz.results110, go_sem, z0, z1, z2, z3]) rfl HPost.out
    · obtain ⟨i, hfi, hiJ, hri, hli, htg, hbi⟩ := HB.out.parent HT.out HS.out haM hra hla
      obtain ⟨hpos, hSn⟩ := HSn.out.step haM hfa hba2 hiJ hri hli htg hbi
      rw [hba] at b1
      obtain ⟨q0, q1, q2⟩ := HSd.out.net hJ0
      obtain ⟨c1, c2, c3, c4, c5⟩ := HSd.out.n.setFlow hjJ haM
      have hfb := sns_bd HN.out Hrm.out HSn.out hjJ haM
      obtain ⟨o1, t1⟩ := c5 (f' j a - 1)
      have hs1 := (HSd.out.step hbl o1 t1 ⟨c4, H3.out.bk j hjJ⟩).go (Kp.refl _).drew
      obtain ⟨y2, y3⟩ := hs1.path
      obtain ⟨f1, _, _⟩ := hs1.l.of.slotL HB.out.lfr haM
      rw [hfi] at f1
      have H4 := Lib.hid hs1
      have HSn2 := Lib.hid hSn
      obtain ⟨fv, Hfv⟩ : ∃ z, Hid (f' j a = z) := ⟨_, rfl⟩
      rw [Hfv.out] at c2 H4 hfb HSn2 hpos y2 y3 f1
      have hwf : IntKind.i64.wrap (fv - 1) = fv - 1 := IntWalk.i64_in _ (by omega)
      have haI : (a : Int) < (M : Int) := by omega
      have hiI : (i : Int) < (J : Int) := by omega
      have ad6 : (⟨L.g, 0, none⟩ : Addr).add j = ⟨L.g, j, none⟩ := add0 _ _
      have ad7 : (⟨L.Bk j, 0, none⟩ : Addr).add a = ⟨L.Bk j, a, none⟩ := add0 _ _
      have ad8 : (⟨gf, 0, none⟩ : Addr).add a = ⟨gf, a, none⟩ := add0 _ _
      have ad9 : (⟨L.g, 0, none⟩ : Addr).add i = ⟨L.g, i, none⟩ := add0 _ _
      have ad10 : (⟨L.Bk i, 0, none⟩ : Addr).add a = ⟨L.Bk i, a, none⟩ := add0 _ _
      have hmeas := cnt_lt (nodes := allN J M) (p := pS pc ps) (l := lS cl si) (tm := tm) (u := .inl i) (v := .inl j) (allN_l hiJ) (befN_iff.1 (befN_trans hbi hba2))
      have HMe := Lib.hid hmeas
      clear c5 o1 t1 hs1 hSn hfi hba hmeas
      go_wp2_with fail
      go_region
      go_wp2_with fail
      clear c1 c2 c3 c4 q0 q1 q2 p2 p3 b1 y2 y3 f1 HSd
      generalize (wr.setCell ⟨L.Bk j, a, none⟩ (.int .i64 (fv - 1))).drew = wx at *
      obtain ⟨q0, q1, q2⟩ := H4.out.net hJ0
      obtain ⟨c1, c2, c3, c4, c5⟩ := H4.out.n.setFlow hiJ haM
      have hfb2 : -1 ≤ upd2 f' j a (fv - 1) i a ∧ upd2 f' j a (fv - 1) i a ≤ 1001 := by
        have := sns_bd HN.out Hrm.out HSn.out hiJ haM
        by_cases e : i = j
        · subst e; rw [upd2_at]; omega
        · rw [upd2_ne (.inl e)]; omega
      obtain ⟨o1, t1⟩ := c5 (upd2 f' j a (fv - 1) i a + 1)
      have hs1 := (H4.out.step hbl o1 t1 ⟨c4, H3.out.bk i hiJ⟩).go (Kp.refl _).drew
      have H5 := Lib.hid hs1
      obtain ⟨fu, Hfu⟩ : ∃ z, Hid (upd2 f' j a (fv - 1) i a = z) := ⟨_, rfl⟩
      rw [Hfu.out] at c2 H5 hfb2 HSn2
      have hwu : IntKind.i64.wrap (fu + 1) = fu + 1 := IntWalk.i64_in _ (by omega)
      clear c5 o1 t1 hs1
      go_region
      (try go_wp2_with fail)
      go_roundw
      case rel => exact ⟨i, _, rfl, H5, HSn2⟩
      case measure => simp [intOf]; exact HMe.out
end Go.Proofs.YtpiijhfjliolfaaGreat

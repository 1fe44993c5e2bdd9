/- The field with some clients alone: the walks; The cost of a set of clients: reference and program; GainTable: reference and program; CostOfClients and CostTable: reference and program; A slice of the call's own: one slot read and written; one that was made; Marginal shares added to what stands there: the program; slices.Sort and slices.Reverse of a slice of numbers of the call's own: laid (by layp.py), and what they leave. No condition. -/
import Derived.Test.YtggkhieepjnmdaaGreatMsAf
import Derived.Deep.AppendLies
import Derived.Deep.RegionLaw
import Derived.Test.YtggkhieepjnmdaaGreatMsAe
import Derived.Test.YtggkhieepjnmdaaGreatMsAc
import Derived.Test.YtggkhieepjnmdaaGreatMsAb
import Derived.Test.YtggkhieepjnmdaaGreatMsAd
import Derived.StillTailTactics
import Derived.Test.YtggkhieepjnmdaaGreatMsAa
import Derived.Shelf.Sort.Plain
import Derived.Shelf.Slices.Reverse
import Derived.Lib.OwnBridge
import Derived.Lib.AppendIntMem
namespace Go.Proofs.YtggkhieepjnmdaaGreat
open Go.RowKit Go.Sort

def f2 (a b : Value) (j : Nat) : Value := if j = 0 then a else b
theorem row2f (w : World) (a b : Value) (t : TypeId) : (w.alloc (.cells #[a, b] t)).rowIs w.heap.size t 2 (f2 a b) :=
  World.rowIs_alloc w #[a, b] t _ (fun i hi => by
    have : i = 0 ∨ i = 1 := by simp at hi; omega
    rcases this with rfl | rfl <;> rfl)
theorem at2 {w : World} {g : Nat} {t : TypeId} {a b : Value} (h : w.rowIs g t 2 (f2 a b)) :
    w.cell? ⟨g, 0, none⟩ = some a ∧ w.cell? ⟨g, 1, none⟩ = some b ∧ ∀ j, w.frozen? ⟨g, j, none⟩ = false :=
  ⟨h.cell (i := 0) (by omega), h.cell (i := 1) (by omega), fun j => h.frozen j⟩
theorem set2 {w : World} {g : Nat} {t : TypeId} {a b : Value} (h : w.rowIs g t 2 (f2 a b)) (v : Value) :
    (w.setCell ⟨g, 0, none⟩ v).rowIs g t 2 (f2 v b) ∧ (w.setCell ⟨g, 1, none⟩ v).rowIs g t 2 (f2 a v) := by
  refine ⟨(h.set 0 v).congr ?_, (h.set 1 v).congr ?_⟩ <;>
    (intro i hi
     have : i = 0 ∨ i = 1 := by omega
     rcases this with rfl | rfl <;> rfl)
theorem row_turn {S : Nat → Prop} {w w' : World} {g n : Nat} {t : TypeId} {f : Nat → Value} (h : w.rowIs g t n f) (ht : Turn S w w') (hn : ¬ S g) : w'.rowIs g t n f := h.of_block (ht.block g h.lt hn)
theorem setCell_turn (w : World) (p : Addr) (v : Value) : Turn (fun i => i = p.block) w (w.setCell p v) :=
  ⟨rfl, rfl, rfl, by simp [World.setCell], fun i _ hn => Below.heap_setCell _ _ _ _ (by exact hn)⟩
/-- The loop that gathers the rows: k of them are there. -/
def Gath (w : World) (T R base : Nat) (Ah Bh : Value) (bd : Addr) (C : List Int) (k : Nat) (ov : Value) (wr : World) : Prop :=
  wr.rowIs T 29 2 (f2 Ah ov) ∧ wr.rowIs R 29 2 (f2 (.slice none 0 0) (.slice none 0 0)) ∧ wr.rowIs w.heap.size 29 2 (f2 Ah Bh) ∧ wr.ownsRow base 22 1 ov k (hdrs w bd C k) ∧ (∀ g, ov.ownBlock = some g → g ≠ T) ∧ Kp w wr
/-- A round: a new block, an append, a store. -/
theorem Gath.round {w : World} {T R base : Nat} {Ah Bh : Value} {bd : Addr} {C : List Int} {k : Nat} {ov : Value} {wr : World} (h : Gath w T R base Ah Bh bd C k ov wr) (hk : k < C.length) (hT : w.heap.size < T) (hTR : R ≠ T) (hR : w.heap.size < R) (hb : R < base) {W1 : World} (hk1 : Kp wr W1) {v' : Value} {w' : World} (ho : w'.ownsRow base 22 1 v' (k + 1) (hdrs w bd C k ++ [cvAt (bd.add (C[k]).toNat) w])) (ht : Turn (fun i => ov.ownBlock = some i) W1 w') (h4 : v'.ownBlock = ov.ownBlock ∨ ∀ g, v'.ownBlock = some g → W1.heap.size ≤ g) :
    Kp w w' ∧ w'.rowIs T 29 2 (f2 Ah ov) ∧ w'.rowIs w.heap.size 29 2 (f2 Ah Bh) ∧ Gath w T R base Ah Bh bd C (k + 1) v' (w'.setCell ⟨T, 1, none⟩ v') := by
  obtain ⟨r1, r2, r3, ho0, hap, hkw⟩ := h
  have hlt : ∀ g, ov.ownBlock = some g → base ≤ g := fun g hg => (World.ownsRow.lt ho0 g hg).1
  have t1 := row_turn (hk1.row r1) ht (fun hg => hap _ hg rfl)
  have t2 := row_turn (hk1.row r2) ht (fun hg => by have := hlt _ hg; omega)
  have t3 := row_turn (hk1.row r3) ht (fun hg => by have := hlt _ hg; omega)
  have hkw' : Kp w w' := (hkw.trans hk1).turn ht (fun i hi => by have := hlt i hi; omega)
  have ts := setCell_turn w' ⟨T, 1, none⟩ v'
  have hlT : T < wr.heap.size := r1.lt
  have hap' : ∀ g, v'.ownBlock = some g → g ≠ T := fun g hg => by
    rcases h4 with e | e
    · exact hap g (e ▸ hg)
    · have := e g hg
      have := hk1.le
      omega
  refine ⟨hkw', t1, t3, (set2 t1 v').2, row_turn t2 ts (fun e => hTR e), row_turn t3 ts (fun e => by have e2 : w.heap.size = T := e; omega), ?_, hap', hkw'.setCell (p := ⟨T, 1, none⟩) (by show w.heap.size ≤ T; omega) v'⟩
  rw [hdrs_succ hk]
  exact own_turn ho ts (fun g hg e => hap' g hg e)
theorem own_blk {g' g n c : Nat} (h : (Value.slice (some ⟨g', 0, none⟩) n c).ownBlock = some g) : g' = g := by simpa [Value.ownBlock] using h
theorem gath_keep {w wr w' : World} {T R base : Nat} {Ah Bh : Value} {bd : Addr} {C : List Int} {k : Nat} {ov u : Value} {q : Addr} (h : Gath w T R base Ah Bh bd C k ov wr) (hq : wr.cell? q = some u) (hk : Kp wr w') :
    w'.cell? ⟨w.heap.size, 1, none⟩ = some Bh ∧ w'.cell? q = some u ∧ Kp w w' := by
  obtain ⟨_, _, r3, _, _, hkw⟩ := h
  exact ⟨hk.get (at2 r3).2.1, hk.get hq, hkw.trans hk⟩
theorem gath_keep4 {w w' : World} {T : Nat} {Ah Bh ov u : Value} {q : Addr} {C : Prop} (h : Kp w w' ∧ w'.rowIs T 29 2 (f2 Ah ov) ∧ w'.rowIs w.heap.size 29 2 (f2 Ah Bh) ∧ C) (hq : w.cell? q = some u) :
    w'.cell? ⟨w.heap.size, 1, none⟩ = some Bh ∧ w'.cell? q = some u ∧ Kp w w' :=
  ⟨(at2 h.2.2.1).2.1, h.1.get hq, h.1⟩
theorem gath_keep5 {w w' : World} {T R base : Nat} {Ah Bh : Value} {bd : Addr} {C : List Int} {k : Nat} {ov u : Value} {q : Addr} (h : Gath w T R base Ah Bh bd C k ov w') (hq : w.cell? q = some u) :
    w'.cell? ⟨w.heap.size, 1, none⟩ = some Bh ∧ w'.cell? q = some u ∧ Kp w w' :=
  gath_keep h (h.2.2.2.2.2.get hq) (Kp.refl _)
set_option maxRecDepth 100000 in
set_option maxHeartbeats 2000000 in
theorem only_any (f : Value) (F : Fld) (A0 : Option Addr) (C : List Int) (n c0 : Nat) (w : World) (hf : FldAt w f F) (hC : IntsAt w A0 C) (hn : C.length = n) (hg : goodF F = true) (hc : crowdB F C = true) :
    Calls Tryz.prog 50 #[f, .slice A0 n c0] w fun e w' => ∃ v, e = .returned v ∧ FldAt w' v (partF F C) ∧ Kp w w' := by
  obtain ⟨A, c, B, d, rfl, hA, hB⟩ := hf
  have hn7 : n ≤ 7 := by have := crowd_len hc; have := (goodF_iff.1 hg).2.2.1; omega
  have hnb := hC.1
  have Hn := Lib.hid hn
  have Hm := Lib.hid (crowd_mem hc)
  obtain ⟨bd, hbd⟩ : ∃ bd, C ≠ [] → B = some bd := by
    cases B with
    | some b => exact ⟨b, fun _ => rfl⟩
    | none =>
      refine ⟨⟨0, 0, none⟩, fun hne => ?_⟩
      have h0 := crowd_mem hc _ (List.getElem_mem (List.length_pos_iff.2 hne))
      obtain ⟨b, _, _, e, _⟩ := hB.at_ (k := 0) (by omega)
      cases e
  have HB := Lib.hid (fun hne : C ≠ [] => (hbd hne ▸ hB : GridAt w (some bd) F.di))
  have HA := Lib.hid hA
  replace hbd := Lib.hid hbd
  clear hn hc hg hA
  have r1 := row2f w (.slice A F.op.length c) (.slice B F.di.length d) 29
  have r2 := (row2f (w.alloc (.cells #[.slice A F.op.length c, .slice B F.di.length d] 29)) (.slice none 0 0) (.slice none 0 0) 29).alloc (.cells #[.slice A F.op.length c, .slice none 0 0] 29)
  have r3 := row2f ((w.alloc (.cells #[.slice A F.op.length c, .slice B F.di.length d] 29)).alloc (.cells #[.slice none 0 0, .slice none 0 0] 29)) (.slice A F.op.length c) (.slice none 0 0) 29
  have hkw : Kp w (((w.alloc (.cells #[.slice A F.op.length c, .slice B F.di.length d] 29)).alloc (.cells #[.slice none 0 0, .slice none 0 0] 29)).alloc (.cells #[.slice A F.op.length c, .slice none 0 0] 29)) := (((Kp.refl w).alloc _).alloc _).alloc _
  replace r1 := ((((Kp.refl (w.alloc (.cells #[.slice A F.op.length c, .slice B F.di.length d] 29))).alloc (.cells #[.slice none 0 0, .slice none 0 0] 29)).alloc (.cells #[.slice A F.op.length c, .slice none 0 0] 29))).row r1
  simp only [World.size_alloc] at r1 r2 r3
  have hG0 : Gath w (w.heap.size + 1 + 1) (w.heap.size + 1) (w.heap.size + 1 + 1) (.slice A F.op.length c) (.slice B F.di.length d) bd C 0 (.slice none 0 0) (((w.alloc (.cells #[.slice A F.op.length c, .slice B F.di.length d] 29)).alloc (.cells #[.slice none 0 0, .slice none 0 0] 29)).alloc (.cells #[.slice A F.op.length c, .slice none 0 0] 29)) :=
    ⟨r3, r2, r1, World.ownsRow_nil _ _ _ _, (fun g hg => by simp [Value.ownBlock] at hg), hkw⟩
  clear r1 r2 r3 hkw
  go_enter Tryz.func50, Tryz.ntmps50
  go_wp2_with fail
  go_loopw [13] (fun iv wr => ∃ (k : Nat) (ov : Value), k ≤ n ∧ iv = .int .i64 k ∧ Gath w (w.heap.size + 1 + 1) (w.heap.size + 1) (w.heap.size + 1 + 1) (.slice A F.op.length c) (.slice B F.di.length d) bd C k ov wr) (fun iv _ => n - (intOf iv).toNat)
  case atStart => exact ⟨0, _, by omega, rfl, hG0⟩
  case round =>
    obtain ⟨k, ov, hk, rfl, hG⟩ := hrel
    have hG' := hG
    obtain ⟨r1, r2, r3, ho, hap, hkb⟩ := hG'
    obtain ⟨t0, t1, tf⟩ := at2 r1
    obtain ⟨z0, z1, _⟩ := at2 r3
    by_cases hlt : k < n
    · have lx : k < C.length := by rw [Hn.out]; exact hlt
      have hne : C ≠ [] := fun e => by subst e; simp at lx
      obtain ⟨ad, rfl, hck⟩ := (hC.kp hkb).at_ lx
      obtain ⟨i0, i1⟩ := Hm.out _ (List.getElem_mem lx)
      have hi : (C[k]).toNat < F.di.length := by omega
      have hbe := hbd.out hne
      subst hbe
      obtain ⟨A3, c3, hcl0, hri⟩ := (HB.out hne).some_ hi
      have hcl := hkb.get hcl0
      have Hcv : Hid (cvAt (bd.add (C[k]).toNat) w = .slice A3 F.di[(C[k]).toNat].length c3) := cv_of hcl0
      have tf1 := tf 1
      have HT1 := Lib.hid t1
      have HG := Lib.hid hG
      have HO := Lib.hid ho
      have x1 := (Kp.refl wr).drew.get t1
      have x2 := (Kp.refl wr).drew.get z1
      have x3 := (Kp.refl wr).drew.get hcl
      have x4 := (Kp.refl wr).drew.get hck
      have y1 := ((Kp.refl wr).alloc (.cells #[.slice A3 F.di[(C[k]).toNat].length c3] 22)).drew.get t1
      have hOV := Lib.hid (((Kp.refl wr).alloc (.cells #[.slice A3 F.di[(C[k]).toNat].length c3] 22)).drew.own ho)
      have hbs : w.heap.size + 1 + 1 ≤ (wr.alloc (.cells #[.slice A3 F.di[(C[k]).toNat].length c3] 22)).drew.heap.size := by have := r1.lt; show _ ≤ (wr.alloc _).heap.size; simp; omega
      clear hG r1 r2 r3 z0 t0 t1 z1 tf1 ho
      go_wp2_with fail
      go_region_law (first
        | (refine step_appv (by rfl) (.tmp 18) (.tmp 24) (by rfl) (w.heap.size + 1 + 1) ov k (hdrs w bd C k) (.slice A3 F.di[(C[k]).toNat].length c3) ⟨wr.heap.size, 0, none⟩ (by rfl) (by rfl) hOV.out rfl ((Kp.refl _).drew.get (by rw [World.cell?_alloc_at _ _ _ _ rfl]; rfl)) hbs (by omega) ?_; intro g' c' w' ho' ht' h4'; have hG4 := Gath.round HG.out lx (by omega) (by omega) (by omega) (by omega) ((Kp.refl wr).alloc _).drew (by rw [Hcv.out]; exact ho') ht' (h4'.imp (fun e => by rw [e]; rfl) (fun e g hg => own_blk hg ▸ e)); have s1 := (at2 hG4.2.1).2.1; have s2 := (at2 hG4.2.1).2.2 1)
        | fail)
      all_goals
        have hG5 := hG4.2.2.2
        go_wp2_with fail
        go_roundw
        case rel => exact ⟨k + 1, _, by omega, by go_num, hG5⟩
        case measure => simp [intOf]; omega
    · obtain rfl : k = n := by omega
      obtain ⟨y0, y1, yf⟩ := at2 r2
      have yf0 := yf 0
      have yf1 := yf 1
      rw [← Hn.out] at ho
      obtain ⟨Ao, co, rfl, _⟩ := hdrs_grid (F := F) HB.out hkb Hm.out (by rw [Hn.out]; exact hn7) ho
      have q1 := (set2 (set2 r2 (.slice A F.op.length c)).1 (.slice Ao (partF F C).di.length co)).2
      obtain ⟨x0, x1, _⟩ := at2 q1
      have X0 := Lib.hid x0
      have X1 := Lib.hid x1
      have ht := (setCell_turn wr ⟨w.heap.size + 1, 0, none⟩ (.slice A F.op.length c)).trans (setCell_turn (wr.setCell ⟨w.heap.size + 1, 0, none⟩ (.slice A F.op.length c)) ⟨w.heap.size + 1, 1, none⟩ (.slice Ao (partF F C).di.length co))
      have hks := hkb.turn ht (fun i hi => by have e : i = w.heap.size + 1 := hi; omega)
      have ho' := own_turn ho ht (fun g hg e => by have h1 := (World.ownsRow.lt ho g hg).1; have e2 : g = w.heap.size + 1 := e; omega)
      obtain ⟨Ao', co', he', hgr⟩ := hdrs_grid (F := F) HB.out hks Hm.out (by rw [Hn.out]; exact hn7) ho'
      simp only [Value.slice.injEq] at he'
      obtain ⟨rfl, _, rfl⟩ := he'
      have HGR := Lib.hid hgr
      have HKS := Lib.hid hks
      clear r1 r2 r3 yf hG x0 x1 q1 ht ho' hgr hks ho hap
      go_wp2_with fail
      have x0 := X0.out
      have x1 := X1.out
      refine bodyPost_ret (v := .agg #[.slice A F.op.length c, .slice Ao (partF F C).di.length co]) (by simp [results, Tryz.results50, go_sem, x0, x1]) (by simp [go_sem]) ?_
      exact ⟨_, rfl, ⟨A, c, Ao, co, rfl, HA.out.kp HKS.out, HGR.out⟩, HKS.out⟩
set_option maxRecDepth 100000 in
set_option maxHeartbeats 2000000 in
theorem l9Part_any (f : Value) (F : Fld) (A0 : Option Addr) (C : List Int) (n c0 : Nat) (w : World) (hf : FldAt w f F) (hC : IntsAt w A0 C) (hn : C.length = n) (hg : goodF F = true) (hc : crowdB F C = true) :
    Calls Tryz.prog 40 #[f, .slice A0 n c0] w fun e w' => ∃ v, e = .returned v ∧ FldAt w' v (partF F C) ∧ Kp w w' := by
  obtain ⟨A, c, B, d, rfl, hA, hB⟩ := hf
  have hn7 : n ≤ 7 := by have := crowd_len hc; have := (goodF_iff.1 hg).2.2.1; omega
  have hnb := hC.1
  have Hn := Lib.hid hn
  have Hm := Lib.hid (crowd_mem hc)
  obtain ⟨bd, hbd⟩ : ∃ bd, C ≠ [] → B = some bd := by
    cases B with
    | some b => exact ⟨b, fun _ => rfl⟩
    | none =>
      refine ⟨⟨0, 0, none⟩, fun hne => ?_⟩
      have h0 := crowd_mem hc _ (List.getElem_mem (List.length_pos_iff.2 hne))
      obtain ⟨b, _, _, e, _⟩ := hB.at_ (k := 0) (by omega)
      cases e
  have HB := Lib.hid (fun hne : C ≠ [] => (hbd hne ▸ hB : GridAt w (some bd) F.di))
  have HA := Lib.hid hA
  replace hbd := Lib.hid hbd
  clear hn hc hg hA
  have r1 := row2f w (.slice A F.op.length c) (.slice B F.di.length d) 29
  have K3 : Kp (w.alloc (.cells #[.slice A F.op.length c, .slice B F.di.length d] 29)) ((((w.alloc (.cells #[.slice A F.op.length c, .slice B F.di.length d] 29)).alloc (.cells #[.slice none 0 0, .slice none 0 0] 29)).alloc (.cells #[] 22)).alloc (.cells #[.slice A F.op.length c, .slice (some ⟨w.heap.size + 1 + 1, 0, none⟩) 0 0] 29)) := (((Kp.refl _).alloc _).alloc _).alloc _
  have r2 := ((row2f (w.alloc (.cells #[.slice A F.op.length c, .slice B F.di.length d] 29)) (.slice none 0 0) (.slice none 0 0) 29).alloc (.cells #[] 22)).alloc (.cells #[.slice A F.op.length c, .slice (some ⟨w.heap.size + 1 + 1, 0, none⟩) 0 0] 29)
  have r3 := row2f (((w.alloc (.cells #[.slice A F.op.length c, .slice B F.di.length d] 29)).alloc (.cells #[.slice none 0 0, .slice none 0 0] 29)).alloc (.cells #[] 22)) (.slice A F.op.length c) (.slice (some ⟨w.heap.size + 1 + 1, 0, none⟩) 0 0) 29
  have r4 := (World.ownsRow_lit (e := 22) (size := 1) (base := w.heap.size + 1 + 1) ((w.alloc (.cells #[.slice A F.op.length c, .slice B F.di.length d] 29)).alloc (.cells #[.slice none 0 0, .slice none 0 0] 29)) #[] 0 (by simp) (by unfold maxLen; omega) (by simp))
  replace r4 := ((Kp.refl _).alloc (.cells #[.slice A F.op.length c, .slice (some ⟨w.heap.size + 1 + 1, 0, none⟩) 0 0] 29)).own r4
  have hkw : Kp w ((((w.alloc (.cells #[.slice A F.op.length c, .slice B F.di.length d] 29)).alloc (.cells #[.slice none 0 0, .slice none 0 0] 29)).alloc (.cells #[] 22)).alloc (.cells #[.slice A F.op.length c, .slice (some ⟨w.heap.size + 1 + 1, 0, none⟩) 0 0] 29)) := ((((Kp.refl w).alloc _).alloc _).alloc _).alloc _
  replace r1 := K3.row r1
  simp only [World.size_alloc] at r1 r2 r3 r4
  have hG0 : Gath w (w.heap.size + 1 + 1 + 1) (w.heap.size + 1) (w.heap.size + 1 + 1) (.slice A F.op.length c) (.slice B F.di.length d) bd C 0 (.slice (some ⟨w.heap.size + 1 + 1, 0, none⟩) 0 0) ((((w.alloc (.cells #[.slice A F.op.length c, .slice B F.di.length d] 29)).alloc (.cells #[.slice none 0 0, .slice none 0 0] 29)).alloc (.cells #[] 22)).alloc (.cells #[.slice A F.op.length c, .slice (some ⟨w.heap.size + 1 + 1, 0, none⟩) 0 0] 29)) :=
    ⟨r3, r2, r1, r4, (fun g hg => by have := own_blk hg; omega), hkw⟩
  clear r1 r2 r3 r4 hkw K3
  go_enter Tryz.func40, Tryz.ntmps40
  go_wp2_with fail
  go_loopw [6] (fun iv wr => ∃ (k : Nat) (ov : Value), k ≤ n ∧ iv = .int .i64 k ∧ Gath w (w.heap.size + 1 + 1 + 1) (w.heap.size + 1) (w.heap.size + 1 + 1) (.slice A F.op.length c) (.slice B F.di.length d) bd C k ov wr) (fun iv _ => n - (intOf iv).toNat)
  case atStart => exact ⟨0, _, by omega, rfl, hG0⟩
  case round =>
    obtain ⟨k, ov, hk, rfl, hG⟩ := hrel
    have hG' := hG
    obtain ⟨r1, r2, r3, ho, hap, hkb⟩ := hG'
    obtain ⟨t0, t1, tf⟩ := at2 r1
    obtain ⟨z0, z1, _⟩ := at2 r3
    by_cases hlt : k < n
    · have lx : k < C.length := by rw [Hn.out]; exact hlt
      have hne : C ≠ [] := fun e => by subst e; simp at lx
      obtain ⟨ad, rfl, hck⟩ := (hC.kp hkb).at_ lx
      obtain ⟨i0, i1⟩ := Hm.out _ (List.getElem_mem lx)
      have hi : (C[k]).toNat < F.di.length := by omega
      have hbe := hbd.out hne
      subst hbe
      obtain ⟨A3, c3, hcl0, hri⟩ := (HB.out hne).some_ hi
      have hcl := hkb.get hcl0
      have Hcv : Hid (cvAt (bd.add (C[k]).toNat) w = .slice A3 F.di[(C[k]).toNat].length c3) := cv_of hcl0
      have tf1 := tf 1
      have HT1 := Lib.hid t1
      have HG := Lib.hid hG
      have HO := Lib.hid ho
      have x1 := (Kp.refl wr).drew.get t1
      have x2 := (Kp.refl wr).drew.get z1
      have x3 := (Kp.refl wr).drew.get hcl
      have x4 := (Kp.refl wr).drew.get hck
      have y1 := ((Kp.refl wr).alloc (.cells #[.slice A3 F.di[(C[k]).toNat].length c3] 22)).drew.get t1
      have hOV := Lib.hid (((Kp.refl wr).alloc (.cells #[.slice A3 F.di[(C[k]).toNat].length c3] 22)).drew.own ho)
      have hbs : w.heap.size + 1 + 1 ≤ (wr.alloc (.cells #[.slice A3 F.di[(C[k]).toNat].length c3] 22)).drew.heap.size := by have := r1.lt; show _ ≤ (wr.alloc _).heap.size; simp; omega
      clear hG r1 r2 r3 z0 t0 t1 z1 tf1 ho
      go_wp2_with fail
      go_region_law (first
        | (refine step_appv (by rfl) (.tmp 18) (.tmp 27) (by rfl) (w.heap.size + 1 + 1) ov k (hdrs w bd C k) (.slice A3 F.di[(C[k]).toNat].length c3) ⟨wr.heap.size, 0, none⟩ (by rfl) (by rfl) hOV.out rfl ((Kp.refl _).drew.get (by rw [World.cell?_alloc_at _ _ _ _ rfl]; rfl)) hbs (by omega) ?_; intro g' c' w' ho' ht' h4'; have hG4 := Gath.round HG.out lx (by omega) (by omega) (by omega) (by omega) ((Kp.refl wr).alloc _).drew (by rw [Hcv.out]; exact ho') ht' (h4'.imp (fun e => by rw [e]; rfl) (fun e g hg => own_blk hg ▸ e)); have s1 := (at2 hG4.2.1).2.1; have s2 := (at2 hG4.2.1).2.2 1)
        | fail)
      all_goals
        have hG5 := hG4.2.2.2
        go_wp2_with fail
        go_roundw
        case rel => exact ⟨k + 1, _, by omega, by go_num, hG5⟩
        case measure => simp [intOf]; omega
    · obtain rfl : k = n := by omega
      obtain ⟨y0, y1, yf⟩ := at2 r2
      have yf0 := yf 0
      have yf1 := yf 1
      rw [← Hn.out] at ho
      obtain ⟨Ao, co, rfl, _⟩ := hdrs_grid (F := F) HB.out hkb Hm.out (by rw [Hn.out]; exact hn7) ho
      have q1 := (set2 (set2 r2 (.slice A F.op.length c)).1 (.slice Ao (partF F C).di.length co)).2
      obtain ⟨x0, x1, _⟩ := at2 q1
      have X0 := Lib.hid x0
      have X1 := Lib.hid x1
      have ht := (setCell_turn wr ⟨w.heap.size + 1, 0, none⟩ (.slice A F.op.length c)).trans (setCell_turn (wr.setCell ⟨w.heap.size + 1, 0, none⟩ (.slice A F.op.length c)) ⟨w.heap.size + 1, 1, none⟩ (.slice Ao (partF F C).di.length co))
      have hks := hkb.turn ht (fun i hi => by have e : i = w.heap.size + 1 := hi; omega)
      have ho' := own_turn ho ht (fun g hg e => by have h1 := (World.ownsRow.lt ho g hg).1; have e2 : g = w.heap.size + 1 := e; omega)
      obtain ⟨Ao', co', he', hgr⟩ := hdrs_grid (F := F) HB.out hks Hm.out (by rw [Hn.out]; exact hn7) ho'
      simp only [Value.slice.injEq] at he'
      obtain ⟨rfl, _, rfl⟩ := he'
      have HGR := Lib.hid hgr
      have HKS := Lib.hid hks
      clear r1 r2 r3 yf hG x0 x1 q1 ht ho' hgr hks ho hap
      go_wp2_with fail
      have x0 := X0.out
      have x1 := X1.out
      refine bodyPost_ret (v := .agg #[.slice A F.op.length c, .slice Ao (partF F C).di.length co]) (by simp [results, Tryz.results40, go_sem, x0, x1]) (by simp [go_sem]) ?_
      exact ⟨_, rfl, ⟨A, c, Ao, co, rfl, HA.out.kp HKS.out, HGR.out⟩, HKS.out⟩
end Go.Proofs.YtggkhieepjnmdaaGreat

namespace Go.Proofs.YtggkhieepjnmdaaGreat
open Go.RowKit Go.Sort

def costF (F : Fld) (C : List Int) : Int := if C = [] then 0 else totF (partF F C) (bestF (partF F C))
theorem tot_bd {F : Fld} (h : goodF F = true) {S : List Int} (hs : setB F S = true) : 0 ≤ totF F S ∧ totF F S ≤ 1386 := by
  have h1 := payF_bd h hs
  have h2 := serveF_bd h S
  unfold totF; omega
theorem cost_bd {F : Fld} (h : goodF F = true) {C : List Int} (hc : crowdB F C = true) : 0 ≤ costF F C ∧ costF F C ≤ 1386 := by
  unfold costF
  by_cases e : C = []
  · rw [if_pos e]; omega
  · rw [if_neg e]
    have hp := part_good h hc
    exact tot_bd hp (best_set hp).1
theorem crowd_nil (F : Fld) : crowdB F [] = true := rfl
set_option maxRecDepth 100000 in
set_option maxHeartbeats 400000 in
theorem costOf_any (f : Value) (F : Fld) (A0 : Option Addr) (C : List Int) (n c0 : Nat) (w : World) (hf : FldAt w f F) (hC : IntsAt w A0 C) (hn : C.length = n) (hg : goodF F = true) (hc : crowdB F C = true) :
    Calls Tryz.prog 38 #[f, .slice A0 n c0] w fun e w' => e = .returned (.int .i64 (costF F C)) ∧ Kp w w' := by
  obtain ⟨A, c, B, d, rfl, hA, hB⟩ := hf
  have hk0 : Kp w (w.alloc (.cells #[.slice A F.op.length c, .slice B F.di.length d] 29)) := (Kp.refl w).alloc _
  obtain ⟨d0, d1⟩ := box2 w (.slice A F.op.length c) (.slice B F.di.length d) 29
  have hFA := FldAt.kp (show FldAt w (.agg #[.slice A F.op.length c, .slice B F.di.length d]) F from ⟨A, c, B, d, rfl, hA, hB⟩) hk0
  replace hC := hC.kp hk0
  have HP := Lib.hid (part_good hg hc)
  have hne : Hid (0 < n → costF F C = totF (partF F C) (bestF (partF F C))) := by
    show 0 < n → _
    intro h0
    exact if_neg (fun e => by subst e; simp at hn; omega)
  have hnil : Hid (n = 0 → costF F C = 0) := by
    show n = 0 → _
    intro h0
    exact if_pos (List.eq_nil_of_length_eq_zero (by omega))
  have HG := Lib.hid hg; have HC := Lib.hid hc; have Hn := Lib.hid hn
  clear hA hB hg hc hn
  by_cases h0 : n = 0
  · have e0 : Hid (costF F C = 0) := hnil.out h0
    subst h0
    go_enter Tryz.func38, Tryz.ntmps38
    go_wp2_with fail
    go_ret
    exact ⟨ret_int e0.out.symm, hk0⟩
  have hpos : 0 < n := by omega
  have hne0 : ((n : Int) == 0) = false := by simp; omega
  have e1 := Lib.hid (hne.out hpos)
  go_enter Tryz.func38, Tryz.ntmps38
  go_wp2_with fail
  have hsz : Hid ((w.alloc (.cells #[.slice A F.op.length c, .slice B F.di.length d] 29)).heap.size = w.heap.size + 1) := by show _ = _; simp
  generalize w.alloc (.cells #[.slice A F.op.length c, .slice B F.di.length d] 29) = wb at *
  have hkb : Kp wb wb := Kp.refl _
  have hkw := hk0
  have CC := Lib.hid (only_any _ F A0 C n c0 _ (hFA.kp hkb) (hC.kp hkb) Hn.out HG.out HC.out)
  with_reducible refine Calls.mono CC.out ?_
  rintro e w1 ⟨v, rfl, hv, hk1⟩
  clear CC
  replace hkb := hkb.trans hk1
  have q_d0 := hkb.get d0
  have q_d1 := hkb.get d1
  go_wp2_with fail
  have CC := Lib.hid (bestTotal_any v (partF F C) _ hv HP.out)
  with_reducible refine Calls.mono CC.out ?_
  rintro e w2 ⟨rfl, hk2⟩
  clear CC q_d0 q_d1
  replace hkb := hkb.trans hk2
  have q_d0 := hkb.get d0
  have q_d1 := hkb.get d1
  go_wp2_with fail
  go_ret
  exact ⟨ret_int e1.out.symm, hkw.trans hkb⟩
set_option maxRecDepth 100000 in
set_option maxHeartbeats 400000 in
theorem l9Cost_any (f : Value) (F : Fld) (A0 : Option Addr) (C : List Int) (n c0 : Nat) (w : World) (hf : FldAt w f F) (hC : IntsAt w A0 C) (hn : C.length = n) (hg : goodF F = true) (hc : crowdB F C = true) :
    Calls Tryz.prog 29 #[f, .slice A0 n c0] w fun e w' => e = .returned (.int .i64 (costF F C)) ∧ Kp w w' := by
  obtain ⟨A, c, B, d, rfl, hA, hB⟩ := hf
  have hk0 : Kp w (w.alloc (.cells #[.slice A F.op.length c, .slice B F.di.length d] 29)) := (Kp.refl w).alloc _
  obtain ⟨d0, d1⟩ := box2 w (.slice A F.op.length c) (.slice B F.di.length d) 29
  have hFA := FldAt.kp (show FldAt w (.agg #[.slice A F.op.length c, .slice B F.di.length d]) F from ⟨A, c, B, d, rfl, hA, hB⟩) hk0
  replace hC := hC.kp hk0
  have HP := Lib.hid (part_good hg hc)
  have hne : Hid (0 < n → costF F C = totF (partF F C) (bestF (partF F C))) := by
    show 0 < n → _
    intro h0
    exact if_neg (fun e => by subst e; simp at hn; omega)
  have hnil : Hid (n = 0 → costF F C = 0) := by
    show n = 0 → _
    intro h0
    exact if_pos (List.eq_nil_of_length_eq_zero (by omega))
  have HG := Lib.hid hg; have HC := Lib.hid hc; have Hn := Lib.hid hn
  clear hA hB hg hc hn
  by_cases h0 : n = 0
  · have e0 : Hid (costF F C = 0) := hnil.out h0
    subst h0
    go_enter Tryz.func29, Tryz.ntmps29
    go_wp2_with fail
    go_ret
    exact ⟨ret_int e0.out.symm, hk0⟩
  have hpos : 0 < n := by omega
  have hne0 : ((n : Int) == 0) = false := by simp; omega
  have e1 := Lib.hid (hne.out hpos)
  go_enter Tryz.func29, Tryz.ntmps29
  go_wp2_with fail
  have hsz : Hid ((w.alloc (.cells #[.slice A F.op.length c, .slice B F.di.length d] 29)).heap.size = w.heap.size + 1) := by show _ = _; simp
  generalize w.alloc (.cells #[.slice A F.op.length c, .slice B F.di.length d] 29) = wb at *
  have hkb : Kp wb wb := Kp.refl _
  have hkw := hk0
  have CC := Lib.hid (l9Part_any _ F A0 C n c0 _ (hFA.kp hkb) (hC.kp hkb) Hn.out HG.out HC.out)
  with_reducible refine Calls.mono CC.out ?_
  rintro e w1 ⟨v, rfl, hv, hk1⟩
  clear CC
  replace hkb := hkb.trans hk1
  have hvF := hv
  obtain ⟨A2, c2, B2, d2, rfl, _, _⟩ := hv
  have hk1' := (Kp.refl w1).alloc (.cells #[.slice A2 (partF F C).op.length c2, .slice B2 (partF F C).di.length d2] 29)
  obtain ⟨p0, p1⟩ := box2 w1 (.slice A2 (partF F C).op.length c2) (.slice B2 (partF F C).di.length d2) 29
  replace hvF := hvF.kp hk1'
  have hkw2 := (hkw.trans hkb).trans hk1'
  clear hkb
  go_wp2_with fail
  generalize hH : w1.heap.size = H at *
  generalize w1.alloc (.cells #[.slice A2 (partF F C).op.length c2, .slice B2 (partF F C).di.length d2] 29) = wd at *
  have hkz : Kp wd wd := Kp.refl _
  have C1 := Lib.hid (fun (wx : World) (hx : Kp wd wx) => l2Best_any _ (partF F C) wx (hvF.kp hx) HP.out)
  have C2 := Lib.hid (fun (wx : World) (hx : Kp wd wx) (lo : Option Nat) (u : Value) (hu : RowP wx lo u (bestF (partF F C))) => (show ∃ Av cv, u = .slice Av (bestF (partF F C)).length cv ∧ Calls Tryz.prog 41 #[.agg #[.slice A2 (partF F C).op.length c2, .slice B2 (partF F C).di.length d2], .slice Av (bestF (partF F C)).length cv] wx fun e w' => e = .returned (.int .i64 (totF (partF F C) (bestF (partF F C)))) ∧ Kp wx w' from by
    obtain ⟨Av, cv, e, _, hi⟩ := hu.read
    exact ⟨Av, cv, e, l2Total_any _ (partF F C) Av _ _ cv wx (hvF.kp hx) hi rfl HP.out (best_set HP.out).1 (best_set HP.out).2⟩))
  have q_p0 := hkz.get p0
  have q_p1 := hkz.get p1
  have tok1 : True := trivial
  go_wp2_with fail
  go_region_held3 (fun w' => w'.cell? ⟨H, 0, none⟩ = some (.slice A2 (partF F C).op.length c2) ∧ w'.cell? ⟨H, 1, none⟩ = some (.slice B2 (partF F C).di.length d2) ∧ Kp wd w')
    (first | (refine keepc2 p0 p1 ?_; exact (by repeat (first | with_reducible assumption | with_reducible exact Kp.refl _ | with_reducible refine Kp.drew ?_ | with_reducible refine Kp.alloc ?_ _ | with_reducible refine Kp.drewN ?_ _ | refine Kp.setCell ?_ (by dsimp only; omega) _))) | fail)
    (first
      | (have _t := tok1; go_at_call 42; with_reducible refine Calls.mono (C1.out _ (by repeat (first | with_reducible assumption | with_reducible exact Kp.refl _ | with_reducible refine Kp.drew ?_ | with_reducible refine Kp.alloc ?_ _ | with_reducible refine Kp.drewN ?_ _ | refine Kp.setCell ?_ (by dsimp only; omega) _))) ?_; rintro e wr1 ⟨u, rfl, hu, hka⟩; have hr1 : Kp wd wr1 := Kp.trans (by repeat (first | with_reducible assumption | with_reducible exact Kp.refl _ | with_reducible refine Kp.drew ?_ | with_reducible refine Kp.alloc ?_ _ | with_reducible refine Kp.drewN ?_ _ | refine Kp.setCell ?_ (by dsimp only; omega) _)) hka; obtain ⟨Av, cv, hue, hct⟩ := C2.out _ hr1 _ _ hu; subst hue; have tok2 : True := trivial; clear tok1 _t)
      | (have _t := tok2; go_at_call 41; with_reducible refine Calls.mono hct ?_; rintro e wr2 ⟨rfl, hka⟩; have hr2 : Kp wd wr2 := Kp.trans hr1 hka; have tok3 : True := trivial; clear tok2 _t)
      | fail)
  go_wp2_with fail
  go_ret
  exact ⟨ret_int e1.out.symm, hkw2.trans hr2⟩
end Go.Proofs.YtggkhieepjnmdaaGreat

namespace Go.Proofs.YtggkhieepjnmdaaGreat
open Go.RowKit Go.Sort

def tabF (F : Fld) (worth : Int) (b : Nat) : Int := gainF F worth (bitsL F.op.length b)
def tabOk (F : Fld) (worth : Int) : Bool := goodF F && worthB worth
def tabL (F : Fld) (worth : Int) : List Int := if tabOk F worth = true then mapTo (tabF F worth) (2 ^ F.op.length) else []
theorem tabL_yes {F : Fld} {worth : Int} (h : tabOk F worth = true) : tabL F worth = mapTo (tabF F worth) (2 ^ F.op.length) := if_pos h
theorem tabL_no {F : Fld} {worth : Int} (h : tabOk F worth = false) : tabL F worth = [] := if_neg (by simp [h])
theorem tabOk_parts {F : Fld} {worth : Int} (h : tabOk F worth = true) : goodF F = true ∧ 0 ≤ worth ∧ worth ≤ 999 := by
  simp only [tabOk, worthB, inB, Bool.and_eq_true, decide_eq_true_eq] at h
  exact ⟨h.1, h.2.1, h.2.2⟩
theorem pow7 {n : Nat} (h : n ≤ 7) : 2 ^ n ≤ 128 := Nat.pow_le_pow_right (by omega) h
theorem tabL_len (F : Fld) (worth : Int) : (tabL F worth).length ≤ 1048576 := by
  by_cases h : tabOk F worth = true
  · rw [tabL_yes h, mapTo_len]
    have := pow7 (goodF_iff.1 (tabOk_parts h).1).1.2
    omega
  · rw [tabL_no (by simpa using h)]; simp

end Go.Proofs.YtggkhieepjnmdaaGreat

namespace Go.Proofs.YtggkhieepjnmdaaGreat
open Go.RowKit Go.Sort

def cocOk (F : Fld) (C : List Int) : Bool := goodF F && crowdB F C
def cocR (F : Fld) (C : List Int) : Int := if cocOk F C = true then costF F C else 0
theorem coc_no {F : Fld} {C : List Int} (h : cocOk F C = false) : Ending.returned (.tuple #[.int .i64 0, .bool false]) = .returned (.tuple #[.int .i64 (cocR F C), .bool (cocOk F C)]) := by rw [cocR, h]; rfl
theorem coc_yes {F : Fld} {C : List Int} (h : cocOk F C = true) : Ending.returned (.tuple #[.int .i64 (costF F C), .bool true]) = .returned (.tuple #[.int .i64 (cocR F C), .bool (cocOk F C)]) := by rw [cocR, h, if_pos rfl]
def ctF (F : Fld) (b : Nat) : Int := costF F (bitsL F.di.length b)
def ctL (F : Fld) : List Int := if goodF F = true then mapTo (ctF F) (2 ^ F.di.length) else []
theorem ctL_yes {F : Fld} (h : goodF F = true) : ctL F = mapTo (ctF F) (2 ^ F.di.length) := if_pos h
theorem ctL_no {F : Fld} (h : goodF F = false) : ctL F = [] := if_neg (by simp [h])
theorem ctL_len (F : Fld) : (ctL F).length ≤ 1048576 := by
  by_cases h : goodF F = true
  · rw [ctL_yes h, mapTo_len]
    have := pow7 (goodF_iff.1 h).2.2.1
    omega
  · rw [ctL_no (by simpa using h)]; simp
theorem bitsL_crowd (F : Fld) (b : Nat) : crowdB F (bitsL F.di.length b) = true := bitsL_ris _ _ _ (Int.le_refl _)
set_option maxRecDepth 100000 in
set_option maxHeartbeats 2000000 in
theorem costs_any (f : Value) (F : Fld) (w : World) (hf : FldAt w f F) (hg : goodF F = true) :
    Calls Tryz.prog 23 #[f] w fun e w' => ∃ v, e = .returned v ∧ Own w' w.heap.size v (mapTo (ctF F) (2 ^ F.di.length)) ∧ Kp w w' := by
  obtain ⟨A, c, B, d, rfl, hA, hB⟩ := hf
  have hk0 : Kp w (w.alloc (.cells #[.slice A F.op.length c, .slice B F.di.length d] 29)) := (Kp.refl w).alloc _
  obtain ⟨d0, d1⟩ := box2 w (.slice A F.op.length c) (.slice B F.di.length d) 29
  have hFA := FldAt.kp (show FldAt w (.agg #[.slice A F.op.length c, .slice B F.di.length d]) F from ⟨A, c, B, d, rfl, hA, hB⟩) hk0
  have HG := Lib.hid hg
  have hd7 := (goodF_iff.1 hg).2.2.1
  obtain ⟨P, HP, hpw, hP⟩ := pow_wrap (F.di.length : Int) (by omega) (by omega)
  rw [Int.toNat_natCast] at hpw
  have HP' : Hid (P = 2 ^ F.di.length) := by show P = _; simpa using HP.out
  have hpu := u64_one_shl (F.di.length : Int) (by omega) (by omega)
  rw [Int.toNat_natCast, ← HP'.out] at hpu
  clear hA hB hg
  go_enter Tryz.func23, Tryz.ntmps23
  go_wp2_with fail
  have hsz : Hid ((w.alloc (.cells #[.slice A F.op.length c, .slice B F.di.length d] 29)).heap.size = w.heap.size + 1) := by show _ = _; simp
  generalize w.alloc (.cells #[.slice A F.op.length c, .slice B F.di.length d] 29) = wb at *
  have hkb : Kp wb wb := Kp.refl _
  have hkw := hk0
  have hs1 : w.heap.size + 1 ≤ wb.heap.size := Nat.le_of_eq hsz.out.symm
  have ho0 : Own (wb.alloc (.cells #[] 3)) wb.heap.size (.slice (some ⟨w.heap.size + 1, 0, none⟩) 0 0) [] := by
    rw [← hsz.out]; exact own_new0 wb wb.heap.size (Nat.le_refl _)
  replace hkb : Kp wb (wb.alloc (.cells #[] 3)) := (Kp.refl _).alloc _
  go_loopw [3, 4] (fun ov iv wr => ∃ a : Nat, a ≤ P ∧ iv = .int .u64 a ∧ Own wr wb.heap.size ov (mapTo (ctF F) a) ∧ Kp wb wr) (fun _ iv _ => P - (intOf iv).toNat)
  case atStart => exact ⟨0, by omega, rfl, ho0, hkb⟩
  case round =>
    clear ho0 hkb
    obtain ⟨a, ha, rfl, hown, hkb⟩ := hrel
    by_cases hlt : a < P
    · have hlen := Lib.hid (mapTo_len (ctF F) a)
      have hlen2 : (mapTo (ctF F) a).length < 1048576 := by rw [hlen.out]; omega
      have haP : a < 2 ^ F.di.length := by rw [← HP'.out]; exact hlt
      have HPa := Lib.hid haP
      have HS := Lib.hid (bitsL_crowd F a)
      have hbl := bitsL_len F.di.length a
      clear haP
      have C2 := Lib.hid (fun (wx : World) (hx : Kp wb wx) (Av : Option Addr) (cv : Nat) (hv : IntsAt wx Av (bitsL F.di.length a)) => costOf_any _ F Av (bitsL F.di.length a) _ cv wx (hFA.kp hx) hv rfl HG.out HS.out)
      have C1 := Lib.hid (list_any a F.di.length wr.drew HPa.out (by omega))
      have q_d0 := hkb.get d0
      have q_d1 := hkb.get d1
      have tok1 : True := trivial
      go_wp2_with fail
      go_region_held3 (fun w' => w'.cell? ⟨w.heap.size, 0, none⟩ = some (.slice A F.op.length c) ∧ w'.cell? ⟨w.heap.size, 1, none⟩ = some (.slice B F.di.length d) ∧ Kp wb w')
        (first | (refine keepc2 d0 d1 ?_; exact (by repeat (first | with_reducible assumption | with_reducible exact Kp.refl _ | with_reducible refine Kp.drew ?_ | with_reducible refine Kp.alloc ?_ _ | with_reducible refine Kp.drewN ?_ _ | refine Kp.setCell ?_ (by dsimp only; omega) _))) | fail)
        (first
          | (have _t := tok1; go_at_call 39; with_reducible refine Calls.mono (C1.out) ?_; rintro e wr1 ⟨v, rfl, hov, hka⟩; have hr1 : Kp wb wr1 := Kp.trans (by repeat (first | with_reducible assumption | with_reducible exact Kp.refl _ | with_reducible refine Kp.drew ?_ | with_reducible refine Kp.alloc ?_ _ | with_reducible refine Kp.drewN ?_ _ | refine Kp.setCell ?_ (by dsimp only; omega) _)) hka; obtain ⟨Av, cv, hve, hiv⟩ := hov.ints (by omega); subst hve; have hoA := (hown.kp (Kp.refl wr).drew).kp hka; have tok2 : True := trivial; clear tok1 _t)
          | (have _t := tok2; go_at_call 38; with_reducible refine Calls.mono (C2.out _ hr1 Av cv hiv) ?_; rintro e wr2 ⟨rfl, hka⟩; have hr2 : Kp wb wr2 := Kp.trans (by repeat (first | with_reducible assumption | with_reducible exact Kp.refl _ | with_reducible refine Kp.drew ?_ | with_reducible refine Kp.alloc ?_ _ | with_reducible refine Kp.drewN ?_ _ | refine Kp.setCell ?_ (by dsimp only; omega) _)) hka; have hoB := hoA.kp hka; have tok3 : True := trivial; clear tok2 _t)
          | (have _t := tok3; refine step_app (by rfl) (.tmp 14) (.tmp 19) (by rfl) wb.heap.size _ (mapTo (ctF F) a) (ctF F a) _ (by rfl) (by rfl) (by rfl) hoB hr2.le hlen2 ?_; intro v' w' ho' ht' _; have hk4 : Kp wb w' := hoB.kp_turn hr2 (Nat.le_refl _) ht'; have tok4 : True := trivial; clear tok3 _t)
          | fail)
      go_wp2_with fail
      go_roundw
      case rel => exact ⟨a + 1, by omega, by go_num, by rw [mapTo_succ]; exact ho', hk4⟩
      case measure => simp [intOf]; omega
    · obtain rfl : a = P := by omega
      have q_d0 := hkb.get d0
      have q_d1 := hkb.get d1
      go_wp2_with fail
      go_ret
      exact ⟨_, rfl, by rw [← HP'.out]; exact hown.mono hkw.le, hkw.trans hkb⟩
set_option maxRecDepth 100000 in
set_option maxHeartbeats 2000000 in
theorem l9Table_any (f : Value) (F : Fld) (w : World) (hf : FldAt w f F) (hg : goodF F = true) :
    Calls Tryz.prog 18 #[f] w fun e w' => ∃ v, e = .returned v ∧ Own w' w.heap.size v (mapTo (ctF F) (2 ^ F.di.length)) ∧ Kp w w' := by
  obtain ⟨A, c, B, d, rfl, hA, hB⟩ := hf
  have hk0 : Kp w (w.alloc (.cells #[.slice A F.op.length c, .slice B F.di.length d] 29)) := (Kp.refl w).alloc _
  obtain ⟨d0, d1⟩ := box2 w (.slice A F.op.length c) (.slice B F.di.length d) 29
  have hFA := FldAt.kp (show FldAt w (.agg #[.slice A F.op.length c, .slice B F.di.length d]) F from ⟨A, c, B, d, rfl, hA, hB⟩) hk0
  have HG := Lib.hid hg
  have hd7 := (goodF_iff.1 hg).2.2.1
  obtain ⟨P, HP, hpw, hP⟩ := pow_wrap (F.di.length : Int) (by omega) (by omega)
  rw [Int.toNat_natCast] at hpw
  have HP' : Hid (P = 2 ^ F.di.length) := by show P = _; simpa using HP.out
  have hpu := u64_one_shl (F.di.length : Int) (by omega) (by omega)
  rw [Int.toNat_natCast, ← HP'.out] at hpu
  clear hA hB hg
  go_enter Tryz.func18, Tryz.ntmps18
  go_wp2_with fail
  have hsz : Hid ((w.alloc (.cells #[.slice A F.op.length c, .slice B F.di.length d] 29)).heap.size = w.heap.size + 1) := by show _ = _; simp
  generalize w.alloc (.cells #[.slice A F.op.length c, .slice B F.di.length d] 29) = wb at *
  have hkb : Kp wb wb := Kp.refl _
  have hkw := hk0
  have hs1 : w.heap.size + 1 ≤ wb.heap.size := Nat.le_of_eq hsz.out.symm
  have ho0 : Own (wb.alloc (.cells #[] 3)) wb.heap.size (.slice (some ⟨w.heap.size + 1, 0, none⟩) 0 0) [] := by
    rw [← hsz.out]; exact own_new0 wb wb.heap.size (Nat.le_refl _)
  replace hkb : Kp wb (wb.alloc (.cells #[] 3)) := (Kp.refl _).alloc _
  go_loopw [3, 4] (fun ov iv wr => ∃ a : Nat, a ≤ P ∧ iv = .int .i64 a ∧ Own wr wb.heap.size ov (mapTo (ctF F) a) ∧ Kp wb wr) (fun _ iv _ => P - (intOf iv).toNat)
  case atStart => exact ⟨0, by omega, rfl, ho0, hkb⟩
  case round =>
    clear ho0 hkb
    obtain ⟨a, ha, rfl, hown, hkb⟩ := hrel
    by_cases hlt : a < P
    · have hlen := Lib.hid (mapTo_len (ctF F) a)
      have hlen2 : (mapTo (ctF F) a).length < 1048576 := by rw [hlen.out]; omega
      have haP : a < 2 ^ F.di.length := by rw [← HP'.out]; exact hlt
      have HPa := Lib.hid haP
      have HS := Lib.hid (bitsL_crowd F a)
      have hbl := bitsL_len F.di.length a
      clear haP
      have C2 := Lib.hid (fun (wx : World) (hx : Kp wb wx) (Av : Option Addr) (cv : Nat) (hv : IntsAt wx Av (bitsL F.di.length a)) => l9Cost_any _ F Av (bitsL F.di.length a) _ cv wx (hFA.kp hx) hv rfl HG.out HS.out)
      have C1 := Lib.hid (l2Bits_any F.di.length a wr.drew (by omega) (by omega))
      have q_d0 := hkb.get d0
      have q_d1 := hkb.get d1
      have tok1 : True := trivial
      go_wp2_with fail
      go_region_held3 (fun w' => w'.cell? ⟨w.heap.size, 0, none⟩ = some (.slice A F.op.length c) ∧ w'.cell? ⟨w.heap.size, 1, none⟩ = some (.slice B F.di.length d) ∧ Kp wb w')
        (first | (refine keepc2 d0 d1 ?_; exact (by repeat (first | with_reducible assumption | with_reducible exact Kp.refl _ | with_reducible refine Kp.drew ?_ | with_reducible refine Kp.alloc ?_ _ | with_reducible refine Kp.drewN ?_ _ | refine Kp.setCell ?_ (by dsimp only; omega) _))) | fail)
        (first
          | (have _t := tok1; go_at_call 30; with_reducible refine Calls.mono (C1.out) ?_; rintro e wr1 ⟨v, rfl, hov, hka⟩; have hr1 : Kp wb wr1 := Kp.trans (by repeat (first | with_reducible assumption | with_reducible exact Kp.refl _ | with_reducible refine Kp.drew ?_ | with_reducible refine Kp.alloc ?_ _ | with_reducible refine Kp.drewN ?_ _ | refine Kp.setCell ?_ (by dsimp only; omega) _)) hka; obtain ⟨Av, cv, hve, hiv⟩ := hov.ints (by omega); subst hve; have hoA := (hown.kp (Kp.refl wr).drew).kp hka; have tok2 : True := trivial; clear tok1 _t)
          | (have _t := tok2; go_at_call 29; with_reducible refine Calls.mono (C2.out _ hr1 Av cv hiv) ?_; rintro e wr2 ⟨rfl, hka⟩; have hr2 : Kp wb wr2 := Kp.trans (by repeat (first | with_reducible assumption | with_reducible exact Kp.refl _ | with_reducible refine Kp.drew ?_ | with_reducible refine Kp.alloc ?_ _ | with_reducible refine Kp.drewN ?_ _ | refine Kp.setCell ?_ (by dsimp only; omega) _)) hka; have hoB := hoA.kp hka; have tok3 : True := trivial; clear tok2 _t)
          | (have _t := tok3; refine step_app (by rfl) (.tmp 14) (.tmp 22) (by rfl) wb.heap.size _ (mapTo (ctF F) a) (ctF F a) _ (by rfl) (by rfl) (by rfl) hoB hr2.le hlen2 ?_; intro v' w' ho' ht' _; have hk4 : Kp wb w' := hoB.kp_turn hr2 (Nat.le_refl _) ht'; have tok4 : True := trivial; clear tok3 _t)
          | fail)
      go_wp2_with fail
      go_roundw
      case rel => exact ⟨a + 1, by omega, by go_num, by rw [mapTo_succ]; exact ho', hk4⟩
      case measure => simp [intOf]; omega
    · obtain rfl : a = P := by omega
      have q_d0 := hkb.get d0
      have q_d1 := hkb.get d1
      go_wp2_with fail
      go_ret
      exact ⟨_, rfl, by rw [← HP'.out]; exact hown.mono hkw.le, hkw.trans hkb⟩
end Go.Proofs.YtggkhieepjnmdaaGreat

namespace Go.Proofs.YtggkhieepjnmdaaGreat
open Go.RowKit Go.Sort

/-- A slot of a slice of the call's own: read and written. -/
theorem Own.slot {w : World} {base g n cap j : Nat} {xs : List Int} (h : Own w base (.slice (some ⟨g, 0, none⟩) n cap) xs) (hn : xs.length = n) (hj : j < n) :
    w.cell? ⟨g, j, none⟩ = some (.int .i64 (xs.getD j 0)) ∧ w.frozen? ⟨g, j, none⟩ = false ∧
    ∀ z : Int, Own (w.setCell ⟨g, j, none⟩ (.int .i64 z)) base (.slice (some ⟨g, 0, none⟩) n cap) (xs.set j z) ∧ Turn (fun i => i = g) w (w.setCell ⟨g, j, none⟩ (.int .i64 z)) := by
  have h' : w.ownsRow base 3 1 (.slice (some ⟨g, 0, none⟩) n cap) n (xs.map (Value.int .i64)) := by
    have := h; unfold Own at this; rw [hn] at this; exact this
  refine ⟨?_, h'.frozenAt j, fun z => ?_⟩
  · rw [h'.cellAt j (by omega), List.getElem?_map]
    have : j < xs.length := by omega
    simp [List.getD, this]
  · have hs := h'.stored j (.int .i64 z)
    refine ⟨?_, (Turn.of_grown hs.2).mono (fun i hi => by simpa using hi.symm)⟩
    have h2 := hs.1
    rw [← List.map_set] at h2
    unfold Own
    rw [List.length_set, hn]; exact h2
/-- A slot of a slice of the call's own: read, written, and written while another such slice stays. -/
theorem Own.slotL {w : World} {base g n cap j : Nat} {xs : List Int} (h : Own w base (.slice (some ⟨g, 0, none⟩) n cap) xs) (hn : xs.length = n) (hj : j < n) :
    w.cell? ⟨g, j, none⟩ = some (.int .i64 (lget xs j)) ∧ w.frozen? ⟨g, j, none⟩ = false ∧
    ∀ z : Int, Own (w.setCell ⟨g, j, none⟩ (.int .i64 z)) base (.slice (some ⟨g, 0, none⟩) n cap) (xs.set j z) ∧ Turn (fun i => i = g) w (w.setCell ⟨g, j, none⟩ (.int .i64 z)) := h.slot hn hj
theorem Own.not_block {w w' : World} {base g n cap : Nat} {v : Value} {xs : List Int} (h : Own w base v xs) (ha : Apart v (.slice (some ⟨g, 0, none⟩) n cap)) (ht : Turn (fun i => i = g) w w') : Own w' base v xs :=
  h.turn ht (fun k hk e => ha k hk (by subst e; rfl))
theorem Own.at0 {w : World} {base n : Nat} {v : Value} {xs : List Int} (h : Own w base v xs) (hn : xs.length = n) (hp : 0 < n) : ∃ g cap, v = .slice (some ⟨g, 0, none⟩) n cap := by
  rcases h.2 with ⟨_, h0⟩ | ⟨g, cap, cur, e, _⟩
  · omega
  · exact ⟨g, cap, by rw [e, hn]⟩
def sLen : Value → Nat
  | .slice _ n _ => n
  | _ => 0
theorem own_made (w : World) (base n : Nat) (hb : base ≤ w.heap.size) (hn : n ≤ 1048576) : Own (w.alloc (.cells (madeCells #[.int .i64 0] n) 3)) base (.slice (some ⟨w.heap.size, 0, none⟩) n n) (List.replicate n 0) := by
  have hr : IntRow (w.alloc (.cells (madeCells #[.int .i64 0] n) 3)) w.heap.size (List.replicate n 0) := by
    unfold IntRow
    rw [List.length_replicate]
    exact (World.rowIs_made w (.int .i64 0) n 3).congr (fun i hi => by simp [List.getD, hi])
  have := Own.of_row hr hb (by simp; omega)
  rw [List.length_replicate] at this
  exact this
end Go.Proofs.YtggkhieepjnmdaaGreat

namespace Go.Proofs.YtggkhieepjnmdaaGreat
open Go.RowKit Go.Sort

theorem mapTo_set' {g : Nat → Int} {M a : Nat} {z : Int} : (mapTo g M).set a z = mapTo (upd g a z) M := by
  refine List.ext_getElem (by simp [mapTo]) (fun i h1 h2 => ?_)
  have hi : i < M := by simpa [mapTo] using h2
  rw [mapTo_get hi h2, List.getElem_set]
  by_cases e : a = i
  · subst e; rw [if_pos rfl, upd_at]
  · rw [if_neg e, mapTo_get hi, upd_ne (by omega)]
theorem mapTo_lget' {g : Nat → Int} {M a : Nat} (h : a < M) : lget (mapTo g M) a = g a := by
  rw [lget_at (by rw [mapTo_len]; exact h), mapTo_get h]
theorem mapTo_congr' {g h : Nat → Int} {M : Nat} (e : ∀ a, a < M → g a = h a) : mapTo g M = mapTo h M := by
  unfold mapTo
  exact List.map_congr_left (fun a ha => e a (List.mem_range.1 ha))
def amT (ct : Nat → Int) (t0 : Nat → Int) (O : List Int) (k j : Nat) : Int := t0 j + mgT ct O j k
theorem amT_zero (ct : Nat → Int) (t0 : Nat → Int) (O : List Int) : amT ct t0 O 0 = t0 := by funext j; unfold amT mgT; omega
theorem amT_step (ct : Nat → Int) (t0 : Nat → Int) (O : List Int) {k o : Nat} (hk : k < O.length) (ho : O[k] = (o : Int)) (j : Nat) : amT ct t0 O (k + 1) j = upd (amT ct t0 O k) o (amT ct t0 O k o + (ct (bagN (O.take (k + 1))) - ct (bagN (O.take k)))) j := by
  have e : O.getD k 0 = (o : Int) := by rw [← ho]; simp [List.getD, hk]
  unfold amT
  show t0 j + (mgT ct O j k + _) = _
  rw [e]
  by_cases h : j = o
  · subst h; rw [upd_at, if_pos rfl]; omega
  · rw [upd_ne h, if_neg (by omega)]; omega
theorem mgT_bd {ct : Nat → Int} {n : Nat} {O : List Int} (h : Ord n O) (hct : ∀ c, c < 2 ^ n → 0 ≤ ct c ∧ ct c ≤ 1386) (j : Nat) : ∀ t, t ≤ O.length → -(1386 * (t : Int)) ≤ mgT ct O j t ∧ mgT ct O j t ≤ 1386 * (t : Int)
  | 0, _ => by unfold mgT; omega
  | t + 1, ht => by
    have ih := mgT_bd h hct j t (by omega)
    have b1 := hct (bagN (O.take (t + 1))) (bagN_lt (fun y hy => h.rg y (List.mem_of_mem_take hy)))
    have b2 := hct (bagN (O.take t)) (bagN_lt (fun y hy => h.rg y (List.mem_of_mem_take hy)))
    unfold mgT
    split <;> omega
set_option maxRecDepth 100000 in
set_option maxHeartbeats 2000000 in
theorem addMarginal_any (ct : Nat → Int) (n : Nat) (hn7 : n ≤ 7) (hct : ∀ c, c < 2 ^ n → 0 ≤ ct c ∧ ct c ≤ 1386) (P : Nat) (hP : P = 2 ^ n) (A0 : Option Addr) (c0 : Nat) (A1 : Option Addr) (O : List Int) (m c1 : Nat) (g cap base : Nat) (t0 : Nat → Int) (w : World)
    (h0 : IntsAt w A0 (mapTo ct P)) (h1 : IntsAt w A1 O) (hm : O.length = m) (hO : Ord n O) (hto : ∀ j, -1000000000 ≤ t0 j ∧ t0 j ≤ 1000000000) (hown : Own w base (.slice (some ⟨g, 0, none⟩) n cap) (mapTo t0 n)) (hA0 : ∀ ad, A0 = some ad → ad.block ≠ g) (hA1 : ∀ ad, A1 = some ad → O ≠ [] → ad.block ≠ g) :
    Calls Tryz.prog 22 #[.slice A0 P c0, .slice A1 m c1, .slice (some ⟨g, 0, none⟩) n cap] w fun e w' => e = .returned (.tuple #[]) ∧ Own w' base (.slice (some ⟨g, 0, none⟩) n cap) (mapTo (amT ct t0 O m) n) ∧ Turn (fun i => i = g) w w' := by
  have Hm := Lib.hid hm
  have HO := Lib.hid hO
  have HP := Lib.hid hP
  have Hct := Lib.hid hct
  have Hto := Lib.hid hto
  have HA0 := Lib.hid hA0
  have HA1 := Lib.hid hA1
  have hm7 : m ≤ 7 := by have := hO.len; omega
  have hP7 : P ≤ 128 := by rw [hP]; exact Nat.pow_le_pow_right (by omega) hn7
  clear hm hO hP hct hto hA0 hA1
  go_enter Tryz.func22, Tryz.ntmps22
  go_wp2_with fail
  go_loopw [6, 12] (fun sv iv wr => ∃ k : Nat, k ≤ m ∧ iv = .int .i64 k ∧ sv = .int .u64 (bagN (O.take k)) ∧ Own wr base (.slice (some ⟨g, 0, none⟩) n cap) (mapTo (amT ct t0 O k) n) ∧ Turn (fun i => i = g) w wr) (fun _ iv _ => m - (intOf iv).toNat)
  case atStart => exact ⟨0, by omega, rfl, rfl, by rw [amT_zero]; exact hown, Turn.refl _ _⟩
  case round =>
    clear hown
    obtain ⟨k, hk, rfl, rfl, hown, htn⟩ := hrel
    have h1r := h1.turn htn (fun ad e hne hb => HA1.out ad e hne hb)
    by_cases hlt : k < m
    · have lx : k < O.length := by rw [Hm.out]; exact hlt
      obtain ⟨ad1, rfl, hck⟩ := h1r.at_ lx
      have hrg := HO.out.rg _ (List.getElem_mem lx)
      obtain ⟨o, ho⟩ : ∃ o : Nat, O[k] = (o : Int) := ⟨O[k].toNat, by omega⟩
      have Ho := Lib.hid ho
      rw [ho] at hck hrg
      have hon : o < n := by omega
      have hsb : bagN (O.take k) < 2 ^ n := bagN_lt (fun y hy => HO.out.rg y (List.mem_of_mem_take hy))
      have hnb : bagN (O.take (k + 1)) < 2 ^ n := bagN_lt (fun y hy => HO.out.rg y (List.mem_of_mem_take hy))
      obtain ⟨s, Hs⟩ : ∃ z, Hid (bagN (O.take k) = z) := ⟨_, Lib.hid rfl⟩
      obtain ⟨q, Hq⟩ : ∃ z, Hid (bagN (O.take (k + 1)) = z) := ⟨_, Lib.hid rfl⟩
      have Hbq : Hid (q = s ||| 2 ^ o) := by show _ = _; rw [← Hq.out, ← Hs.out, bag_next lx, ho]; rfl
      rw [Hs.out] at hsb ⊢
      rw [Hq.out] at hnb
      have hs128 : s < P := by rw [HP.out]; exact hsb
      have hq128 : q < P := by rw [HP.out]; exact hnb
      have hbs := Hct.out s hsb
      have hbq := Hct.out q hnb
      have hmb := mgT_bd HO.out Hct.out o k (by omega)
      have hto := Hto.out o
      have hp : 2 ^ o < 2 ^ 32 := Nat.pow_lt_pow_right (by omega) (by omega)
      have HSo := Lib.hid (show bits BinOp.or IntKind.u64 (s : Int) (IntKind.u64.wrap (2 ^ o)) = (q : Int) from by
        have e1 := u64_one_shl (o : Int) (by omega) (by omega)
        rw [Int.toNat_natCast] at e1
        rw [e1, u64_or_nat _ _ (by omega) (by omega), Hbq.out])
      obtain ⟨r1, r2, r3⟩ := hown.slotL (mapTo_len _ _) hon
      rw [mapTo_lget' hon] at r1
      obtain ⟨tv, Htv⟩ : ∃ z, Hid (amT ct t0 O k o = z) := ⟨_, Lib.hid rfl⟩
      have htb : -1000100000 ≤ tv ∧ tv ≤ 1000100000 := by rw [← Htv.out]; unfold amT; omega
      rw [Htv.out] at r1
      obtain ⟨cs, Hcs⟩ : ∃ z, Hid (ct s = z) := ⟨_, Lib.hid rfl⟩
      obtain ⟨cq, Hcq⟩ : ∃ z, Hid (ct q = z) := ⟨_, Lib.hid rfl⟩
      rw [Hcs.out] at hbs
      rw [Hcq.out] at hbq
      have h0r := h0.turn htn (fun ad e _ hb => HA0.out ad e hb)
      obtain ⟨ad0, rfl, hcs⟩ := h0r.at_ (k := s) (by rw [mapTo_len]; exact hs128)
      rw [mapTo_get hs128, Hcs.out] at hcs
      obtain ⟨ad0', e0, hcq⟩ := h0r.at_ (k := q) (by rw [mapTo_len]; exact hq128)
      obtain rfl : ad0 = ad0' := by simpa using e0
      rw [mapTo_get hq128, Hcq.out] at hcq
      have hst := r3 (tv + (cq - cs))
      have hw1 : IntKind.i64.wrap (cq - cs) = cq - cs := IntWalk.i64_in _ (by omega)
      have hw2 : IntKind.i64.wrap (tv + (cq - cs)) = tv + (cq - cs) := IntWalk.i64_in _ (by omega)
      have hw3 : wrap64 (cq - cs) = cq - cs := IntWalk.wrap64_in _ (by omega)
      have hw4 : wrap64 (tv + (cq - cs)) = tv + (cq - cs) := IntWalk.wrap64_in _ (by omega)
      have ad_o : (⟨g, 0, none⟩ : Addr).add o = ⟨g, o, none⟩ := add0 _ _
      have HN : Hid ((mapTo (amT ct t0 O k) n).set o (tv + (cq - cs)) = mapTo (amT ct t0 O (k + 1)) n) := by
        show _ = _
        rw [mapTo_set']
        refine mapTo_congr' (fun j _ => ?_)
        rw [amT_step ct t0 O lx Ho.out j, Hq.out, Hs.out, Hcq.out, Hcs.out, Htv.out]
      have HST := Lib.hid hst
      rw [HN.out] at HST
      have e8 : ((o : Int)).toNat = o := Int.toNat_natCast o
      have hsI : (s : Int) < (P : Int) := by omega
      have hqI : (q : Int) < (P : Int) := by omega
      have honI : (o : Int) < (n : Int) := by omega
      clear r3 hst e0 h0r h1r hown ho hp hsb hnb
      have HSq := HSo.out
      go_wp2_with fail
      go_still_tail 15, (by kernel_rfl)
      change wpList _ _ _ _ _ _
      go_wp2_with fail
      go_roundw
      case rel => exact ⟨k + 1, by omega, by go_num, by rw [Hq.out], HST.out.1.kp (Kp.refl _).drew, (htn.trans HST.out.2).trans (Turn.of_kp (Kp.refl _).drew)⟩
      case measure => simp [intOf]; omega
    · obtain rfl : k = m := by omega
      go_wp2_with fail
      go_end0
      exact ⟨rfl, hown, htn⟩
end Go.Proofs.YtggkhieepjnmdaaGreat

namespace Go.Proofs.YtggkhieepjnmdaaGreat
open Go.RowKit Go.Sort Go.Shelf

def sortI_ren : Go.Shelf.Ren := ⟨fun | 189 => 47 | 125 => 58 | 257 => 57 | 128 => 72 | 129 => 73 | 294 => 63 | 295 => 64 | 296 => 65 | 297 => 66 | 298 => 67 | 299 => 68 | 216 => 69 | 300 => 70 | 301 => 71 | 328 => 79 | 329 => 80 | 330 => 81 | 331 => 82 | 332 => 83 | 215 => 84 | 343 => 89 | n => n, fun | 28 => 22 | 3 => 3 | 46 => 56 | 0 => 0 | 51 => 82 | 53 => 84 | 4 => 4 | 183 => 76 | 182 => 75 | 131 => 64 | 5 => 5 | 9 => 9 | 218 => 86 | 222 => 90 | 228 => 94 | 229 => 95 | n => n, fun | n => n⟩
theorem sortI : Go.Proofs.Lays.n189 Tryz.prog sortI_ren := {
  mixed := by kernel_rfl
  f125 := Tryz.func58.trans (congrArg some (by kernel_rfl))
  f128 := Tryz.func72.trans (congrArg some (by kernel_rfl))
  f129 := Tryz.func73.trans (congrArg some (by kernel_rfl))
  f189 := Tryz.func47.trans (congrArg some (by kernel_rfl))
  f215 := Tryz.func84.trans (congrArg some (by kernel_rfl))
  f216 := Tryz.func69.trans (congrArg some (by kernel_rfl))
  f257 := Tryz.func57.trans (congrArg some (by kernel_rfl))
  f294 := Tryz.func63.trans (congrArg some (by kernel_rfl))
  f295 := Tryz.func64.trans (congrArg some (by kernel_rfl))
  f296 := Tryz.func65.trans (congrArg some (by kernel_rfl))
  f297 := Tryz.func66.trans (congrArg some (by kernel_rfl))
  f298 := Tryz.func67.trans (congrArg some (by kernel_rfl))
  f299 := Tryz.func68.trans (congrArg some (by kernel_rfl))
  f300 := Tryz.func70.trans (congrArg some (by kernel_rfl))
  f301 := Tryz.func71.trans (congrArg some (by kernel_rfl))
  f328 := Tryz.func79.trans (congrArg some (by kernel_rfl))
  f329 := Tryz.func80.trans (congrArg some (by kernel_rfl))
  f330 := Tryz.func81.trans (congrArg some (by kernel_rfl))
  f331 := Tryz.func82.trans (congrArg some (by kernel_rfl))
  f332 := Tryz.func83.trans (congrArg some (by kernel_rfl))
  f343 := Tryz.func89.trans (congrArg some (by kernel_rfl))
  t0 := Tryz.underlying0
  a0 := Tryz.isAgg0
  z0 := Tryz.sizeOf0
  v0 := Tryz.zeroValue0
  t3 := Tryz.underlying3
  a3 := Tryz.isAgg3
  z3 := Tryz.sizeOf3
  v3 := Tryz.zeroValue3
  t4 := Tryz.underlying4
  a4 := Tryz.isAgg4
  z4 := Tryz.sizeOf4
  v4 := Tryz.zeroValue4
  t5 := Tryz.underlying5
  a5 := Tryz.isAgg5
  z5 := Tryz.sizeOf5
  v5 := Tryz.zeroValue5
  t9 := Tryz.underlying9
  a9 := Tryz.isAgg9
  z9 := Tryz.sizeOf9
  v9 := Tryz.zeroValue9
  t28 := Tryz.underlying22
  a28 := Tryz.isAgg22
  z28 := Tryz.sizeOf22
  v28 := Tryz.zeroValue22
  t46 := Tryz.underlying56
  a46 := Tryz.isAgg56
  z46 := Tryz.sizeOf56
  v46 := Tryz.zeroValue56
  t51 := Tryz.underlying82
  a51 := Tryz.isAgg82
  z51 := Tryz.sizeOf82
  v51 := Tryz.zeroValue82
  t53 := Tryz.underlying84
  a53 := Tryz.isAgg84
  z53 := Tryz.sizeOf84
  v53 := Tryz.zeroValue84
  t131 := Tryz.underlying64
  a131 := Tryz.isAgg64
  z131 := Tryz.sizeOf64
  v131 := Tryz.zeroValue64
  t182 := Tryz.underlying75
  a182 := Tryz.isAgg75
  z182 := Tryz.sizeOf75
  v182 := Tryz.zeroValue75
  t183 := Tryz.underlying76
  a183 := Tryz.isAgg76
  z183 := Tryz.sizeOf76
  v183 := Tryz.zeroValue76
  t218 := Tryz.underlying86
  a218 := Tryz.isAgg86
  z218 := Tryz.sizeOf86
  v218 := Tryz.zeroValue86
  t222 := Tryz.underlying90
  a222 := Tryz.isAgg90
  z222 := Tryz.sizeOf90
  v222 := Tryz.zeroValue90
  t228 := Tryz.underlying94
  a228 := Tryz.isAgg94
  z228 := Tryz.sizeOf94
  v228 := Tryz.zeroValue94
  t229 := Tryz.underlying95
  a229 := Tryz.isAgg95
  z229 := Tryz.sizeOf95
  v229 := Tryz.zeroValue95 }
theorem turn_put {w : World} {g q : Nat} (d : Array Int) (os : Array Obj) : Turn (fun i => i = g) w (grow (putRow (Value.int .i64) (Sort.ahead w q) g 0 d) os) :=
  ⟨rfl, rfl, rfl, by simp, fun i hi hn => by
    rw [heap_grow_old _ _ (by simpa using hi)]
    simp [putRow, mapBlock, Sort.ahead, Array.getElem?_modify, Ne.symm hn]⟩
theorem own_put {w : World} {base g cap q : Nat} {xs ys : List Int} (h : Own w base (.slice (some ⟨g, 0, none⟩) xs.length cap) xs) (hy : ys.length = xs.length) (os : Array Obj) :
    Own (grow (putRow (Value.int .i64) (Sort.ahead w q) g 0 ys.toArray) os) base (.slice (some ⟨g, 0, none⟩) xs.length cap) ys := by
  have h3 := Lib.ownsRow_putRow (q := q) (k := xs.length) (ys := ys) h hy (Nat.le_refl _)
  rw [List.take_of_length_le (by omega)] at h3
  have h4 := Lib.ownsRow_grow h3 0 os
  unfold Own
  rw [hy]
  exact h4
theorem own_holds {w : World} {base g cap : Nat} {xs : List Int} (h : Own w base (.slice (some ⟨g, 0, none⟩) xs.length cap) xs) : Holds (Value.int .i64) w g 0 xs.toArray ∧ g < w.heap.size := by
  obtain ⟨g2, cap2, e2, _, hlt, _, _, _, hH⟩ := Lib.holds_of_ownsRow h (by simp)
  simp only [Value.slice.injEq, Option.some.injEq, Addr.mk.injEq] at e2
  obtain ⟨⟨rfl, _, _⟩, _, rfl⟩ := e2
  exact ⟨hH, hlt⟩
theorem sortInts_any (base g cap n : Nat) (xs : List Int) (w : World) (h : Own w base (.slice (some ⟨g, 0, none⟩) n cap) xs) (hn : xs.length = n) (hl : n ≤ 1000000) :
    Calls Tryz.prog 47 #[.slice (some ⟨g, 0, none⟩) n cap] w fun e w' => e = .returned (.tuple #[]) ∧ Own w' base (.slice (some ⟨g, 0, none⟩) n cap) (xs.mergeSort fun x y => decide (x ≤ y)) ∧ Turn (fun i => i = g) w w' := by
  subst hn
  obtain ⟨hH, hlt⟩ := own_holds h
  refine Calls.mono (Any.slices_Sort_int sortI g 0 cap xs w hH hlt (by omega)) ?_
  rintro e w' ⟨rfl, q, os, rfl⟩
  exact ⟨rfl, own_put h (by simp) os, turn_put _ os⟩
end Go.Proofs.YtggkhieepjnmdaaGreat

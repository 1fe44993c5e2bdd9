/- The field with some clients alone: the walks. No condition. -/
import Derived.Test.YtkaammkanapkmaaGreatQAf
import Derived.Deep.AppendLies
import Derived.Deep.RegionLaw
namespace Go.Proofs.YtkaammkanapkmaaGreat
open Go.RowKit Go.Sort

def f2 (a b : Value) (j : Nat) : Value := if j = 0 then a else b
theorem row2f (w : World) (a b : Value) (t : TypeId) : (w.alloc (.cells #[a, b] t)).rowIs w.heap.size t 2 (f2 a b) :=
  World.rowIs_alloc w #[a, b] t _ (fun i hi => by
    have : i = 0 ∨ i = 1 := by simp at hi; omega
    rcases this with rfl | rfl <;> rfl)
theorem at2 {w : World} {g : Nat} {t : TypeId} {a b : Value} (h : w.rowIs g t 2 (f2 a b)) :
    w.cell? ⟨g, 0, none⟩ = some a ∧ w.cell? ⟨g, 1, none⟩ = some b ∧ ∀ j, w.frozen? ⟨g, j, none⟩ = false :=
  ⟨h.cell (i := 0) (by omega), h.cell (i := 1) (by omega), fun j => h.frozen j⟩
theorem set2 {w : World} {g : Nat} {t : TypeId} {a b : Value} (h : w.rowIs g t 2 (f2 a b)) (v : Value) :
    (w.setCell ⟨g, 0, none⟩ v).rowIs g t 2 (f2 v b) ∧ (w.setCell ⟨g, 1, none⟩ v).rowIs g t 2 (f2 a v) := by
  refine ⟨(h.set 0 v).congr ?_, (h.set 1 v).congr ?_⟩ <;>
    (intro i hi
     have : i = 0 ∨ i = 1 := by omega
     rcases this with rfl | rfl <;> rfl)
theorem row_turn {S : Nat → Prop} {w w' : World} {g n : Nat} {t : TypeId} {f : Nat → Value} (h : w.rowIs g t n f) (ht : Turn S w w') (hn : ¬ S g) : w'.rowIs g t n f := h.of_block (ht.block g h.lt hn)
theorem setCell_turn (w : World) (p : Addr) (v : Value) : Turn (fun i => i = p.block) w (w.setCell p v) :=
  ⟨rfl, rfl, rfl, by simp [World.setCell], fun i _ hn => Below.heap_setCell _ _ _ _ (by exact hn)⟩
/-- The loop that gathers the rows: k of them are there. -/
def Gath (w : World) (T R base : Nat) (Ah Bh : Value) (bd : Addr) (C : List Int) (k : Nat) (ov : Value) (wr : World) : Prop :=
  wr.rowIs T 27 2 (f2 Ah ov) ∧ wr.rowIs R 27 2 (f2 (.slice none 0 0) (.slice none 0 0)) ∧ wr.rowIs w.heap.size 27 2 (f2 Ah Bh) ∧ wr.ownsRow base 24 1 ov k (hdrs w bd C k) ∧ (∀ g, ov.ownBlock = some g → g ≠ T) ∧ Kp w wr
/-- A round: a new block, an append, a store. -/
theorem Gath.round {w : World} {T R base : Nat} {Ah Bh : Value} {bd : Addr} {C : List Int} {k : Nat} {ov : Value} {wr : World} (h : Gath w T R base Ah Bh bd C k ov wr) (hk : k < C.length) (hT : w.heap.size < T) (hTR : R ≠ T) (hR : w.heap.size < R) (hb : R < base) {W1 : World} (hk1 : Kp wr W1) {v' : Value} {w' : World} (ho : w'.ownsRow base 24 1 v' (k + 1) (hdrs w bd C k ++ [cvAt (bd.add (C[k]).toNat) w])) (ht : Turn (fun i => ov.ownBlock = some i) W1 w') (h4 : v'.ownBlock = ov.ownBlock ∨ ∀ g, v'.ownBlock = some g → W1.heap.size ≤ g) :
    Kp w w' ∧ w'.rowIs T 27 2 (f2 Ah ov) ∧ w'.rowIs w.heap.size 27 2 (f2 Ah Bh) ∧ Gath w T R base Ah Bh bd C (k + 1) v' (w'.setCell ⟨T, 1, none⟩ v') := by
  obtain ⟨r1, r2, r3, ho0, hap, hkw⟩ := h
  have hlt : ∀ g, ov.ownBlock = some g → base ≤ g := fun g hg => (World.ownsRow.lt ho0 g hg).1
  have t1 := row_turn (hk1.row r1) ht (fun hg => hap _ hg rfl)
  have t2 := row_turn (hk1.row r2) ht (fun hg => by have := hlt _ hg; omega)
  have t3 := row_turn (hk1.row r3) ht (fun hg => by have := hlt _ hg; omega)
  have hkw' : Kp w w' := (hkw.trans hk1).turn ht (fun i hi => by have := hlt i hi; omega)
  have ts := setCell_turn w' ⟨T, 1, none⟩ v'
  have hlT : T < wr.heap.size := r1.lt
  have hap' : ∀ g, v'.ownBlock = some g → g ≠ T := fun g hg => by
    rcases h4 with e | e
    · exact hap g (e ▸ hg)
    · have := e g hg
      have := hk1.le
      omega
  refine ⟨hkw', t1, t3, (set2 t1 v').2, row_turn t2 ts (fun e => hTR e), row_turn t3 ts (fun e => by have e2 : w.heap.size = T := e; omega), ?_, hap', hkw'.setCell (p := ⟨T, 1, none⟩) (by show w.heap.size ≤ T; omega) v'⟩
  rw [hdrs_succ hk]
  exact own_turn ho ts (fun g hg e => hap' g hg e)
theorem own_blk {g' g n c : Nat} (h : (Value.slice (some ⟨g', 0, none⟩) n c).ownBlock = some g) : g' = g := by simpa [Value.ownBlock] using h
theorem gath_keep {w wr w' : World} {T R base : Nat} {Ah Bh : Value} {bd : Addr} {C : List Int} {k : Nat} {ov u : Value} {q : Addr} (h : Gath w T R base Ah Bh bd C k ov wr) (hq : wr.cell? q = some u) (hk : Kp wr w') :
    w'.cell? ⟨w.heap.size, 1, none⟩ = some Bh ∧ w'.cell? q = some u ∧ Kp w w' := by
  obtain ⟨_, _, r3, _, _, hkw⟩ := h
  exact ⟨hk.get (at2 r3).2.1, hk.get hq, hkw.trans hk⟩
theorem gath_keep4 {w w' : World} {T : Nat} {Ah Bh ov u : Value} {q : Addr} {C : Prop} (h : Kp w w' ∧ w'.rowIs T 27 2 (f2 Ah ov) ∧ w'.rowIs w.heap.size 27 2 (f2 Ah Bh) ∧ C) (hq : w.cell? q = some u) :
    w'.cell? ⟨w.heap.size, 1, none⟩ = some Bh ∧ w'.cell? q = some u ∧ Kp w w' :=
  ⟨(at2 h.2.2.1).2.1, h.1.get hq, h.1⟩
theorem gath_keep5 {w w' : World} {T R base : Nat} {Ah Bh : Value} {bd : Addr} {C : List Int} {k : Nat} {ov u : Value} {q : Addr} (h : Gath w T R base Ah Bh bd C k ov w') (hq : w.cell? q = some u) :
    w'.cell? ⟨w.heap.size, 1, none⟩ = some Bh ∧ w'.cell? q = some u ∧ Kp w w' :=
  gath_keep h (h.2.2.2.2.2.get hq) (Kp.refl _)
set_option maxRecDepth 100000 in
set_option maxHeartbeats 2000000 in
theorem only_any (f : Value) (F : Fld) (A0 : Option Addr) (C : List Int) (n c0 : Nat) (w : World) (hf : FldAt w f F) (hC : IntsAt w A0 C) (hn : C.length = n) (hg : goodF F = true) (hc : crowdB F C = true) :
    Calls Tryz.prog 57 #[f, .slice A0 n c0] w fun e w' => ∃ v, e = .returned v ∧ FldAt w' v (partF F C) ∧ Kp w w' := by
  obtain ⟨A, c, B, d, rfl, hA, hB⟩ := hf
  have hn7 : n ≤ 7 := by have := crowd_len hc; have := (goodF_iff.1 hg).2.2.1; omega
  have hnb := hC.1
  have Hn := Lib.hid hn
  have Hm := Lib.hid (crowd_mem hc)
  obtain ⟨bd, hbd⟩ : ∃ bd, C ≠ [] → B = some bd := by
    cases B with
    | some b => exact ⟨b, fun _ => rfl⟩
    | none =>
      refine ⟨⟨0, 0, none⟩, fun hne => ?_⟩
      have h0 := crowd_mem hc _ (List.getElem_mem (List.length_pos_iff.2 hne))
      obtain ⟨b, _, _, e, _⟩ := hB.at_ (k := 0) (by omega)
      cases e
  have HB := Lib.hid (fun hne : C ≠ [] => (hbd hne ▸ hB : GridAt w (some bd) F.di))
  have HA := Lib.hid hA
  replace hbd := Lib.hid hbd
  clear hn hc hg hA
  have r1 := row2f w (.slice A F.op.length c) (.slice B F.di.length d) 27
  have r2 := (row2f (w.alloc (.cells #[.slice A F.op.length c, .slice B F.di.length d] 27)) (.slice none 0 0) (.slice none 0 0) 27).alloc (.cells #[.slice A F.op.length c, .slice none 0 0] 27)
  have r3 := row2f ((w.alloc (.cells #[.slice A F.op.length c, .slice B F.di.length d] 27)).alloc (.cells #[.slice none 0 0, .slice none 0 0] 27)) (.slice A F.op.length c) (.slice none 0 0) 27
  have hkw : Kp w (((w.alloc (.cells #[.slice A F.op.length c, .slice B F.di.length d] 27)).alloc (.cells #[.slice none 0 0, .slice none 0 0] 27)).alloc (.cells #[.slice A F.op.length c, .slice none 0 0] 27)) := (((Kp.refl w).alloc _).alloc _).alloc _
  replace r1 := ((((Kp.refl (w.alloc (.cells #[.slice A F.op.length c, .slice B F.di.length d] 27))).alloc (.cells #[.slice none 0 0, .slice none 0 0] 27)).alloc (.cells #[.slice A F.op.length c, .slice none 0 0] 27))).row r1
  simp only [World.size_alloc] at r1 r2 r3
  have hG0 : Gath w (w.heap.size + 1 + 1) (w.heap.size + 1) (w.heap.size + 1 + 1) (.slice A F.op.length c) (.slice B F.di.length d) bd C 0 (.slice none 0 0) (((w.alloc (.cells #[.slice A F.op.length c, .slice B F.di.length d] 27)).alloc (.cells #[.slice none 0 0, .slice none 0 0] 27)).alloc (.cells #[.slice A F.op.length c, .slice none 0 0] 27)) :=
    ⟨r3, r2, r1, World.ownsRow_nil _ _ _ _, (fun g hg => by simp [Value.ownBlock] at hg), hkw⟩
  clear r1 r2 r3 hkw
  go_enter Tryz.func57, Tryz.ntmps57
  go_wp2_with fail
  go_loopw [13] (fun iv wr => ∃ (k : Nat) (ov : Value), k ≤ n ∧ iv = .int .i64 k ∧ Gath w (w.heap.size + 1 + 1) (w.heap.size + 1) (w.heap.size + 1 + 1) (.slice A F.op.length c) (.slice B F.di.length d) bd C k ov wr) (fun iv _ => n - (intOf iv).toNat)
  case atStart => exact ⟨0, _, by omega, rfl, hG0⟩
  case round =>
    obtain ⟨k, ov, hk, rfl, hG⟩ := hrel
    have hG' := hG
    obtain ⟨r1, r2, r3, ho, hap, hkb⟩ := hG'
    obtain ⟨t0, t1, tf⟩ := at2 r1
    obtain ⟨z0, z1, _⟩ := at2 r3
    by_cases hlt : k < n
    · have lx : k < C.length := by rw [Hn.out]; exact hlt
      have hne : C ≠ [] := fun e => by subst e; simp at lx
      obtain ⟨ad, rfl, hck⟩ := (hC.kp hkb).at_ lx
      obtain ⟨i0, i1⟩ := Hm.out _ (List.getElem_mem lx)
      have hi : (C[k]).toNat < F.di.length := by omega
      have hbe := hbd.out hne
      subst hbe
      obtain ⟨A3, c3, hcl0, hri⟩ := (HB.out hne).some_ hi
      have hcl := hkb.get hcl0
      have Hcv : Hid (cvAt (bd.add (C[k]).toNat) w = .slice A3 F.di[(C[k]).toNat].length c3) := cv_of hcl0
      have tf1 := tf 1
      have HT1 := Lib.hid t1
      have HG := Lib.hid hG
      have HO := Lib.hid ho
      have x1 := (Kp.refl wr).drew.get t1
      have x2 := (Kp.refl wr).drew.get z1
      have x3 := (Kp.refl wr).drew.get hcl
      have x4 := (Kp.refl wr).drew.get hck
      have y1 := ((Kp.refl wr).alloc (.cells #[.slice A3 F.di[(C[k]).toNat].length c3] 24)).drew.get t1
      have hOV := Lib.hid (((Kp.refl wr).alloc (.cells #[.slice A3 F.di[(C[k]).toNat].length c3] 24)).drew.own ho)
      have hbs : w.heap.size + 1 + 1 ≤ (wr.alloc (.cells #[.slice A3 F.di[(C[k]).toNat].length c3] 24)).drew.heap.size := by have := r1.lt; show _ ≤ (wr.alloc _).heap.size; simp; omega
      clear hG r1 r2 r3 z0 t0 t1 z1 tf1 ho
      go_wp2_with fail
      go_region_law (first
        | (refine step_appv (by rfl) (.tmp 18) (.tmp 24) (by rfl) (w.heap.size + 1 + 1) ov k (hdrs w bd C k) (.slice A3 F.di[(C[k]).toNat].length c3) ⟨wr.heap.size, 0, none⟩ (by rfl) (by rfl) hOV.out rfl ((Kp.refl _).drew.get (by rw [World.cell?_alloc_at _ _ _ _ rfl]; rfl)) hbs (by omega) ?_; intro g' c' w' ho' ht' h4'; have hG4 := Gath.round HG.out lx (by omega) (by omega) (by omega) (by omega) ((Kp.refl wr).alloc _).drew (by rw [Hcv.out]; exact ho') ht' (h4'.imp (fun e => by rw [e]; rfl) (fun e g hg => own_blk hg ▸ e)); have s1 := (at2 hG4.2.1).2.1; have s2 := (at2 hG4.2.1).2.2 1)
        | fail)
      all_goals
        have hG5 := hG4.2.2.2
        go_wp2_with fail
        go_roundw
        case rel => exact ⟨k + 1, _, by omega, by go_num, hG5⟩
        case measure => simp [intOf]; omega
    · obtain rfl : k = n := by omega
      obtain ⟨y0, y1, yf⟩ := at2 r2
      have yf0 := yf 0
      have yf1 := yf 1
      rw [← Hn.out] at ho
      obtain ⟨Ao, co, rfl, _⟩ := hdrs_grid (F := F) HB.out hkb Hm.out (by rw [Hn.out]; exact hn7) ho
      have q1 := (set2 (set2 r2 (.slice A F.op.length c)).1 (.slice Ao (partF F C).di.length co)).2
      obtain ⟨x0, x1, _⟩ := at2 q1
      have X0 := Lib.hid x0
      have X1 := Lib.hid x1
      have ht := (setCell_turn wr ⟨w.heap.size + 1, 0, none⟩ (.slice A F.op.length c)).trans (setCell_turn (wr.setCell ⟨w.heap.size + 1, 0, none⟩ (.slice A F.op.length c)) ⟨w.heap.size + 1, 1, none⟩ (.slice Ao (partF F C).di.length co))
      have hks := hkb.turn ht (fun i hi => by have e : i = w.heap.size + 1 := hi; omega)
      have ho' := own_turn ho ht (fun g hg e => by have h1 := (World.ownsRow.lt ho g hg).1; have e2 : g = w.heap.size + 1 := e; omega)
      obtain ⟨Ao', co', he', hgr⟩ := hdrs_grid (F := F) HB.out hks Hm.out (by rw [Hn.out]; exact hn7) ho'
      simp only [Value.slice.injEq] at he'
      obtain ⟨rfl, _, rfl⟩ := he'
      have HGR := Lib.hid hgr
      have HKS := Lib.hid hks
      clear r1 r2 r3 yf hG x0 x1 q1 ht ho' hgr hks ho hap
      go_wp2_with fail
      have x0 := X0.out
      have x1 := X1.out
      refine bodyPost_ret (v := .agg #[.slice A F.op.length c, .slice Ao (partF F C).di.length co]) (by simp [results, Tryz.results57, go_sem, x0, x1]) (by simp [go_sem]) ?_
      exact ⟨_, rfl, ⟨A, c, Ao, co, rfl, HA.out.kp HKS.out, HGR.out⟩, HKS.out⟩
set_option maxRecDepth 100000 in
set_option maxHeartbeats 2000000 in
theorem l9Part_any (f : Value) (F : Fld) (A0 : Option Addr) (C : List Int) (n c0 : Nat) (w : World) (hf : FldAt w f F) (hC : IntsAt w A0 C) (hn : C.length = n) (hg : goodF F = true) (hc : crowdB F C = true) :
    Calls Tryz.prog 59 #[f, .slice A0 n c0] w fun e w' => ∃ v, e = .returned v ∧ FldAt w' v (partF F C) ∧ Kp w w' := by
  obtain ⟨A, c, B, d, rfl, hA, hB⟩ := hf
  have hn7 : n ≤ 7 := by have := crowd_len hc; have := (goodF_iff.1 hg).2.2.1; omega
  have hnb := hC.1
  have Hn := Lib.hid hn
  have Hm := Lib.hid (crowd_mem hc)
  obtain ⟨bd, hbd⟩ : ∃ bd, C ≠ [] → B = some bd := by
    cases B with
    | some b => exact ⟨b, fun _ => rfl⟩
    | none =>
      refine ⟨⟨0, 0, none⟩, fun hne => ?_⟩
      have h0 := crowd_mem hc _ (List.getElem_mem (List.length_pos_iff.2 hne))
      obtain ⟨b, _, _, e, _⟩ := hB.at_ (k := 0) (by omega)
      cases e
  have HB := Lib.hid (fun hne : C ≠ [] => (hbd hne ▸ hB : GridAt w (some bd) F.di))
  have HA := Lib.hid hA
  replace hbd := Lib.hid hbd
  clear hn hc hg hA
  have r1 := row2f w (.slice A F.op.length c) (.slice B F.di.length d) 27
  have K3 : Kp (w.alloc (.cells #[.slice A F.op.length c, .slice B F.di.length d] 27)) ((((w.alloc (.cells #[.slice A F.op.length c, .slice B F.di.length d] 27)).alloc (.cells #[.slice none 0 0, .slice none 0 0] 27)).alloc (.cells #[] 24)).alloc (.cells #[.slice A F.op.length c, .slice (some ⟨w.heap.size + 1 + 1, 0, none⟩) 0 0] 27)) := (((Kp.refl _).alloc _).alloc _).alloc _
  have r2 := ((row2f (w.alloc (.cells #[.slice A F.op.length c, .slice B F.di.length d] 27)) (.slice none 0 0) (.slice none 0 0) 27).alloc (.cells #[] 24)).alloc (.cells #[.slice A F.op.length c, .slice (some ⟨w.heap.size + 1 + 1, 0, none⟩) 0 0] 27)
  have r3 := row2f (((w.alloc (.cells #[.slice A F.op.length c, .slice B F.di.length d] 27)).alloc (.cells #[.slice none 0 0, .slice none 0 0] 27)).alloc (.cells #[] 24)) (.slice A F.op.length c) (.slice (some ⟨w.heap.size + 1 + 1, 0, none⟩) 0 0) 27
  have r4 := (World.ownsRow_lit (e := 24) (size := 1) (base := w.heap.size + 1 + 1) ((w.alloc (.cells #[.slice A F.op.length c, .slice B F.di.length d] 27)).alloc (.cells #[.slice none 0 0, .slice none 0 0] 27)) #[] 0 (by simp) (by unfold maxLen; omega) (by simp))
  replace r4 := ((Kp.refl _).alloc (.cells #[.slice A F.op.length c, .slice (some ⟨w.heap.size + 1 + 1, 0, none⟩) 0 0] 27)).own r4
  have hkw : Kp w ((((w.alloc (.cells #[.slice A F.op.length c, .slice B F.di.length d] 27)).alloc (.cells #[.slice none 0 0, .slice none 0 0] 27)).alloc (.cells #[] 24)).alloc (.cells #[.slice A F.op.length c, .slice (some ⟨w.heap.size + 1 + 1, 0, none⟩) 0 0] 27)) := ((((Kp.refl w).alloc _).alloc _).alloc _).alloc _
  replace r1 := K3.row r1
  simp only [World.size_alloc] at r1 r2 r3 r4
  have hG0 : Gath w (w.heap.size + 1 + 1 + 1) (w.heap.size + 1) (w.heap.size + 1 + 1) (.slice A F.op.length c) (.slice B F.di.length d) bd C 0 (.slice (some ⟨w.heap.size + 1 + 1, 0, none⟩) 0 0) ((((w.alloc (.cells #[.slice A F.op.length c, .slice B F.di.length d] 27)).alloc (.cells #[.slice none 0 0, .slice none 0 0] 27)).alloc (.cells #[] 24)).alloc (.cells #[.slice A F.op.length c, .slice (some ⟨w.heap.size + 1 + 1, 0, none⟩) 0 0] 27)) :=
    ⟨r3, r2, r1, r4, (fun g hg => by have := own_blk hg; omega), hkw⟩
  clear r1 r2 r3 r4 hkw K3
  go_enter Tryz.func59, Tryz.ntmps59
  go_wp2_with fail
  go_loopw [6] (fun iv wr => ∃ (k : Nat) (ov : Value), k ≤ n ∧ iv = .int .i64 k ∧ Gath w (w.heap.size + 1 + 1 + 1) (w.heap.size + 1) (w.heap.size + 1 + 1) (.slice A F.op.length c) (.slice B F.di.length d) bd C k ov wr) (fun iv _ => n - (intOf iv).toNat)
  case atStart => exact ⟨0, _, by omega, rfl, hG0⟩
  case round =>
    obtain ⟨k, ov, hk, rfl, hG⟩ := hrel
    have hG' := hG
    obtain ⟨r1, r2, r3, ho, hap, hkb⟩ := hG'
    obtain ⟨t0, t1, tf⟩ := at2 r1
    obtain ⟨z0, z1, _⟩ := at2 r3
    by_cases hlt : k < n
    · have lx : k < C.length := by rw [Hn.out]; exact hlt
      have hne : C ≠ [] := fun e => by subst e; simp at lx
      obtain ⟨ad, rfl, hck⟩ := (hC.kp hkb).at_ lx
      obtain ⟨i0, i1⟩ := Hm.out _ (List.getElem_mem lx)
      have hi : (C[k]).toNat < F.di.length := by omega
      have hbe := hbd.out hne
      subst hbe
      obtain ⟨A3, c3, hcl0, hri⟩ := (HB.out hne).some_ hi
      have hcl := hkb.get hcl0
      have Hcv : Hid (cvAt (bd.add (C[k]).toNat) w = .slice A3 F.di[(C[k]).toNat].length c3) := cv_of hcl0
      have tf1 := tf 1
      have HT1 := Lib.hid t1
      have HG := Lib.hid hG
      have HO := Lib.hid ho
      have x1 := (Kp.refl wr).drew.get t1
      have x2 := (Kp.refl wr).drew.get z1
      have x3 := (Kp.refl wr).drew.get hcl
      have x4 := (Kp.refl wr).drew.get hck
      have y1 := ((Kp.refl wr).alloc (.cells #[.slice A3 F.di[(C[k]).toNat].length c3] 24)).drew.get t1
      have hOV := Lib.hid (((Kp.refl wr).alloc (.cells #[.slice A3 F.di[(C[k]).toNat].length c3] 24)).drew.own ho)
      have hbs : w.heap.size + 1 + 1 ≤ (wr.alloc (.cells #[.slice A3 F.di[(C[k]).toNat].length c3] 24)).drew.heap.size := by have := r1.lt; show _ ≤ (wr.alloc _).heap.size; simp; omega
      clear hG r1 r2 r3 z0 t0 t1 z1 tf1 ho
      go_wp2_with fail
      go_region_law (first
        | (refine step_appv (by rfl) (.tmp 18) (.tmp 27) (by rfl) (w.heap.size + 1 + 1) ov k (hdrs w bd C k) (.slice A3 F.di[(C[k]).toNat].length c3) ⟨wr.heap.size, 0, none⟩ (by rfl) (by rfl) hOV.out rfl ((Kp.refl _).drew.get (by rw [World.cell?_alloc_at _ _ _ _ rfl]; rfl)) hbs (by omega) ?_; intro g' c' w' ho' ht' h4'; have hG4 := Gath.round HG.out lx (by omega) (by omega) (by omega) (by omega) ((Kp.refl wr).alloc _).drew (by rw [Hcv.out]; exact ho') ht' (h4'.imp (fun e => by rw [e]; rfl) (fun e g hg => own_blk hg ▸ e)); have s1 := (at2 hG4.2.1).2.1; have s2 := (at2 hG4.2.1).2.2 1)
        | fail)
      all_goals
        have hG5 := hG4.2.2.2
        go_wp2_with fail
        go_roundw
        case rel => exact ⟨k + 1, _, by omega, by go_num, hG5⟩
        case measure => simp [intOf]; omega
    · obtain rfl : k = n := by omega
      obtain ⟨y0, y1, yf⟩ := at2 r2
      have yf0 := yf 0
      have yf1 := yf 1
      rw [← Hn.out] at ho
      obtain ⟨Ao, co, rfl, _⟩ := hdrs_grid (F := F) HB.out hkb Hm.out (by rw [Hn.out]; exact hn7) ho
      have q1 := (set2 (set2 r2 (.slice A F.op.length c)).1 (.slice Ao (partF F C).di.length co)).2
      obtain ⟨x0, x1, _⟩ := at2 q1
      have X0 := Lib.hid x0
      have X1 := Lib.hid x1
      have ht := (setCell_turn wr ⟨w.heap.size + 1, 0, none⟩ (.slice A F.op.length c)).trans (setCell_turn (wr.setCell ⟨w.heap.size + 1, 0, none⟩ (.slice A F.op.length c)) ⟨w.heap.size + 1, 1, none⟩ (.slice Ao (partF F C).di.length co))
      have hks := hkb.turn ht (fun i hi => by have e : i = w.heap.size + 1 := hi; omega)
      have ho' := own_turn ho ht (fun g hg e => by have h1 := (World.ownsRow.lt ho g hg).1; have e2 : g = w.heap.size + 1 := e; omega)
      obtain ⟨Ao', co', he', hgr⟩ := hdrs_grid (F := F) HB.out hks Hm.out (by rw [Hn.out]; exact hn7) ho'
      simp only [Value.slice.injEq] at he'
      obtain ⟨rfl, _, rfl⟩ := he'
      have HGR := Lib.hid hgr
      have HKS := Lib.hid hks
      clear r1 r2 r3 yf hG x0 x1 q1 ht ho' hgr hks ho hap
      go_wp2_with fail
      have x0 := X0.out
      have x1 := X1.out
      refine bodyPost_ret (v := .agg #[.slice A F.op.length c, .slice Ao (partF F C).di.length co]) (by simp [results, Tryz.results59, go_sem, x0, x1]) (by simp [go_sem]) ?_
      exact ⟨_, rfl, ⟨A, c, Ao, co, rfl, HA.out.kp HKS.out, HGR.out⟩, HKS.out⟩
end Go.Proofs.YtkaammkanapkmaaGreat

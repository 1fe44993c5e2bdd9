/- The drawing of arguments: a field that is read, away from some blocks; what spoils a field. No condition. -/
import Derived.Test.YtpiijhfjliolfaaGreatQBf
namespace Go.Proofs.YtpiijhfjliolfaaGreat
open Go.RowKit Go.Sort

def IntsP (w : World) (P : Nat → Prop) (A : Option Addr) (xs : List Int) : Prop := IntsAt w A xs ∧ (∀ ad, A = some ad → P ad.block) ∧ xs.length ≤ 100
def GridP (w : World) (P : Nat → Prop) (B : Option Addr) (rows : List (List Int)) : Prop :=
  rows.length ≤ 90 ∧ ∀ k (_ : k < rows.length), ∃ bd A c, B = some bd ∧ P bd.block ∧ w.cell? (bd.add k) = some (.slice A rows[k].length c) ∧ IntsP w P A rows[k]
/-- A field that is read; all of it lies in blocks of which P is so. -/
def FldP (w : World) (P : Nat → Prop) (v : Value) (F : Fld) : Prop :=
  ∃ A c B d, v = .agg #[.slice A F.op.length c, .slice B F.di.length d] ∧ IntsP w P A F.op ∧ GridP w P B F.di
section
variable {S P P' : Nat → Prop} {w w' : World}
theorem ints_turnD {A : Option Addr} {xs : List Int} (h : IntsAt w A xs) (ht : Turn S w w') (hn : ∀ ad, A = some ad → ¬ S ad.block) : IntsAt w' A xs :=
  ⟨h.1, fun k hk => by
    obtain ⟨ad, e, hc⟩ := h.2 k hk
    exact ⟨ad, e, turn_cellD ht hc (by rw [blk_add]; exact hn ad e)⟩⟩
theorem IntsP.turn {A : Option Addr} {xs : List Int} (h : IntsP w P A xs) (ht : Turn S w w') (hn : ∀ i, P i → ¬ S i) : IntsP w' P A xs :=
  ⟨ints_turnD h.1 ht (fun ad e => hn _ (h.2.1 ad e)), h.2⟩
theorem GridP.turn {B : Option Addr} {rows : List (List Int)} (h : GridP w P B rows) (ht : Turn S w w') (hn : ∀ i, P i → ¬ S i) : GridP w' P B rows :=
  ⟨h.1, fun k hk => by
    obtain ⟨bd, A, c, e, hp, hc, hi⟩ := h.2 k hk
    exact ⟨bd, A, c, e, hp, turn_cellD ht hc (by rw [blk_add]; exact hn _ hp), hi.turn ht hn⟩⟩
theorem FldP.turn {v : Value} {F : Fld} (h : FldP w P v F) (ht : Turn S w w') (hn : ∀ i, P i → ¬ S i) : FldP w' P v F := by
  obtain ⟨A, c, B, d, e, h1, h2⟩ := h
  exact ⟨A, c, B, d, e, h1.turn ht hn, h2.turn ht hn⟩
theorem FldP.kp {v : Value} {F : Fld} (h : FldP w P v F) (hk : Kp w w') : FldP w' P v F := h.turn (Turn.of_kp (S := fun _ => False) hk) (fun _ _ h => h)
theorem IntsP.mono {A : Option Addr} {xs : List Int} (h : IntsP w P A xs) (hp : ∀ i, P i → P' i) : IntsP w P' A xs := ⟨h.1, fun ad e => hp _ (h.2.1 ad e), h.2.2⟩
theorem FldP.mono {v : Value} {F : Fld} (h : FldP w P v F) (hp : ∀ i, P i → P' i) : FldP w P' v F := by
  obtain ⟨A, c, B, d, e, h1, h2⟩ := h
  exact ⟨A, c, B, d, e, h1.mono hp, h2.1, fun k hk => by
    obtain ⟨bd, A, c, e, hq, hc, hi⟩ := h2.2 k hk
    exact ⟨bd, A, c, e, hp _ hq, hc, hi.mono hp⟩⟩
theorem FldP.fld {v : Value} {F : Fld} (h : FldP w P v F) : FldAt w v F := by
  obtain ⟨A, c, B, d, e, h1, h2⟩ := h
  exact ⟨A, c, B, d, e, h1.1, Nat.le_trans h2.1 (by omega), fun k hk => by
    obtain ⟨bd, A, c, e, _, hc, hi⟩ := h2.2 k hk
    have er : F.di.getD k [] = F.di[k] := by simp [List.getD, hk]
    rw [er]
    exact ⟨bd, A, c, e, hc, hi.1⟩⟩
theorem FldP.zero (w : World) (P : Nat → Prop) : FldP w P (.agg #[.slice none 0 0, .slice none 0 0]) ⟨[], []⟩ :=
  ⟨none, 0, none, 0, rfl, ⟨IntsAt.nil _ _, (fun _ e => by cases e), by simp⟩, by simp, fun k hk => by simp at hk⟩
theorem Own.intsP {base : Nat} {A : Option Addr} {n c : Nat} {xs : List Int} (h : Own w base (.slice A n c) xs) (hn : xs.length ≤ 100) (hp : ∀ ad, A = some ad → P ad.block) : IntsP w P A xs := ⟨h.intsOf (by omega), hp, hn⟩
theorem DMat.gridP {base J M : Nat} {B Cp : Nat → Nat} {f : Nat → Nat → Int} {A : Option Addr} {c : Nat} (h : DMat w base (.slice A J c) J M B Cp f) (hJ : J ≤ 90) (hM : M ≤ 100) (hp : ∀ ad, A = some ad → P ad.block) (hb : ∀ j, j < J → P (B j)) : GridP w P A (matL J M f) := by
  refine ⟨by rw [matL_len]; omega, fun k hk => ?_⟩
  have hk' : k < J := by rw [matL_len] at hk; exact hk
  obtain ⟨g, cap, e, hm⟩ := h.mat (by omega)
  simp only [Value.slice.injEq] at e
  obtain ⟨rfl, -, rfl⟩ := e
  have er : (matL J M f)[k] = mapTo (f k) M := by simp [matL]
  rw [er]
  exact ⟨_, _, _, rfl, hp _ rfl, by rw [add0, mapTo_len]; exact hm.hcell hk', hm.ints (by omega) hk', (fun ad e => by cases e; exact hb k hk'), by rw [mapTo_len]; exact hM⟩
end
/-- Before the field is handed out. -/
structure SQ (w0 wr : World) (p bx rb m : Nat) (av dv : Value) (F : Fld) : Prop where
  rt : wr.there rb 0 2
  fp : FldP wr (fun i => w0.heap.size ≤ i ∧ i ≠ bx ∧ i ≠ rb) (.agg #[av, dv]) F
  cu : Cur wr p m
  tp : Tp p w0 wr
  lo : p < rb ∧ w0.heap.size ≤ rb
theorem SQ.ret {w0 wr : World} {p bx rb m : Nat} {av dv : Value} {F : Fld} (h : SQ w0 wr p bx rb m av dv F) : (wr.setCells rb 0 [av, dv]).cell? ⟨rb, 0, none⟩ = some av ∧ (wr.setCells rb 0 [av, dv]).cell? ⟨rb, 1, none⟩ = some dv ∧ FldP (wr.setCells rb 0 [av, dv]) (fun i => w0.heap.size ≤ i) (.agg #[av, dv]) F ∧ Cur (wr.setCells rb 0 [av, dv]) p m ∧ Tp p w0 (wr.setCells rb 0 [av, dv]) := by
  have hl := h.lo
  have ts := turn_setCellsD rb [av, dv] 0 wr
  have hr := World.rangeAt_setCells_same wr rb 0 [av, dv] h.rt
  exact ⟨hr 0 _ rfl, hr 1 _ rfl, (h.fp.turn ts (fun i hi => hi.2.2)).mono (fun i hi => hi.1), h.cu.turn ts (fun i hi => by omega), ⟨ts.os.trans h.tp.os, ts.tape.trans h.tp.tape, ts.output.trans h.tp.output, Nat.le_trans h.tp.size ts.size, fun i hi hn => by
    rw [ts.block i (Nat.lt_of_lt_of_le hi h.tp.size) (by omega), h.tp.block i hi hn]⟩⟩
/-- The box has turned. -/
theorem SQ.box {w0 wr : World} {p bx rb m o : Nat} {av dv v : Value} {F : Fld} (h : SQ w0 wr p bx rb m av dv F) (h1 : p < bx) (h2 : bx ≠ rb) (h3 : w0.heap.size ≤ bx) : SQ w0 (wr.setCell ⟨bx, o, none⟩ v) p bx rb m av dv F := by
  have ts : Turn (fun i => i = bx) wr (wr.setCell ⟨bx, o, none⟩ v) := ⟨rfl, rfl, rfl, by simp [World.setCell], fun i _ hn => Below.heap_setCell _ _ _ _ hn⟩
  exact ⟨turn_thereD ts h.rt (by omega), h.fp.turn ts (fun i hi => hi.2.1), h.cu.turn ts (fun i hi => by omega), ⟨ts.os.trans h.tp.os, ts.tape.trans h.tp.tape, ts.output.trans h.tp.output, Nat.le_trans h.tp.size ts.size, fun i hi hn => by
    rw [ts.block i (Nat.lt_of_lt_of_le hi h.tp.size) (by omega), h.tp.block i hi hn]⟩, h.lo⟩
/-- While a field in the box bx is spoilt. -/
structure SP (w0 wr : World) (p bx rb m base : Nat) (av dv : Value) (xs : List Int) (J : Nat) (B Cp : Nat → Nat) (f : Nat → Nat → Int) : Prop where
  c0 : wr.cell? ⟨bx, 0, none⟩ = some av
  c1 : wr.cell? ⟨bx, 1, none⟩ = some dv
  th : wr.there bx 0 2
  rt : wr.there rb 0 2
  rf : RF wr base av dv xs J B Cp f
  na : ∀ g, av.ownBlock = some g → g ≠ bx ∧ g ≠ rb
  nd : ∀ g, dv.ownBlock = some g → g ≠ bx ∧ g ≠ rb
  nb : ∀ j, j < J → B j ≠ bx ∧ B j ≠ rb
  cu : Cur wr p m
  tp : Tp p w0 wr
  lo : p < base ∧ p < bx ∧ p < rb ∧ bx ≠ rb ∧ w0.heap.size ≤ bx ∧ w0.heap.size ≤ rb ∧ rb < wr.heap.size ∧ base ≤ wr.heap.size ∧ w0.heap.size ≤ base
section
variable {w0 wr wr' : World} {p bx rb m m' base J : Nat} {av dv : Value} {xs : List Int} {B Cp : Nat → Nat} {f : Nat → Nat → Int}
theorem SP.size (h : SP w0 wr p bx rb m base av dv xs J B Cp f) : bx < wr.heap.size := World.block_lt_of_cell? _ _ h.c0
theorem SP.frz (h : SP w0 wr p bx rb m base av dv xs J B Cp f) : wr.frozen? ⟨bx, 0, none⟩ = false ∧ wr.frozen? ⟨bx, 1, none⟩ = false := by
  have h0 := (h.th 0 (by omega)).2
  have h1 := (h.th 1 (by omega)).2
  simp only [Nat.zero_add] at h0 h1
  exact ⟨h0, h1⟩
theorem SP.kp (h : SP w0 wr p bx rb m base av dv xs J B Cp f) (hk : Kp wr wr') : SP w0 wr' p bx rb m base av dv xs J B Cp f := by
  have hl := h.lo
  have hz := hk.le
  exact ⟨hk.get h.c0, hk.get h.c1, turn_thereD (Turn.of_kp (S := fun _ => False) hk) h.th (fun h => h), turn_thereD (Turn.of_kp (S := fun _ => False) hk) h.rt (fun h => h), h.rf.kp hk, h.na, h.nd, h.nb, h.cu.kp hk, h.tp.trans (Turn.of_kp hk), by omega⟩
theorem SP.drawn (h : SP w0 wr p bx rb m base av dv xs J B Cp f) (ht : Tp p wr wr') (hc : Cur wr' p m') : SP w0 wr' p bx rb m' base av dv xs J B Cp f := by
  have hl := h.lo
  have hz := ht.size
  exact ⟨turn_cellD ht h.c0 (by show bx ≠ p; omega), turn_cellD ht h.c1 (by show bx ≠ p; omega), turn_thereD ht h.th (by omega), turn_thereD ht h.rt (by omega), h.rf.low ht (fun i hi => by omega), h.na, h.nd, h.nb, hc, h.tp.trans ht, by omega⟩
/-- Its own blocks have turned. -/
theorem SP.step {S : Nat → Prop} {w2 : World} (h : SP w0 wr p bx rb m base av dv xs J B Cp f) (ht : Turn S wr w2) (hs : ∀ i, S i → base ≤ i ∧ i ≠ bx ∧ i ≠ rb) : w2.cell? ⟨bx, 0, none⟩ = some av ∧ w2.cell? ⟨bx, 1, none⟩ = some dv ∧ w2.there bx 0 2 ∧ w2.there rb 0 2 ∧ Cur w2 p m ∧ Tp p w0 w2 := by
  have hl := h.lo
  have h1 : ¬ S bx := fun e => (hs bx e).2.1 rfl
  have h2 : ¬ S rb := fun e => (hs rb e).2.2 rfl
  exact ⟨turn_cellD ht h.c0 h1, turn_cellD ht h.c1 h1, turn_thereD ht h.th h1, turn_thereD ht h.rt h2, h.cu.turn ht (fun i hi e => by have := (hs i e).1; omega),
    ⟨ht.os.trans h.tp.os, ht.tape.trans h.tp.tape, ht.output.trans h.tp.output, Nat.le_trans h.tp.size ht.size, fun i hi hn => by
      rw [ht.block i (Nat.lt_of_lt_of_le hi h.tp.size) (fun e => by have := (hs i e).1; omega), h.tp.block i hi hn]⟩⟩
/-- Other costs are handed out, the table as it is. -/
theorem SP.sqOp {w2 : World} {A : Option Addr} {n c : Nat} {ys : List Int} (h : SP w0 wr p bx rb m base av dv xs J B Cp f) (hb : RB xs J f) (ht : Turn (fun i => av.ownBlock = some i) wr w2) (ho : Own w2 base (.slice A n c) ys) (hy : ys.length ≤ 100) (hn : ys.length = n) (ha : ∀ g, (Value.slice A n c).ownBlock = some g → g ≠ bx ∧ g ≠ rb) :
    SQ w0 w2 p bx rb m (.slice A n c) dv ⟨ys, matL J xs.length f⟩ := by
  have hl := h.lo
  obtain ⟨x0, x1, x2, x3, x4, x5⟩ := h.step ht (fun i hi => ⟨(h.rf.op.lt i hi).1, h.na i hi⟩)
  obtain ⟨D, e, rfl⟩ := h.rf.di.shape
  have hxl := hb.xl
  have hjl := hb.jl
  have hd2 := h.rf.di.turn ht (fun g hg hs => own_blocks_ne h.rf.op h.rf.di.hd (by decide) hs hg) (fun j hj hs => h.rf.ap j hj hs)
  refine ⟨x3, ⟨A, c, D, e, by rw [matL_len, hn], ho.intsP (by omega) (fun ad e => ?_), hd2.gridP (by omega) (by omega) (fun ad e => ?_) (fun j hj => ?_)⟩, x4, x5, hl.2.2.1, hl.2.2.2.2.2.1⟩
  · subst e
    exact ⟨by have := (ho.lt ad.block rfl).1; omega, ha _ rfl⟩
  · subst e
    exact ⟨by have := (h.rf.di.vlt ad.block rfl).1; omega, h.nd _ rfl⟩
  · exact ⟨by have := (h.rf.di.lt hj).1; omega, h.nb j hj⟩
/-- A longer table is stored. -/
theorem SP.setD {w2 : World} {dv' : Value} {J' : Nat} {B' Cp' : Nat → Nat} {f' : Nat → Nat → Int} (h : SP w0 wr p bx rb m base av dv xs J B Cp f) (ht : Turn (fun i => dv.ownBlock = some i) wr w2) (hd : DMat w2 base dv' J' xs.length B' Cp' f') (hap : ∀ j, j < J' → av.ownBlock ≠ some (B' j)) (hnd : ∀ g, dv'.ownBlock = some g → g ≠ bx ∧ g ≠ rb) (hnb : ∀ j, j < J' → B' j ≠ bx ∧ B' j ≠ rb) :
    SP w0 (w2.setCell ⟨bx, 1, none⟩ dv') p bx rb m base av dv' xs J' B' Cp' f' := by
  have hl := h.lo
  obtain ⟨x0, x1, x2, x3, x4, x5⟩ := h.step ht (fun i hi => ⟨(h.rf.di.vlt i hi).1, h.nd i hi⟩)
  have ts : Turn (fun i => i = bx) w2 (w2.setCell ⟨bx, 1, none⟩ dv') := ⟨rfl, rfl, rfl, by simp [World.setCell], fun i _ hn => Below.heap_setCell _ _ _ _ hn⟩
  have hz := (x2 1 (by omega)).1
  simp only [Nat.zero_add] at hz
  have hs := ht.size
  have hs2 := ts.size
  have hop := h.rf.op.turn ht (fun k hk hs => own_blocks_ne h.rf.op h.rf.di.hd (by decide) hk hs)
  refine ⟨?_, World.cell?_setCell_same' _ _ _ hz, World.there_setCells x2 bx 1 [_], turn_thereD ts x3 (by omega), ⟨hop.turn ts (fun g hg => (h.na g hg).1), hd.turn ts (fun g hg => (hnd g hg).1) (fun j hj => (hnb j hj).1), hap⟩, h.na, hnd, hnb, x4.turn ts (fun i hi => by omega), ?_, by omega⟩
  · rw [World.cell?_setCell_other _ _ _ _ (by intro h; cases h)]; exact x0
  · exact ⟨ts.os.trans x5.os, ts.tape.trans x5.tape, ts.output.trans x5.output, Nat.le_trans x5.size ts.size, fun i hi hn => by
      rw [ts.block i (Nat.lt_of_lt_of_le hi x5.size) (by omega), x5.block i hi hn]⟩
/-- One number of the table is another: handed out. -/
theorem SP.sqDi {w2 : World} {f' : Nat → Nat → Int} {j : Nat} (h : SP w0 wr p bx rb m base av dv xs J B Cp f) (hb : RB xs J f) (hj : j < J) (ht : Turn (fun i => i = B j) wr w2) (hd : DMat w2 base dv J xs.length B Cp f') :
    SQ w0 w2 p bx rb m av dv ⟨xs, matL J xs.length f'⟩ := by
  have hl := h.lo
  obtain ⟨x0, x1, x2, x3, x4, x5⟩ := h.step ht (fun i hi => by rw [hi]; exact ⟨(h.rf.di.lt hj).1, h.nb j hj⟩)
  obtain ⟨A, c, rfl⟩ := h.rf.op.shape
  obtain ⟨D, e, rfl⟩ := hd.shape
  have hxl := hb.xl
  have hjl := hb.jl
  have hop := h.rf.op.turn ht (fun k hk hs => h.rf.ap j hj (hs ▸ hk))
  refine ⟨x3, ⟨A, c, D, e, by rw [matL_len], hop.intsP (by omega) (fun ad e => ?_), hd.gridP (by omega) (by omega) (fun ad e => ?_) (fun j hj => ?_)⟩, x4, x5, hl.2.2.1, hl.2.2.2.2.2.1⟩
  · subst e
    exact ⟨by have := (h.rf.op.lt ad.block rfl).1; omega, h.na _ rfl⟩
  · subst e
    exact ⟨by have := (h.rf.di.vlt ad.block rfl).1; omega, h.nd _ rfl⟩
  · exact ⟨by have := (h.rf.di.lt hj).1; omega, h.nb j hj⟩
/-- Handed out as it is. -/
theorem SP.sq (h : SP w0 wr p bx rb m base av dv xs J B Cp f) (hb : RB xs J f) : SQ w0 wr p bx rb m av dv ⟨xs, matL J xs.length f⟩ := by
  have hl := h.lo
  obtain ⟨A, c, rfl⟩ := h.rf.op.shape
  obtain ⟨D, e, rfl⟩ := h.rf.di.shape
  have hxl := hb.xl
  have hjl := hb.jl
  refine ⟨h.rt, ⟨A, c, D, e, by rw [matL_len], h.rf.op.intsP (by omega) (fun ad e => ?_), h.rf.di.gridP (by omega) (by omega) (fun ad e => ?_) (fun j hj => ?_)⟩, h.cu, h.tp, hl.2.2.1, hl.2.2.2.2.2.1⟩
  · subst e
    exact ⟨by have := (h.rf.op.lt ad.block rfl).1; omega, h.na _ rfl⟩
  · subst e
    exact ⟨by have := (h.rf.di.vlt ad.block rfl).1; omega, h.nd _ rfl⟩
  · exact ⟨by have := (h.rf.di.lt hj).1; omega, h.nb j hj⟩
end
/-- The length of the table in the box. -/
def lenD (w : World) (bx : Nat) : Nat := match w.cell? ⟨bx, 1, none⟩ with
  | some (.slice _ n _) => n
  | _ => 0
/-- A field that has been drawn. -/
def DFld (w : World) (b : Nat) (v : Value) : Prop := ∃ F, FldP w (fun i => b ≤ i) v F
end Go.Proofs.YtpiijhfjliolfaaGreat

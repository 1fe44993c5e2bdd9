/- The drawing of arguments: words for a table that grows row by row, for a field that is drawn; A region whose last operation waits for all others; A region whose last operation waits for all others, in a handy form. No condition. -/
import Derived.Test.YtpiijhfjliolfaaGreatQAb
import Derived.Test.YtpiijhfjliolfaaGreatQAk
import Derived.Test.YtpiijhfjliolfaaGreatQAa
import Derived.Deep.RegionHeld3
namespace Go.Proofs.YtpiijhfjliolfaaGreat
open Go.RowKit Go.Sort

theorem run_apph {W : World} (ty : TypeId) (base : Nat) (v : Value) (n : Nat) (hs : List Value) (u : Value) (ad : Addr) (hu : u.oneCell' = true)
    (hown : W.ownsRow base 24 1 v n hs) (hcell : W.cell? ad = some u) (hbase : base ≤ W.heap.size) (hlen : n < 1048576) :
    ∃ v' w', (Builtin.append_ #[25, 25] ty #[v, .slice (some ad) 1 1]).run Tryz.prog W = .ok v' w' ∧ w'.ownsRow base 24 1 v' (n + 1) (hs ++ [u]) ∧ Turn (fun i => v.ownBlock = some i) W w' ∧ (v'.ownBlock = v.ownBlock ∨ ∀ g, v'.ownBlock = some g → W.heap.size ≤ g) := by
  obtain ⟨i0, hi, hz0, hz1, hz2⟩ := info_parts infoIntsG
  have e0 : ad.add 0 = ad := by unfold Addr.add; simp
  obtain ⟨v', w', hrun, g2, g3, _, g5⟩ := run_append_own_at (P := Tryz.prog) W base 25 ty 24 i0 (.slice none 0 0) 1 24 Tryz.underlying25 hi hz0 hz1 hz2 rfl (by decide) v n hs hown ad 1 1 [u] rfl (by
    intro j x hj
    cases j with
    | zero => simp at hj; subst hj; rw [e0]; exact hcell
    | succ j => simp at hj) (by intro x hx; simp at hx; subst hx; exact hu) (by unfold maxLen; omega) (by omega) hbase
  refine ⟨v', w', hrun, g2, Turn.of_grown g3, ?_⟩
  rcases g5 with e | e
  · exact .inl e
  · exact .inr (fun g hg => by rw [e] at hg; simp at hg; omega)
/-- append of one header, in a plain region. -/
theorem wpl_apph {ops : Array Oper} {rest : List Oper} {o : Oper} {a : Act} {Q : Exit → Act → World → Prop} {W : World} (hgd : o.guard = none) (s x : Operand)
    (ho : o.op = .call { callee := .builtin .append, args := #[s, x], argTypes := #[25, 25] }) (base : Nat) (v : Value) (n : Nat) (hs : List Value) (u : Value) (hu : u.oneCell' = true)
    (hsv : a.eval s = v) (hx : a.eval x = .slice (some ⟨W.heap.size, 0, none⟩) 1 1) (hown : W.ownsRow base 24 1 v n hs) (hbase : base ≤ W.heap.size) (hlen : n < 1048576)
    (h : ∀ v' w', w'.ownsRow base 24 1 v' (n + 1) (hs ++ [u]) → Turn (fun i => v.ownBlock = some i) W w' → (v'.ownBlock = v.ownBlock ∨ ∀ g, v'.ownBlock = some g → W.heap.size ≤ g) → wpList Tryz.prog ops Q rest (a.put o.dst v') w') :
    wpList Tryz.prog ops Q (o :: rest) a (W.alloc (.cells #[u] 24)) := by
  have hk : Kp W (W.alloc (.cells #[u] 24)) := (Kp.refl W).alloc _
  obtain ⟨v', w', hrun, h2, h3, h4⟩ := run_apph (W := W.alloc (.cells #[u] 24)) o.type base v n hs u ⟨W.heap.size, 0, none⟩ hu (hk.own hown) (by rw [World.cell?_alloc_at _ _ _ _ rfl]; rfl) (by simp; omega) hlen
  refine Lib.wpList_append_run _ hgd s x _ _ ho _ _ hsv hx v' w' hrun (h v' w' h2 ((Turn.of_kp hk).trans h3) ?_)
  rcases h4 with e | e
  · exact .inl e
  · exact .inr (fun g hg => by have := e g hg; simp at this; omega)
/-- The same where the region draws. -/
theorem step_apph {ops : Array Oper} {o : Oper} {a : Act} {K : Act → World → Prop} {Q : Exit → Act → World → Prop} {E : Prop} {W : World} (hgd : o.guard = none) (s x : Operand)
    (ho : o.op = .call { callee := .builtin .append, args := #[s, x], argTypes := #[25, 25] }) (base : Nat) (v : Value) (n : Nat) (hs : List Value) (u : Value) (ad : Addr) (hu : u.oneCell' = true)
    (hsv : a.eval s = v) (hx : a.eval x = .slice (some ad) 1 1) (hown : W.ownsRow base 24 1 v n hs) (hcell : W.cell? ad = some u) (hbase : base ≤ W.heap.size) (hlen : n < 1048576)
    (h : ∀ v' w', w'.ownsRow base 24 1 v' (n + 1) (hs ++ [u]) → Turn (fun i => v.ownBlock = some i) W w' → (v'.ownBlock = v.ownBlock ∨ ∀ g, v'.ownBlock = some g → W.heap.size ≤ g) → K (a.put o.dst v') w') :
    if Region.wanted o (yielded ops a.tmps) = true then Oper.wp Tryz.prog o a W K Q else E := by
  have hw : Region.wanted o (yielded ops a.tmps) = true := by simp [Region.wanted, hgd]
  rw [if_pos hw]
  obtain ⟨v', w', hrun, h2, h3, h4⟩ := run_apph (W := W) o.type base v n hs u ad hu hown hcell hbase hlen
  unfold Oper.wp execOp
  simp only [ho, resolve, invoke, builtin, Sem.run_bind, Sem.run_pure, Result.andThen_ok, List.map_toArray, List.map_cons, List.map_nil, hsv, hx, hrun]
  exact h v' w' h2 h3 h4

/-- A table of the call's own, not made yet where it has no rows. -/
structure DMat (w : World) (base : Nat) (v : Value) (J M : Nat) (B Cp : Nat → Nat) (f : Nat → Nat → Int) : Prop where
  hd : w.ownsRow base 24 1 v J ((List.range J).map fun j => Value.slice (some ⟨B j, 0, none⟩) M (Cp j))
  row : ∀ j, j < J → Own w base (.slice (some ⟨B j, 0, none⟩) M (Cp j)) (mapTo (f j) M)
  apart : ∀ i j, i < J → j < J → i ≠ j → B i ≠ B j
section
variable {w w' : World} {base J M : Nat} {v : Value} {B Cp : Nat → Nat} {f : Nat → Nat → Int}
theorem DMat.mat (h : DMat w base v J M B Cp f) (hJ : 0 < J) : ∃ g cap, v = .slice (some ⟨g, 0, none⟩) J cap ∧ Mat w base g cap J M B Cp f := by
  rcases id h.hd.2 with ⟨rfl, h0⟩ | ⟨g, cap, cur, rfl, _⟩
  · omega
  · exact ⟨g, cap, rfl, h.hd, h.row, h.apart⟩
theorem Mat.dmat {g cap : Nat} (h : Mat w base g cap J M B Cp f) : DMat w base (.slice (some ⟨g, 0, none⟩) J cap) J M B Cp f := ⟨h.hd, h.row, h.apart⟩
theorem DMat.shape (h : DMat w base v J M B Cp f) : ∃ A c, v = .slice A J c := by
  rcases h.hd.2 with ⟨rfl, h0⟩ | ⟨g, cap, cur, rfl, _⟩
  · exact ⟨none, 0, by rw [h0]⟩
  · exact ⟨_, _, rfl⟩
theorem DMat.kp (h : DMat w base v J M B Cp f) (hk : Kp w w') : DMat w' base v J M B Cp f := ⟨hk.own h.hd, fun j hj => (h.row j hj).kp hk, h.apart⟩
theorem DMat.turn {S : Nat → Prop} (h : DMat w base v J M B Cp f) (ht : Turn S w w') (h1 : ∀ g, v.ownBlock = some g → ¬ S g) (h2 : ∀ j, j < J → ¬ S (B j)) : DMat w' base v J M B Cp f :=
  ⟨own_turn h.hd ht h1, fun j hj => (h.row j hj).turn ht (fun k hk hs => by
    have e : B j = k := by simpa [Value.ownBlock] using hk
    rw [← e] at hs
    exact h2 j hj hs), h.apart⟩
theorem DMat.low {S : Nat → Prop} (h : DMat w base v J M B Cp f) (ht : Turn S w w') (hn : ∀ i, base ≤ i → ¬ S i) : DMat w' base v J M B Cp f :=
  h.turn ht (fun g hg => hn g (World.ownsRow.lt h.hd g hg).1) (fun j hj => hn _ ((h.row j hj).lt (B j) rfl).1)
theorem DMat.lt (h : DMat w base v J M B Cp f) {j : Nat} (hj : j < J) : base ≤ B j ∧ B j < w.heap.size := (h.row j hj).lt (B j) rfl
theorem DMat.vlt (h : DMat w base v J M B Cp f) : ∀ g, v.ownBlock = some g → base ≤ g ∧ g < w.heap.size := World.ownsRow.lt h.hd
theorem DMat.vne (h : DMat w base v J M B Cp f) {j : Nat} (hj : j < J) : v.ownBlock ≠ some (B j) := fun e =>
  own_blocks_ne (h.row j hj) h.hd (by decide) (g := B j) rfl e
theorem DMat.nil (w : World) (base M : Nat) (B Cp : Nat → Nat) (f : Nat → Nat → Int) : DMat w base (.slice none 0 0) 0 M B Cp f :=
  ⟨World.ownsRow_nil _ _ _ _, fun j hj => by omega, fun i j hi => by omega⟩
/-- One row more. -/
theorem DMat.push (h : DMat w base v J M B Cp f) {v' : Value} {b c : Nat} {g : Nat → Int} (ht : Turn (fun i => v.ownBlock = some i) w w') (h1 : w'.ownsRow base 24 1 v' (J + 1) (((List.range J).map fun j => Value.slice (some ⟨B j, 0, none⟩) M (Cp j)) ++ [.slice (some ⟨b, 0, none⟩) M c]))
    (hr : Own w base (.slice (some ⟨b, 0, none⟩) M c) (mapTo g M)) (hb : ∀ j, j < J → B j ≠ b) :
    DMat w' base v' (J + 1) M (upd B J b) (upd Cp J c) (upd f J g) := by
  have hl : ((List.range (J + 1)).map fun j => Value.slice (some ⟨upd B J b j, 0, none⟩) M (upd Cp J c j)) = ((List.range J).map fun j => Value.slice (some ⟨B j, 0, none⟩) M (Cp j)) ++ [.slice (some ⟨b, 0, none⟩) M c] := by
    rw [List.range_succ, List.map_append, List.map_singleton, upd_at, upd_at]
    congr 1
    refine List.map_congr_left (fun j hj => ?_)
    have := List.mem_range.1 hj
    rw [upd_ne (by omega), upd_ne (by omega)]
  refine ⟨by rw [hl]; exact h1, fun j hj => ?_, fun i j hi hj hne => ?_⟩
  · by_cases e : j = J
    · subst e
      rw [upd_at, upd_at, upd_at]
      exact hr.turn ht (fun k hk hs => own_blocks_ne hr h.hd (by decide) hk hs)
    · rw [upd_ne e, upd_ne e, upd_ne e]
      exact (h.row j (by omega)).turn ht (fun k hk hs => own_blocks_ne (h.row j (by omega)) h.hd (by decide) hk hs)
  · by_cases e1 : i = J
    · subst e1
      rw [upd_at, upd_ne (by omega)]
      exact (hb j (by omega)).symm
    · by_cases e2 : j = J
      · subst e2
        rw [upd_at, upd_ne e1]
        exact hb i (by omega)
      · rw [upd_ne e1, upd_ne e2]
        exact h.apart i j (by omega) (by omega) hne
end
/-- A field of the call's own: the costs and the table; all rows apart from the costs. -/
structure RF (w : World) (base : Nat) (a d : Value) (xs : List Int) (J : Nat) (B Cp : Nat → Nat) (f : Nat → Nat → Int) : Prop where
  op : Own w base a xs
  di : DMat w base d J xs.length B Cp f
  ap : ∀ j, j < J → a.ownBlock ≠ some (B j)
/-- Its numbers. -/
structure RB (xs : List Int) (J : Nat) (f : Nat → Nat → Int) : Prop where
  pos : 0 < xs.length
  xl : xs.length ≤ 8
  jl : J ≤ 8
  xb : ∀ x ∈ xs, 0 ≤ x ∧ x < 20
  fb : ∀ j a, j < J → a < xs.length → 0 ≤ f j a ∧ f j a < 20
section
variable {w w' : World} {base J : Nat} {a d : Value} {xs : List Int} {B Cp : Nat → Nat} {f : Nat → Nat → Int}
theorem RF.kp (h : RF w base a d xs J B Cp f) (hk : Kp w w') : RF w' base a d xs J B Cp f := ⟨h.op.kp hk, h.di.kp hk, h.ap⟩
theorem RF.low {S : Nat → Prop} (h : RF w base a d xs J B Cp f) (ht : Turn S w w') (hn : ∀ i, base ≤ i → ¬ S i) : RF w' base a d xs J B Cp f :=
  ⟨h.op.turn ht (fun g hg => hn g (h.op.lt g hg).1), h.di.low ht hn, h.ap⟩
theorem DMat.mono {M b' : Nat} {v : Value} (h : DMat w base v J M B Cp f) (hb : b' ≤ base) : DMat w b' v J M B Cp f := by
  refine ⟨⟨h.hd.1, ?_⟩, fun j hj => (h.row j hj).mono hb, h.apart⟩
  rcases h.hd.2 with hh | ⟨g, cap, cur, e, hg, rest⟩
  · exact .inl hh
  · exact .inr ⟨g, cap, cur, e, Nat.le_trans hb hg, rest⟩
theorem RF.mono {b' : Nat} (h : RF w base a d xs J B Cp f) (hb : b' ≤ base) : RF w b' a d xs J B Cp f := ⟨h.op.mono hb, h.di.mono hb, h.ap⟩
end
/-- A field of small numbers, of the call's own. -/
def DF (w : World) (base : Nat) (a d : Value) : Prop := ∃ xs J B Cp f, RF w base a d xs J B Cp f ∧ RB xs J f
theorem turn_setCellsD (b : Nat) : ∀ (vs : List Value) (o : Nat) (w : World), Turn (fun i => i = b) w (w.setCells b o vs)
  | [], _, w => Turn.refl _ w
  | v :: r, o, w => (show Turn (fun i => i = b) w (w.setCell ⟨b, o, none⟩ v) from ⟨rfl, rfl, rfl, by simp [World.setCell], fun i _ hn => Below.heap_setCell _ _ _ _ hn⟩).trans (turn_setCellsD b r (o + 1) _)
theorem there_newD (w : World) (vs : List Value) (t : TypeId) : (w.alloc (.cells vs.toArray t)).there w.heap.size 0 vs.length := fun j hj => by
  constructor
  · rw [World.cell?_alloc_at _ _ _ _ rfl]; simp [hj]
  · simp
theorem Own.someD {w : World} {base : Nat} {v : Value} {xs : List Int} (h : Own w base v xs) (hn : 0 < xs.length) : ∃ g c, v = .slice (some ⟨g, 0, none⟩) xs.length c := by
  rcases h.2 with ⟨rfl, h0⟩ | ⟨g, cap, cur, rfl, _⟩
  · omega
  · exact ⟨g, cap, rfl⟩
theorem ownh_shape {w : World} {base n : Nat} {e : TypeId} {v : Value} {hs : List Value} (h : w.ownsRow base e 1 v n hs) : ∃ A c, v = .slice A n c := by
  rcases h.2 with ⟨rfl, h0⟩ | ⟨g, cap, cur, rfl, _⟩
  · exact ⟨none, 0, by rw [h0]⟩
  · exact ⟨_, _, rfl⟩
theorem mapTo_self (ys : List Int) : mapTo (lget ys) ys.length = ys := by
  apply List.ext_getElem
  · simp [mapTo]
  · intro i h1 h2
    rw [mapTo_get (by simpa [mapTo] using h1), lget_at h2]
/-- A list that is written out. -/
theorem lit_intsD (w : World) (xs : List Int) (hl : xs.length ≤ 1000) : IntsAt (w.alloc (.cells (xs.map (Value.int .i64)).toArray 3)) (some ⟨w.heap.size, 0, none⟩) xs :=
  ⟨by omega, fun k hk => ⟨_, rfl, by
    rw [add0, World.cell?_alloc_at _ _ _ _ rfl]
    simp [hk]⟩⟩
/-- While a field is put together in the variable of block bf; the result's block is rb. -/
structure RS (w0 wr : World) (p rb bf : Nat) (ov dv : Value) (xs : List Int) (J : Nat) (B Cp : Nat → Nat) (f : Nat → Nat → Int) (m : Nat) : Prop where
  c0 : wr.cell? ⟨bf, 0, none⟩ = some ov
  c1 : wr.cell? ⟨bf, 1, none⟩ = some dv
  th : wr.there bf 0 2
  rt : wr.there rb 0 2
  rf : RF wr (bf + 1) ov dv xs J B Cp f
  cu : Cur wr p m
  tp : Tp p w0 wr
  lo : p < rb ∧ rb < bf ∧ w0.heap.size ≤ rb
section
variable {w0 wr wr' : World} {p rb bf J m m' : Nat} {ov dv : Value} {xs : List Int} {B Cp : Nat → Nat} {f : Nat → Nat → Int}
theorem RS.frz (h : RS w0 wr p rb bf ov dv xs J B Cp f m) : wr.frozen? ⟨bf, 0, none⟩ = false ∧ wr.frozen? ⟨bf, 1, none⟩ = false := by
  have h0 := (h.th 0 (by omega)).2
  have h1 := (h.th 1 (by omega)).2
  simp only [Nat.zero_add] at h0 h1
  exact ⟨h0, h1⟩
theorem RS.kp (h : RS w0 wr p rb bf ov dv xs J B Cp f m) (hk : Kp wr wr') : RS w0 wr' p rb bf ov dv xs J B Cp f m :=
  ⟨hk.get h.c0, hk.get h.c1, turn_thereD (Turn.of_kp (S := fun _ => False) hk) h.th (fun h => h), turn_thereD (Turn.of_kp (S := fun _ => False) hk) h.rt (fun h => h), h.rf.kp hk, h.cu.kp hk, h.tp.trans (Turn.of_kp hk), h.lo⟩
/-- The cursor has gone on. -/
theorem RS.drawn (h : RS w0 wr p rb bf ov dv xs J B Cp f m) (ht : Tp p wr wr') (hc : Cur wr' p m') : RS w0 wr' p rb bf ov dv xs J B Cp f m' := by
  have hl := h.lo
  exact ⟨turn_cellD ht h.c0 (by show bf ≠ p; omega), turn_cellD ht h.c1 (by show bf ≠ p; omega), turn_thereD ht h.th (by omega), turn_thereD ht h.rt (by omega), h.rf.low ht (fun i hi => by omega), hc, h.tp.trans ht, h.lo⟩
theorem own_low {S : Nat → Prop} {w w' : World} {base : Nat} {v : Value} {xs : List Int} (h : Own w base v xs) (ht : Turn S w w') (hn : ∀ i, base ≤ i → ¬ S i) : Own w' base v xs := h.turn ht (fun g hg => hn g (h.lt g hg).1)
theorem RS.size (h : RS w0 wr p rb bf ov dv xs J B Cp f m) : bf < wr.heap.size := World.block_lt_of_cell? _ _ h.c0
theorem RS.more (h : RS w0 wr p rb bf ov dv xs J B Cp f m) (hm : m ≤ m') : RS w0 wr p rb bf ov dv xs J B Cp f m' := ⟨h.c0, h.c1, h.th, h.rt, h.rf, h.cu.mono hm, h.tp, h.lo⟩
theorem RS.di0 {B' Cp' : Nat → Nat} {f' : Nat → Nat → Int} (h : RS w0 wr p rb bf ov dv xs 0 B Cp f m) (hd : dv = .slice none 0 0) : RS w0 wr p rb bf ov dv xs 0 B' Cp' f' m :=
  ⟨h.c0, h.c1, h.th, h.rt, ⟨h.rf.op, by rw [hd]; exact DMat.nil _ _ _ _ _ _, fun j hj => by omega⟩, h.cu, h.tp, h.lo⟩
/-- The variable while the costs grow. -/
theorem RS.stay0 {w2 : World} (h : RS w0 wr p rb bf ov dv xs J B Cp f m) (ht : Turn (fun i => ov.ownBlock = some i) wr w2) : w2.cell? ⟨bf, 0, none⟩ = some ov ∧ w2.frozen? ⟨bf, 0, none⟩ = false := by
  have hob : ¬ ov.ownBlock = some bf := fun e => by have := (h.rf.op.lt bf e).1; omega
  exact ⟨turn_cellD ht h.c0 hob, by rw [turn_frozD ht h.size hob]; exact h.frz.1⟩
theorem RS.stay1 {w2 : World} (h : RS w0 wr p rb bf ov dv xs J B Cp f m) (ht : Turn (fun i => dv.ownBlock = some i) wr w2) : w2.cell? ⟨bf, 1, none⟩ = some dv ∧ w2.frozen? ⟨bf, 1, none⟩ = false := by
  have hob : ¬ dv.ownBlock = some bf := fun e => by have := (h.rf.di.vlt bf e).1; omega
  exact ⟨turn_cellD ht h.c1 hob, by rw [turn_frozD ht h.size hob]; exact h.frz.2⟩
/-- New costs are stored. -/
theorem RS.setOp {w2 : World} {ov' : Value} {xs' : List Int} {B' Cp' : Nat → Nat} {f' : Nat → Nat → Int} (h : RS w0 wr p rb bf ov dv xs 0 B Cp f m) (hd : dv = .slice none 0 0) (ht : Turn (fun i => ov.ownBlock = some i) wr w2) (ho : Own w2 (bf + 1) ov' xs') : RS w0 (w2.setCell ⟨bf, 0, none⟩ ov') p rb bf ov' dv xs' 0 B' Cp' f' m := by
  have hl := h.lo
  have hob : ∀ i, i ≤ bf → ¬ ov.ownBlock = some i := fun i hi e => by have := (h.rf.op.lt i e).1; omega
  have ts : Turn (fun i => i = bf) w2 (w2.setCell ⟨bf, 0, none⟩ ov') := ⟨rfl, rfl, rfl, by simp [World.setCell], fun i _ hn => Below.heap_setCell _ _ _ _ hn⟩
  have t2 := turn_thereD ht h.th (hob bf (Nat.le_refl _))
  have hz := (t2 0 (by omega)).1
  simp only [Nat.zero_add] at hz
  have htb : Turn (fun i => p < i) wr (w2.setCell ⟨bf, 0, none⟩ ov') := (ht.mono (fun i hi => by have := (h.rf.op.lt i hi).1; omega)).trans (ts.mono (fun i hi => by omega))
  refine ⟨World.cell?_setCell_same' _ _ _ hz, ?_, World.there_setCells t2 bf 0 [_], turn_thereD ts (turn_thereD ht h.rt (hob rb (by omega))) (by omega), ⟨own_low ho ts (fun i hi => by omega), ?_, fun j hj => by omega⟩, h.cu.turn htb (fun i hi => by omega), ?_, hl⟩
  · rw [World.cell?_setCell_other _ _ _ _ (by intro h; cases h)]
    exact turn_cellD ht h.c1 (hob bf (Nat.le_refl _))
  · rw [hd]; exact DMat.nil _ _ _ _ _ _
  · refine ⟨htb.os.trans h.tp.os, htb.tape.trans h.tp.tape, htb.output.trans h.tp.output, Nat.le_trans h.tp.size htb.size, fun i hi hn => ?_⟩
    rw [ts.block i (Nat.lt_of_lt_of_le hi (Nat.le_trans h.tp.size ht.size)) (by omega), ht.block i (Nat.lt_of_lt_of_le hi h.tp.size) (hob i (by omega)), h.tp.block i hi hn]
/-- A longer table is stored. -/
theorem RS.setDi {w2 : World} {dv' : Value} {J' : Nat} {B' Cp' : Nat → Nat} {f' : Nat → Nat → Int} (h : RS w0 wr p rb bf ov dv xs J B Cp f m) (ht : Turn (fun i => dv.ownBlock = some i) wr w2) (hd : DMat w2 (bf + 1) dv' J' xs.length B' Cp' f') (hap : ∀ j, j < J' → ov.ownBlock ≠ some (B' j)) : RS w0 (w2.setCell ⟨bf, 1, none⟩ dv') p rb bf ov dv' xs J' B' Cp' f' m := by
  have hl := h.lo
  have hob : ∀ i, i ≤ bf → ¬ dv.ownBlock = some i := fun i hi e => by have := (h.rf.di.vlt i e).1; omega
  have ts : Turn (fun i => i = bf) w2 (w2.setCell ⟨bf, 1, none⟩ dv') := ⟨rfl, rfl, rfl, by simp [World.setCell], fun i _ hn => Below.heap_setCell _ _ _ _ hn⟩
  have t2 := turn_thereD ht h.th (hob bf (Nat.le_refl _))
  have hz := (t2 1 (by omega)).1
  simp only [Nat.zero_add] at hz
  have htb : Turn (fun i => p < i) wr (w2.setCell ⟨bf, 1, none⟩ dv') := (ht.mono (fun i hi => by have := (h.rf.di.vlt i hi).1; omega)).trans (ts.mono (fun i hi => by omega))
  refine ⟨?_, World.cell?_setCell_same' _ _ _ hz, World.there_setCells t2 bf 1 [_], turn_thereD ts (turn_thereD ht h.rt (hob rb (by omega))) (by omega), ⟨own_low (h.rf.op.turn ht (fun k hk hs => own_blocks_ne h.rf.op h.rf.di.hd (by decide) hk hs)) ts (fun i hi => by omega), hd.low ts (fun i hi => by omega), hap⟩, h.cu.turn htb (fun i hi => by omega), ?_, hl⟩
  · rw [World.cell?_setCell_other _ _ _ _ (by intro h; cases h)]
    exact turn_cellD ht h.c0 (hob bf (Nat.le_refl _))
  · refine ⟨htb.os.trans h.tp.os, htb.tape.trans h.tp.tape, htb.output.trans h.tp.output, Nat.le_trans h.tp.size htb.size, fun i hi hn => ?_⟩
    rw [ts.block i (Nat.lt_of_lt_of_le hi (Nat.le_trans h.tp.size ht.size)) (by omega), ht.block i (Nat.lt_of_lt_of_le hi h.tp.size) (hob i (by omega)), h.tp.block i hi hn]
/-- Where all of it lies. -/
theorem RS.under (h : RS w0 wr p rb bf ov dv xs J B Cp f m) : (∀ g, ov.ownBlock = some g → g < wr.heap.size) ∧ (∀ g, dv.ownBlock = some g → g < wr.heap.size) ∧ (∀ j, j < J → B j < wr.heap.size) :=
  ⟨fun g hg => (h.rf.op.lt g hg).2, fun g hg => (h.rf.di.vlt g hg).2, fun j hj => (h.rf.di.lt hj).2⟩
theorem RS.far {S : Nat → Prop} {N : Nat} {w2 : World} (h : RS w0 wr p rb bf ov dv xs J B Cp f m) (hu : (∀ g, ov.ownBlock = some g → g < N) ∧ (∀ g, dv.ownBlock = some g → g < N) ∧ (∀ j, j < J → B j < N)) (ht : Turn S wr w2) (hS : ∀ i, S i → N ≤ i) (hN : bf < N := by omega) : RS w0 w2 p rb bf ov dv xs J B Cp f m := by
  have hl := h.lo
  have hb : ∀ i, i ≤ bf → ¬ S i := fun i hi hs => by have := hS i hs; omega
  exact ⟨turn_cellD ht h.c0 (hb bf (Nat.le_refl _)), turn_cellD ht h.c1 (hb bf (Nat.le_refl _)), turn_thereD ht h.th (hb bf (Nat.le_refl _)), turn_thereD ht h.rt (hb rb (by omega)),
    ⟨h.rf.op.turn ht (fun g hg hs => by have := hu.1 g hg; have := hS g hs; omega), h.rf.di.turn ht (fun g hg hs => by have := hu.2.1 g hg; have := hS g hs; omega) (fun j hj hs => by have := hu.2.2 j hj; have := hS _ hs; omega), h.rf.ap⟩,
    h.cu.turn ht (fun i hi => hb i (by omega)), ⟨ht.os.trans h.tp.os, ht.tape.trans h.tp.tape, ht.output.trans h.tp.output, Nat.le_trans h.tp.size ht.size, fun i hi hn => by
      rw [ht.block i (Nat.lt_of_lt_of_le hi h.tp.size) (hb i (by omega)), h.tp.block i hi hn]⟩, h.lo⟩
/-- The field is handed out. -/
theorem RS.ret (h : RS w0 wr p rb bf ov dv xs J B Cp f m) : (wr.setCells rb 0 [ov, dv]).cell? ⟨rb, 0, none⟩ = some ov ∧ (wr.setCells rb 0 [ov, dv]).cell? ⟨rb, 1, none⟩ = some dv ∧ RF (wr.setCells rb 0 [ov, dv]) w0.heap.size ov dv xs J B Cp f ∧ Cur (wr.setCells rb 0 [ov, dv]) p m ∧ Tp p w0 (wr.setCells rb 0 [ov, dv]) := by
  have hl := h.lo
  have ts := turn_setCellsD rb [ov, dv] 0 wr
  have hr := World.rangeAt_setCells_same wr rb 0 [ov, dv] h.rt
  exact ⟨hr 0 _ rfl, hr 1 _ rfl, (h.rf.low ts (fun i hi => by omega)).mono (by omega), h.cu.turn ts (fun i hi => by omega), ⟨ts.os.trans h.tp.os, ts.tape.trans h.tp.tape, ts.output.trans h.tp.output, Nat.le_trans h.tp.size ts.size, fun i hi hn => by
    rw [ts.block i (Nat.lt_of_lt_of_le hi h.tp.size) (by omega), h.tp.block i hi hn]⟩⟩
end
end Go.Proofs.YtpiijhfjliolfaaGreat

namespace Go.Proofs.YtpiijhfjliolfaaGreat
open Go.RowKit Go.Sort

section
variable {P : Program} {md : Region.Mode} {init : Array Oper} {o : Oper} {Q : Exit → Act → World → Prop} {S : World → Prop}
/-- The post of the shorter region: the last operation, then the post. -/
def lastQ (P : Program) (o : Oper) (Q : Exit → Act → World → Prop) : Exit → Act → World → Prop
  | .normal => fun a w => o.wp P a w (fun a w => Q .normal a w) Q
  | e => Q e
theorem push_getD (listed : Array Bool) (i : Nat) (d : Bool) : (listed.push false).getD i d = if i = listed.size then false else listed.getD i d := by
  by_cases h : i = listed.size
  · subst h; simp [Array.getD]
  · rw [if_neg h]
    by_cases hl : i < listed.size
    · simp [Array.getD, hl, Nat.lt_succ_of_lt hl, Array.getElem_push]
    · have : ¬ i < listed.size + 1 := by omega
      simp [Array.getD, hl, this]
theorem all_listed (hord : ∀ (i : Nat) (oi : Oper), init[i]? = some oi → ∀ e ∈ oi.after, e.on < i) {listed : Array Bool} (hr : Region.ready md init listed = []) (hs : listed.size = init.size) : ∀ i, i < init.size → listed.getD i false = true := by
  intro i
  induction i using Nat.strongRecOn with
  | _ i ih =>
    intro hi
    cases h : listed.getD i false with
    | true => rfl
    | false =>
      exfalso
      have h2 : listed.getD i true = false := by
        have hl : i < listed.size := by omega
        simp [Array.getD, hl] at h ⊢
        exact h
      have : i ∈ Region.ready md init listed := mem_ready.2 ⟨h2, init[i], by simp [hi], fun e he _ => ih e.on (hord i _ (by simp [hi]) e he) (by have := hord i init[i] (by simp [hi]) e he; omega)⟩
      rw [hr] at this
      cases this
theorem wp_monoQ {oi : Oper} {a : Act} {w : World} {K K' : Act → World → Prop} {Q' : Exit → Act → World → Prop} (h : ∀ a w, K a w → K' a w) (hp : ∀ c a w, Q (.panic c) a w → Q' (.panic c) a w) (hl : LetsOut Q → LetsOut Q') (hh : oi.wp P a w K Q) : oi.wp P a w K' Q' := by
  unfold Oper.wp at *
  generalize (execOp a.eval oi).run P w = r at *
  cases r with
  | ok n w' =>
    cases n <;> simp only [Oper.upon] at hh ⊢ <;>
      first
        | exact h _ _ hh
        | exact Calls.mono hh (fun e w'' he => by cases e <;> first | exact h _ _ he | exact hp _ _ _ he | exact hl he)
        | exact Rows.mono hh (fun _ _ he => h _ _ he)
  | halt x w' => cases x <;> simp only [Oper.upon] at hh ⊢ <;> first | exact hp _ _ _ hh | exact hh
theorem wpAny_last (hord : ∀ (i : Nat) (oi : Oper), init[i]? = some oi → ∀ e ∈ oi.after, e.on < i) (hg : ∀ (i : Nat) (oi : Oper), (init.push o)[i]? = some oi → oi.guard = none) (hon : ∀ e ∈ o.after, e.on < init.size) (hb : ∀ j, j < init.size → ∃ e ∈ o.after, Region.binds md e = true ∧ e.on = j) :
    ∀ (fuel : Nat) (listed : Array Bool) (a : Act) (w : World), listed.size = init.size → wpAnyH P md init (lastQ P o Q) S fuel listed a w → wpAny P md (init.push o) Q (fuel + 1) (listed.push false) a w := by
  have hnone : ∀ {listed : Array Bool} {a : Act} {w : World}, listed.size = init.size → (Region.ready md init listed = [] → o.wp P a w (fun a w => Q .normal a w) Q) → ∀ fuel, Region.ready md init listed = [] →
      wpOp P (init.push o) Q init.size (wpAny P md (init.push o) Q fuel ((listed.push false).setIfInBounds init.size true)) a w := by
    intro listed a w hs h fuel hr
    have hget : (init.push o)[init.size]? = some o := by simp
    have hw : ∀ ys, Region.wanted o ys = true := fun ys => by simp [Region.wanted, hg _ _ hget]
    unfold wpOp
    rw [hget]
    simp only [hw, if_true]
    refine .inl (wp_monoQ (fun a' w' hq => wpAny_done ?_ hq fuel) (fun _ _ _ h => h) (fun h => h) (h hr))
    rw [List.eq_nil_iff_forall_not_mem]
    intro i hi
    obtain ⟨h0, oi, ho, _⟩ := mem_ready.1 hi
    have hi2 : i < init.size + 1 := by have := (Array.getElem?_eq_some_iff.1 ho).1; simpa using this
    by_cases e : i = init.size
    · subst e
      simp [Array.getD, hs] at h0
    · have := all_listed hord hr hs i (by omega)
      rw [getD_set_ne _ (by omega), push_getD, if_neg (by omega)] at h0
      have hl : i < listed.size := by omega
      simp [Array.getD, hl] at h0 this
      rw [h0] at this; cases this
  have hlast : ∀ {listed : Array Bool} {i : Nat}, listed.size = init.size → i ∈ Region.ready md (init.push o) (listed.push false) → (i = init.size ∧ Region.ready md init listed = []) ∨ (i ∈ Region.ready md init listed ∧ i < init.size) := by
    intro listed i hs hi
    obtain ⟨h0, oi, ho, hall⟩ := mem_ready.1 hi
    have hi2 : i < init.size + 1 := by have := (Array.getElem?_eq_some_iff.1 ho).1; simpa using this
    by_cases e : i = init.size
    · left
      refine ⟨e, ?_⟩
      subst e
      obtain rfl : o = oi := by simpa using ho
      rw [List.eq_nil_iff_forall_not_mem]
      intro j hj
      obtain ⟨h1, oj, hoj, _⟩ := mem_ready.1 hj
      have hj2 := (Array.getElem?_eq_some_iff.1 hoj).1
      obtain ⟨e, he, hbe, rfl⟩ := hb j hj2
      have := hall e he hbe
      rw [push_getD, if_neg (by omega)] at this
      have hl : e.on < listed.size := by omega
      simp [Array.getD, hl] at h1 this
      rw [h1] at this; cases this
    · right
      refine ⟨mem_ready.2 ⟨?_, oi, ?_, fun e he hbe => ?_⟩, by omega⟩
      · rw [push_getD, if_neg (by omega)] at h0; exact h0
      · rw [Array.getElem?_push, if_neg (by omega)] at ho; exact ho
      · have := hall e he hbe
        rw [push_getD] at this
        split at this
        · cases this
        · exact this
  have hany : ∀ {listed : Array Bool}, listed.size = init.size → Region.ready md (init.push o) (listed.push false) ≠ [] := by
    intro listed hs hr
    by_cases hi : Region.ready md init listed = []
    · have ha := all_listed hord hi hs
      have : init.size ∈ Region.ready md (init.push o) (listed.push false) := by
        refine mem_ready.2 ⟨by rw [push_getD, if_pos hs.symm], o, by simp, fun e he hbe => ?_⟩
        have := hon e he
        rw [push_getD, if_neg (by omega)]
        exact ha _ this
      rw [hr] at this; cases this
    · obtain ⟨i, hi2⟩ := List.exists_mem_of_ne_nil _ hi
      obtain ⟨h0, oi, ho, hall⟩ := mem_ready.1 hi2
      have hlt := (Array.getElem?_eq_some_iff.1 ho).1
      have : i ∈ Region.ready md (init.push o) (listed.push false) := by
        refine mem_ready.2 ⟨by rw [push_getD, if_neg (by omega)]; exact h0, oi, by rw [Array.getElem?_push, if_neg (by omega)]; exact ho, fun e he hbe => ?_⟩
        have := hord i oi ho e he
        rw [push_getD, if_neg (by omega)]
        exact hall e he hbe
      rw [hr] at this; cases this
  intro fuel
  induction fuel with
  | zero =>
    intro listed a w hs h
    refine ⟨fun hr => absurd hr (hany hs), fun i hi => ?_⟩
    rcases hlast hs hi with ⟨rfl, hr⟩ | ⟨hi', _⟩
    · exact hnone hs (fun _ => h.2) 0 hr
    · rw [h.1] at hi'; cases hi'
  | succ fuel ih =>
    intro listed a w hs h
    refine ⟨fun hr => absurd hr (hany hs), fun i hi => ?_⟩
    rcases hlast hs hi with ⟨rfl, hr⟩ | ⟨hi', hlt⟩
    · exact hnone hs (fun hr => h.1 hr) _ hr
    · have h2 := h.2 i hi'
      obtain ⟨_, oi, ho, _⟩ := mem_ready.1 hi'
      have ho2 : (init.push o)[i]? = some oi := by rw [Array.getElem?_push, if_neg (by omega)]; exact ho
      have hw : ∀ ys, Region.wanted oi ys = true := fun ys => by simp [Region.wanted, hg _ _ ho2]
      unfold wpOp at h2 ⊢
      rw [ho] at h2
      rw [ho2]
      simp only [hw, if_true] at h2 ⊢
      have hpush : (listed.push false).setIfInBounds i true = (listed.setIfInBounds i true).push false := by
        have hil : i < listed.size := by omega
        obtain ⟨l⟩ := listed
        have hil2 : i < l.length := by simpa using hil
        simp [List.set_append_left _ _ hil2]
      rcases h2 with h2 | ⟨h2, h3⟩
      · refine .inl (wp_monoQ (Q := lastQ P o Q) (Q' := Q) (fun a' w' hk => ?_) (fun _ _ _ h => h) (fun h => h) h2)
        rw [hpush]
        exact ih _ a' w' (by simpa using hs) hk.2
      · exact .inr ⟨h2, h3⟩
/-- The region, by the shorter one. -/
theorem wp_region_last {id : Nat} {a : Act} {w : World} (hm : P.follows .mixedOrders = true) (hord : ∀ (i : Nat) (oi : Oper), init[i]? = some oi → ∀ e ∈ oi.after, e.on < i) (hg : ∀ (i : Nat) (oi : Oper), (init.push o)[i]? = some oi → oi.guard = none) (hon : ∀ e ∈ o.after, e.on < init.size) (hb : ∀ j, j < init.size → ∃ e ∈ o.after, Region.binds .any e = true ∧ e.on = j)
    (h : wpAnyH P .any init (lastQ P o Q) S init.size (Array.replicate init.size false) a w.drew) : (Code.region id (init.push o) true).wp P Q a w := by
  refine wp_region_any hm ?_
  have := wpAny_last hord hg hon hb init.size (Array.replicate init.size false) a w.drew (by simp) h
  rw [show (Array.replicate init.size false).push false = Array.replicate (init.push o).size false from by simp [Array.replicate_succ], show init.size + 1 = (init.push o).size from by simp] at this
  exact this
end
end Go.Proofs.YtpiijhfjliolfaaGreat

namespace Go.Proofs.YtpiijhfjliolfaaGreat
open Go.RowKit Go.Sort

theorem at_zero {x : Oper} {l : List Oper} : (x :: l).toArray[0]? = some x := by simp
theorem at_succ {x o : Oper} {l : List Oper} {n : Nat} (h : l.toArray[n]? = some o) : (x :: l).toArray[n + 1]? = some o := by simpa using h
theorem split_one {α : Type _} {o : α} : [o] = [] ++ [o] := rfl
theorem split_cons {α : Type _} {x o : α} {l i : List α} (h : l = i ++ [o]) : x :: l = (x :: i) ++ [o] := by rw [h]; rfl
def lastOk (l : List Oper) (o : Oper) : Bool :=
  l.zipIdx.all (fun p => p.1.after.toList.all (fun e => decide (e.on < p.2)) && p.1.guard.isNone) && o.guard.isNone && o.after.toList.all (fun e => decide (e.on < l.length)) && (List.range l.length).all (fun j => o.after.toList.any (fun e => Region.binds .any e && e.on == j))
theorem wp_region_last2 {P : Program} {S : World → Prop} {Q : Exit → Act → World → Prop} {id : Nat} {a : Act} {w : World} {ops l : List Oper} {o : Oper} (he : ops = l ++ [o]) (hm : P.follows .mixedOrders = true) (hok : lastOk l o = true)
    (h : wpAnyH P .any l.toArray (lastQ P o Q) S l.length (Array.replicate l.length false) a w.drew) : (Code.region id ops.toArray true).wp P Q a w := by
  subst he
  simp only [lastOk, Bool.and_eq_true, List.all_eq_true, decide_eq_true_eq] at hok
  obtain ⟨⟨⟨h1, h2⟩, h3⟩, h4⟩ := hok
  have e : (l ++ [o]).toArray = l.toArray.push o := by simp
  have hat : ∀ (i : Nat) (oi : Oper), l.toArray[i]? = some oi → (oi, i) ∈ l.zipIdx := fun i oi hi => by
    rw [List.mem_zipIdx_iff_getElem?]
    simpa using hi
  rw [e]
  refine wp_region_last (S := S) hm (fun i oi hi e he => (h1 _ (hat i oi hi)).1 e (by simpa using he)) (fun i oi hi => ?_) (fun e he => h3 e (by simpa using he)) (fun j hj => ?_) (by simpa using h)
  · by_cases hl : i < l.length
    · have hi2 : l.toArray[i]? = some oi := by rw [Array.getElem?_push, if_neg (by simp; omega)] at hi; exact hi
      simpa using (h1 _ (hat i oi hi2)).2
    · have : i = l.length := by have := (Array.getElem?_eq_some_iff.1 hi).1; simp at this; omega
      subst this
      have : o = oi := by simpa using hi
      subst this
      simpa using h2
  · have := h4 j (by simpa using hj)
    rw [List.any_eq_true] at this
    obtain ⟨e, he, hb⟩ := this
    rw [Bool.and_eq_true, beq_iff_eq] at hb
    exact ⟨e, by simpa using he, hb.1, hb.2⟩
end Go.Proofs.YtpiijhfjliolfaaGreat

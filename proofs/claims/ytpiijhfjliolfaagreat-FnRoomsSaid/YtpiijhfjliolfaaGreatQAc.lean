/- The frame of a law's proof whose argument is a slice of bytes; Bytes of the call's own: append of bytes; Which tables are monotone, which are submodular: the program's answer and the reference's; Which lists are sets of sites: the program's answer and the reference's; By which site of a set a client is served, and how far it is: the program's answer and the reference's; Sets as binary numbers, and as rising lists: plain words; Small functions of the laws on costs: too many bytes, equal lists, a sum, a part of the bytes; All sets of some sites in their order: plain words. No condition. -/
import Derived.Test.YtpiijhfjliolfaaGreatQAa
import Derived.Test.YtpiijhfjliolfaaGreatQAb
namespace Go.Proofs.YtpiijhfjliolfaaGreat
open Go.ChangeShapes Go.WideShapes Go.ChangeAt Go.RowKit

section
variable {H : Type} {enc : TypeId × Value → H} {P : Program}
theorem open_bytesAt {W : World} {v : Value} {d : DataW H} {p : List MemPlace} {t e : TypeId} (ht : P.underlying t = some (.slice e)) (he : P.underlying e = some (.int .u8)) (hc : P.cellsOf e = 1)
    (hv : Value.okWide P W .any 0 t v) (h : DataW.Trod enc P W 0 (fun _ => true) true t v d p) : ∃ A n c, v = .slice A n c ∧ BytesAt W A n := by
  obtain ⟨a, len, cap, rfl⟩ := okWide_slice ht hv
  obtain ⟨fuel, hf⟩ := h
  rcases open_ints ht he hc hf with ⟨hcs, _⟩ | ⟨a', len', cap', zs, hcs, _, hl, hm, hz, _, hcell, hwf⟩
  · simp [Value.cells] at hcs
    obtain ⟨rfl, rfl, rfl⟩ := hcs
    exact ⟨none, 0, 0, rfl, by omega, fun k hk => by omega⟩
  · simp [Value.cells] at hcs
    obtain ⟨rfl, rfl, rfl⟩ := hcs
    simp only [if_true] at hz
    refine ⟨some a', len, cap, rfl, by unfold maxLen at hm; omega, fun k hk => ?_⟩
    refine ⟨a', zs.getD k 0, rfl, hcell k (by omega), ?_⟩
    have hw := hwf (zs.getD k 0) (by
      have hk2 : k < zs.length := by omega
      simp [List.getD, hk2])
    have h0 : IntKind.u8.min = 0 := by decide
    have h1 : IntKind.u8.max = 255 := by decide
    generalize zs.getD k 0 = z at *
    simp [Lit.wf, h0, h1] at hw
    omega
theorem open_bytesAtC {W : World} {v : Value} {d : DataW H} {p : List MemPlace} {t e : TypeId} (ht : P.underlying t = some (.slice e)) (he : P.underlying e = some (.int .u8)) (hc : P.cellsOf e = 1)
    (hv : Value.okWide P W .any 0 t v) (h : DataW.Trod enc P W 0 (fun _ => true) true t v d p) : ∃ A n c, v = .slice A n c ∧ BytesAt W A n ∧ n ≤ c := by
  obtain ⟨a, len, cap, rfl⟩ := okWide_slice ht hv
  obtain ⟨fuel, hf⟩ := h
  rcases open_ints ht he hc hf with ⟨hcs, _⟩ | ⟨a', len', cap', zs, hcs, _, hl, hm, hz, _, hcell, hwf⟩
  · simp [Value.cells] at hcs
    obtain ⟨rfl, rfl, rfl⟩ := hcs
    exact ⟨none, 0, 0, rfl, ⟨by omega, fun k hk => by omega⟩, Nat.le_refl _⟩
  · simp [Value.cells] at hcs
    obtain ⟨rfl, rfl, rfl⟩ := hcs
    simp only [if_true] at hz
    refine ⟨some a', len, cap, rfl, ⟨by unfold maxLen at hm; omega, fun k hk => ?_⟩, by omega⟩
    refine ⟨a', zs.getD k 0, rfl, hcell k (by omega), ?_⟩
    have hw := hwf (zs.getD k 0) (by
      have hk2 : k < zs.length := by omega
      simp [List.getD, hk2])
    have h0 : IntKind.u8.min = 0 := by decide
    have h1 : IntKind.u8.max = 255 := by decide
    generalize zs.getD k 0 = z at *
    simp [Lit.wf, h0, h1] at hw
    omega
end
end Go.Proofs.YtpiijhfjliolfaaGreat

namespace Go.Proofs.YtpiijhfjliolfaaGreat
open Go.RowKit Go.Sort

theorem infoByte : (Tryz.prog.info? 5).map (fun i => (i.zero, i.size, i.bytes)) = some (some (.int .u8 0), 1, 1) := by kernel_rfl
/-- A slice of bytes of the call's own. -/
def OwnB (w : World) (base : Nat) (v : Value) (xs : List Int) : Prop := w.ownsRow base 5 1 v xs.length (xs.map (Value.int .u8)) ∧ ∀ x ∈ xs, 0 ≤ x ∧ x < 256
/-- What the bytes read as. -/
theorem BytesAt.list {w : World} {A : Option Addr} {n : Nat} (h : BytesAt w A n) : ∃ ys : List Int, ys.length = n ∧ (∀ y ∈ ys, 0 ≤ y ∧ y < 256) ∧ ∀ k (hk : k < ys.length), ∃ ad, A = some ad ∧ w.cell? (ad.add k) = some (.int .u8 ys[k]) := by
  refine ⟨(List.range n).map fun k => if hk : k < n then (h.2 k hk).choose_spec.choose else 0, by simp, ?_, ?_⟩
  · intro y hy
    rw [List.mem_map] at hy
    obtain ⟨k, hk, rfl⟩ := hy
    have hk2 := List.mem_range.1 hk
    rw [dif_pos hk2]
    exact (h.2 k hk2).choose_spec.choose_spec.2.2
  · intro k hk
    have hk2 : k < n := by simpa using hk
    simp only [List.getElem_map, List.getElem_range]
    rw [dif_pos hk2]
    exact ⟨_, (h.2 k hk2).choose_spec.choose_spec.1, (h.2 k hk2).choose_spec.choose_spec.2.1⟩
/-- A part of the bytes. -/
theorem BytesAt.cut {w : World} {ad : Addr} {n k : Nat} (h : BytesAt w (some ad) n) (hk : k ≤ n) : BytesAt w (some (ad.add k)) (n - k) :=
  ⟨by have := h.1; omega, fun j hj => by
    obtain ⟨a, b, e, hc, hb⟩ := h.2 (k + j) (by omega)
    cases e
    refine ⟨ad.add k, b, rfl, ?_, hb⟩
    rw [Addr.add_add]; exact hc⟩
theorem OwnB.bytes {w : World} {base : Nat} {v : Value} {xs : List Int} (h : OwnB w base v xs) (hl : xs.length ≤ 9223372036854775807) : ∃ A c, v = .slice A xs.length c ∧ BytesAt w A xs.length := by
  rcases h.1.2 with ⟨rfl, h0⟩ | ⟨g, cap, cur, rfl, _, _, _⟩
  · refine ⟨none, 0, by rw [h0], hl, fun k hk => ?_⟩
    rw [h0] at hk; omega
  · refine ⟨_, cap, rfl, hl, fun k hk => ⟨_, xs[k], rfl, ?_, h.2 _ (List.getElem_mem hk)⟩⟩
    exact World.ownsRow.cells h.1 (g := g) rfl k (.int .u8 xs[k]) (by simp [hk])
theorem OwnB.kp {w w' : World} {base : Nat} {v : Value} {xs : List Int} (h : OwnB w base v xs) (hk : Kp w w') : OwnB w' base v xs := ⟨hk.own h.1, h.2⟩
theorem OwnB.lt {w : World} {base : Nat} {v : Value} {xs : List Int} (h : OwnB w base v xs) : ∀ i, v.ownBlock = some i → base ≤ i ∧ i < w.heap.size := h.1.lt
theorem ownB_new0 (w : World) (base : Nat) (hb : base ≤ w.heap.size) : OwnB (w.alloc (.cells #[] 5)) base (.slice (some ⟨w.heap.size, 0, none⟩) 0 0) [] :=
  ⟨World.ownsRow_lit w #[] 0 hb (by unfold maxLen; omega) (by simp), by simp⟩
theorem run_appB {W : World} (ty : TypeId) (base : Nat) (v : Value) (xs ys : List Int) (A : Option Addr) (m c : Nat)
    (hown : OwnB W base v xs) (hm : ys.length = m) (hb : ∀ y ∈ ys, 0 ≤ y ∧ y < 256) (hy : ∀ k (hk : k < ys.length), ∃ ad, A = some ad ∧ W.cell? (ad.add k) = some (.int .u8 ys[k])) (hbase : base ≤ W.heap.size) (hlen : xs.length + ys.length ≤ 4194304) :
    ∃ v' w', (Builtin.append_ #[22, 22] ty #[v, .slice A m c]).run Tryz.prog W = .ok v' w' ∧ OwnB w' base v' (xs ++ ys) ∧ W.grownBy w' v.ownBlock ∧ (v'.ownBlock = v.ownBlock ∨ ∀ g, v'.ownBlock = some g → W.heap.size ≤ g) := by
  obtain ⟨i0, hi, hz0, hz1, hz2⟩ := info_parts infoByte
  have hb2 : ∀ x ∈ xs ++ ys, 0 ≤ x ∧ x < 256 := fun x hx => (List.mem_append.1 hx).elim (hown.2 x) (hb x)
  rcases A with _ | ad
  · have hys : ys = [] := by
      rcases ys with _ | ⟨y, ys⟩
      · rfl
      · obtain ⟨ad, h, _⟩ := hy 0 (by simp)
        cases h
    subst hys
    obtain rfl : m = 0 := by simpa using hm.symm
    refine ⟨v, W, ?_, by simpa using hown, World.grownBy.refl W _, .inl rfl⟩
    rcases hown.1.2 with ⟨rfl, hn0⟩ | ⟨g, cap, cur, rfl, _, _, hnc, _⟩
    · simp [Builtin.append_, run_underlying Tryz.underlying22, sizeOf, typeInfo, hi, Builtin.lenOf, Builtin.firstCells]
    · simp [Builtin.append_, run_underlying Tryz.underlying22, sizeOf, typeInfo, hi, Builtin.lenOf, Builtin.firstCells, hnc, storeCells]
  · obtain ⟨v', w', hrun, h2, h3, _, h5⟩ := run_append_own_at (P := Tryz.prog) W base 22 ty 5 i0 (.int .u8 0) 1 1 Tryz.underlying22 hi hz0 hz1 hz2 rfl (by decide) v xs.length (xs.map (Value.int .u8)) hown.1 ad m c (ys.map (Value.int .u8)) (by simp [hm]) (by
      intro j u hj
      by_cases hlt : j < ys.length
      · rw [List.getElem?_map, List.getElem?_eq_getElem hlt] at hj
        have e : u = .int .u8 ys[j] := by simpa using hj.symm
        obtain ⟨ad', e', hc⟩ := hy j hlt
        cases e'
        rw [e]; exact hc
      · rw [List.getElem?_eq_none (by simpa using hlt)] at hj; cases hj) (ints_oneCell _ _) (by unfold maxLen; omega) (by omega) hbase
    refine ⟨v', w', hrun, ⟨?_, hb2⟩, h3, ?_⟩
    · rw [List.length_append, List.map_append, hm]
      exact h2
    · rcases h5 with e | e
      · exact .inl e
      · exact .inr (fun g hg => by rw [e] at hg; simp at hg; omega)
theorem step_appB {ops : Array Oper} {o : Oper} {a : Act} {K : Act → World → Prop} {Q : Exit → Act → World → Prop} {E : Prop} {W : World} (hgd : o.guard = none) (s x : Operand)
    (ho : o.op = .call { callee := .builtin .append, args := #[s, x], argTypes := #[22, 22] }) (base : Nat) (v : Value) (xs ys : List Int) (A : Option Addr) (m c : Nat)
    (hs : a.eval s = v) (hx : a.eval x = .slice A m c) (hown : OwnB W base v xs) (hm : ys.length = m) (hb : ∀ y ∈ ys, 0 ≤ y ∧ y < 256) (hy : ∀ k (hk : k < ys.length), ∃ ad, A = some ad ∧ W.cell? (ad.add k) = some (.int .u8 ys[k])) (hbase : base ≤ W.heap.size) (hlen : xs.length + ys.length ≤ 4194304)
    (h : ∀ v' w', OwnB w' base v' (xs ++ ys) → Turn (fun i => v.ownBlock = some i) W w' → (v'.ownBlock = v.ownBlock ∨ ∀ g, v'.ownBlock = some g → W.heap.size ≤ g) → K (a.put o.dst v') w') :
    if Region.wanted o (yielded ops a.tmps) = true then Oper.wp Tryz.prog o a W K Q else E := by
  have hw : Region.wanted o (yielded ops a.tmps) = true := by simp [Region.wanted, hgd]
  rw [if_pos hw]
  obtain ⟨v', w', hrun, h2, h3, h4⟩ := run_appB (W := W) o.type base v xs ys A m c hown hm hb hy hbase hlen
  unfold Oper.wp execOp
  simp only [ho, resolve, invoke, builtin, Sem.run_bind, Sem.run_pure, Result.andThen_ok, List.map_toArray, List.map_cons, List.map_nil, hs, hx, hrun]
  exact h v' w' h2 (Turn.of_grown h3) h4
theorem wpl_appB {ops : Array Oper} {rest : List Oper} {o : Oper} {a : Act} {Q : Exit → Act → World → Prop} {W : World} (hgd : o.guard = none) (s x : Operand)
    (ho : o.op = .call { callee := .builtin .append, args := #[s, x], argTypes := #[22, 22] }) (base : Nat) (v : Value) (xs ys : List Int) (A : Option Addr) (m c : Nat)
    (hs : a.eval s = v) (hx : a.eval x = .slice A m c) (hown : OwnB W base v xs) (hm : ys.length = m) (hb : ∀ y ∈ ys, 0 ≤ y ∧ y < 256) (hy : ∀ k (hk : k < ys.length), ∃ ad, A = some ad ∧ W.cell? (ad.add k) = some (.int .u8 ys[k])) (hbase : base ≤ W.heap.size) (hlen : xs.length + ys.length ≤ 4194304)
    (h : ∀ v' w', OwnB w' base v' (xs ++ ys) → Turn (fun i => v.ownBlock = some i) W w' → (v'.ownBlock = v.ownBlock ∨ ∀ g, v'.ownBlock = some g → W.heap.size ≤ g) → wpList Tryz.prog ops Q rest (a.put o.dst v') w') :
    wpList Tryz.prog ops Q (o :: rest) a W := by
  obtain ⟨v', w', hrun, h2, h3, h4⟩ := run_appB (W := W) o.type base v xs ys A m c hown hm hb hy hbase hlen
  exact Lib.wpList_append_run _ hgd s x _ _ ho _ _ hs hx v' w' hrun (h v' w' h2 (Turn.of_grown h3) h4)
theorem wpl_appB1 {ops : Array Oper} {rest : List Oper} {o : Oper} {a : Act} {Q : Exit → Act → World → Prop} {W : World} (hgd : o.guard = none) (s x : Operand)
    (ho : o.op = .call { callee := .builtin .append, args := #[s, x], argTypes := #[22, 22] }) (base : Nat) (v : Value) (xs : List Int) (z : Int)
    (hs : a.eval s = v) (hx : a.eval x = .slice (some ⟨W.heap.size, 0, none⟩) 1 1) (hown : OwnB W base v xs) (hz : 0 ≤ z ∧ z < 256) (hbase : base ≤ W.heap.size) (hlen : xs.length < 1048576)
    (h : ∀ v' w', OwnB w' base v' (xs ++ [z]) → Turn (fun i => v.ownBlock = some i) W w' → wpList Tryz.prog ops Q rest (a.put o.dst v') w') :
    wpList Tryz.prog ops Q (o :: rest) a (W.alloc (.cells #[.int .u8 z] 5)) := by
  have hka : Kp W (W.alloc (.cells #[.int .u8 z] 5)) := (Kp.refl W).alloc _
  refine wpl_appB hgd s x ho base v xs [z] _ 1 1 hs hx (hown.kp hka) rfl (fun y hy => by rw [List.mem_singleton.1 hy]; exact hz) (fun k hk => ?_) (by simp; omega) (by simp; omega) (fun v' w' h1 h2 _ => h v' w' h1 ((Turn.of_kp hka).trans h2))
  obtain rfl : k = 0 := by simpa using hk
  exact ⟨_, rfl, by rw [add0, World.cell?_alloc_at _ _ _ _ rfl]; rfl⟩
theorem wrap_u8_bd (x : Int) : 0 ≤ IntKind.u8.wrap x ∧ IntKind.u8.wrap x < 256 := by
  have : IntKind.u8.wrap x = x % 256 := by simp [IntKind.wrap, IntKind.bits, IntKind.signed]
  omega
end Go.Proofs.YtpiijhfjliolfaaGreat

namespace Go.Proofs.YtpiijhfjliolfaaGreat
open Go.RowKit

def okM (xs : List Int) (a b : Nat) : Bool := !(((a &&& b : Nat) : Int) == (a : Int) && decide (xs.getD b 0 < xs.getD a 0))
def monoB (xs : List Int) : Bool := (List.range xs.length).all fun a => (List.range xs.length).all (okM xs a)
theorem okM_guard {xs : List Int} {a b : Nat} (h : (((a &&& b : Nat) : Int) == (a : Int)) = false) : okM xs a b = true := by simp [okM, h]
theorem okM_val {xs : List Int} {a b : Nat} (ha : a < xs.length) (hb : b < xs.length) (h : (((a &&& b : Nat) : Int) == (a : Int)) = true) : okM xs a b = !decide (xs[b] < xs[a]) := by
  simp [okM, h, List.getD, ha, hb]
theorem all_next {p : Nat → Bool} {k : Nat} (h : Hid ((List.range k).all p = true)) (e : p k = true) : Hid ((List.range (k + 1)).all p = true) := by
  show (List.range (k + 1)).all p = true
  rw [all_range_succ, h.out, e]; rfl
theorem not_all2 {p : Nat → Nat → Bool} {a b n m : Nat} (ha : a < n) (hb : b < m) (h : p a b = false) : ((List.range n).all fun a => (List.range m).all (p a)) = false :=
  all_range_false ha (all_range_false hb h)
theorem not_mono {xs : List Int} {a b n : Nat} (hn : Hid (xs.length = n)) (ha : a < n) (hb : b < n) (h : okM xs a b = false) : monoB xs = false := by
  have e := hn.out; subst e; exact not_all2 ha hb h
theorem is_mono {xs : List Int} {a n : Nat} (hn : Hid (xs.length = n)) (hk : a ≤ n) (hge : ¬ a < n) (h : Hid (((List.range a).all fun a => (List.range n).all (okM xs a)) = true)) : monoB xs = true := by
  have e := hn.out; subst e
  have : a = xs.length := by omega
  subst this; exact h
theorem row_done {p : Nat → Bool} {b n : Nat} (hk : b ≤ n) (hge : ¬ b < n) (h : Hid ((List.range b).all p = true)) : (List.range n).all p = true := by
  have : b = n := by omega
  subst this; exact h

end Go.Proofs.YtpiijhfjliolfaaGreat

namespace Go.Proofs.YtpiijhfjliolfaaGreat
open Go.RowKit Go.Sort

def okR (xs : List Int) (lo hi : Int) (i : Nat) : Bool := inB (xs.getD i 0) lo hi && (decide (i = 0) || decide (xs.getD (i - 1) 0 < xs.getD i 0))
/-- Strictly rising, within bounds. -/
def risB (xs : List Int) (lo hi : Int) : Bool := (List.range xs.length).all (okR xs lo hi)
theorem okR_out {xs : List Int} {lo hi : Int} {i : Nat} (hi' : i < xs.length) (h : inB xs[i] lo hi = false) : okR xs lo hi i = false := by simp [okR, List.getD, hi', h]
theorem okR_zero {xs : List Int} {lo hi : Int} {i : Nat} (hi' : i < xs.length) (h0 : ¬ 0 < i) (h : inB xs[i] lo hi = true) : okR xs lo hi i = true := by
  have e : i = 0 := by omega
  subst e
  simp [okR, List.getD, hi', h]
theorem okR_succ {xs : List Int} {lo hi : Int} {i : Nat} (hi' : i < xs.length) (h0 : 0 < i) (h : inB xs[i] lo hi = true) : okR xs lo hi i = decide (xs[i - 1] < xs[i]) := by
  have h1 : i - 1 < xs.length := by omega
  have h2 : ¬ i = 0 := by omega
  simp [okR, List.getD, hi', h1, h, h2]
theorem ris_no {xs : List Int} {lo hi : Int} {i n : Nat} (hn : Hid (xs.length = n)) (hi' : i < n) (h : okR xs lo hi i = false) : risB xs lo hi = false := by
  have := hn.out; subst this; exact all_range_false hi' h
theorem ris_yes {xs : List Int} {lo hi : Int} {i n : Nat} (hn : Hid (xs.length = n)) (hk : i ≤ n) (hge : ¬ i < n) (h : Hid ((List.range i).all (okR xs lo hi) = true)) : risB xs lo hi = true := by
  have := hn.out; subst this
  have e : i = xs.length := by omega
  subst e; exact h

set_option maxRecDepth 100000 in
set_option maxHeartbeats 1000000 in
theorem l1Rising_any (A : Option Addr) (xs : List Int) (n c : Nat) (lo hi : Int) (w : World) (hx : IntsAt w A xs) (hnx : xs.length = n) :
    Calls Tryz.prog 123 #[.slice A n c, .int .i64 lo, .int .i64 hi] w fun e w' => e = .returned (.bool (risB xs lo hi)) ∧ Dr w w' := by
  have hm : n ≤ 9223372036854775807 := hnx ▸ hx.1
  have Hx := Lib.hid hnx; clear hnx
  go_enter Tryz.func123, Tryz.ntmps123
  go_wp2_with fail
  go_loopw [7] (fun i wr => ∃ k : Nat, k ≤ n ∧ i = .int .i64 k ∧ Hid ((List.range k).all (okR xs lo hi) = true) ∧ Dr w wr) (fun i _ => n - (intOf i).toNat)
  case atStart => exact ⟨0, by omega, rfl, rfl, Dr.refl _⟩
  case round =>
    obtain ⟨k, hk, rfl, Hp, hdr⟩ := hrel
    by_cases hlt : k < n
    · have lx : k < xs.length := by rw [Hx.out]; exact hlt
      obtain ⟨ad, rfl, hc⟩ := (hx.kp hdr.kp).at_ lx
      cases hB : inB xs[k] lo hi
      · have HB := Lib.hid hB
        have Cin := Lib.hid (fun W : World => by have := l1In_any xs[k] lo hi W; rw [hB] at this; exact this)
        clear hB
        go_wp2_with fail
        go_quiet ((go_at_call 84; exact Calls.same_quiet (Cin.out _)))
        go_wp2_with fail
        go_ret
        exact ⟨ret_bool (ris_no Hx hlt (okR_out lx HB.out)).symm, hdr.drewN nq⟩
      · have HB := Lib.hid hB
        have Cin := Lib.hid (fun W : World => by have := l1In_any xs[k] lo hi W; rw [hB] at this; exact this)
        clear hB
        by_cases h0 : 0 < k
        · have hc1 := (hx.kp hdr.kp).some_ (k := k - 1) (by omega)
          have a1 : IntKind.i64.wrap ((k : Int) - 1) = (k : Int) - 1 := IntWalk.i64_in _ (by omega)
          have a2 : ((k : Int) - 1).toNat = k - 1 := by omega
          have a3 : (0 : Int) ≤ (k : Int) - 1 := by omega
          have a4 : (k : Int) - 1 < n := by omega
          have a5 : decide ((0 : Int) < (k : Int)) = true := by simp; omega
          have a6 : 1 ≤ k := h0
          have hok := Lib.hid (okR_succ lx h0 HB.out)
          go_wp2_with fail
          go_quiet ((go_at_call 84; exact Calls.same_quiet (Cin.out _)))
          clear a1 a2 a3 a4 a5
          go_wp2_with fail
          · have h2 : xs[k] ≤ xs[k - 1] := by assumption
            go_ret
            exact ⟨ret_bool (ris_no Hx hlt (by rw [hok.out]; simp; omega)).symm, hdr.drewN nq⟩
          · have h2 : xs[k - 1] < xs[k] := by assumption
            go_roundw
            case rel => exact ⟨k + 1, by omega, by go_num, all_next Hp (by rw [hok.out]; simp; omega), hdr.drewN nq⟩
            case measure => simp [intOf]; omega
        · have hok := Lib.hid (okR_zero lx h0 HB.out)
          have a5 : decide ((0 : Int) < (k : Int)) = false := by simp; omega
          have a6 : k ≤ 0 := by omega
          go_wp2_with fail
          go_quiet ((go_at_call 84; exact Calls.same_quiet (Cin.out _)))
          go_wp2_with fail
          go_roundw
          case rel => exact ⟨k + 1, by omega, by go_num, all_next Hp hok.out, hdr.drewN nq⟩
          case measure => simp [intOf]; omega
    · go_wp2_with fail
      go_ret
      exact ⟨ret_bool (ris_yes Hx hk hlt Hp).symm, hdr⟩

set_option maxRecDepth 100000 in
set_option maxHeartbeats 1000000 in
theorem isRising_any (A : Option Addr) (xs : List Int) (n c : Nat) (b : Int) (w : World) (hx : IntsAt w A xs) (hnx : xs.length = n) (hb0 : 0 ≤ b) (hb1 : b ≤ 9223372036854775807) :
    Calls Tryz.prog 59 #[.slice A n c, .int .i64 b] w fun e w' => e = .returned (.bool (risB xs 0 (b - 1))) ∧ w = w' := by
  have hm : n ≤ 9223372036854775807 := hnx ▸ hx.1
  have Hx := Lib.hid hnx; clear hnx
  go_enter Tryz.func59, Tryz.ntmps59
  go_wp2_with fail
  go_loop [9] (fun i => ∃ k : Nat, k ≤ n ∧ i = .int .i64 k ∧ Hid ((List.range k).all (okR xs 0 (b - 1)) = true)) (fun i => n - (intOf i).toNat)
  case atStart => exact ⟨0, by omega, rfl, rfl⟩
  case round =>
    obtain ⟨k, hk, rfl, Hp⟩ := hrel
    by_cases hlt : k < n
    · have lx : k < xs.length := by rw [Hx.out]; exact hlt
      obtain ⟨ad, rfl, hc⟩ := hx.at_ lx
      go_wp2_with fail
      refine (between_any _ _ _ _).mono ?_
      rintro e w' ⟨rfl, rfl⟩
      cases hB : inB xs[k] 0 (b - 1)
      · have HB := Lib.hid hB; clear hB
        go_wp2_with fail
        go_ret
        exact ⟨ret_bool (ris_no Hx hlt (okR_out lx HB.out)).symm, rfl⟩
      · have HB := Lib.hid hB; clear hB
        by_cases h0 : 0 < k
        · have hc1 := hx.some_ (k := k - 1) (by omega)
          have a6 : 1 ≤ k := h0
          have a5 : decide ((0 : Int) < (k : Int)) = true := by simp; omega
          have hok := Lib.hid (okR_succ lx h0 HB.out)
          go_wp2_with fail
          · have h2 : xs[k] ≤ xs[k - 1] := by assumption
            go_ret
            exact ⟨ret_bool (ris_no Hx hlt (by rw [hok.out]; simp; omega)).symm, rfl⟩
          · have h2 : xs[k - 1] < xs[k] := by assumption
            go_round
            case rel => exact ⟨k + 1, by omega, by go_num, all_next Hp (by rw [hok.out]; simp; omega)⟩
            case measure => simp [intOf]; omega
        · have hok := Lib.hid (okR_zero lx h0 HB.out)
          have a5 : decide ((0 : Int) < (k : Int)) = false := by simp; omega
          have a6 : k ≤ 0 := by omega
          go_wp2_with fail
          go_round
          case rel => exact ⟨k + 1, by omega, by go_num, all_next Hp hok.out⟩
          case measure => simp [intOf]; omega
    · go_wp2_with fail
      go_ret
      exact ⟨ret_bool (ris_yes Hx hk hlt Hp).symm, rfl⟩

/-- A set of sites of a field. -/
def setB (F : Fld) (S : List Int) : Bool := risB S 0 ((F.op.length : Int) - 1)
theorem l2Set_any (f : Value) (F : Fld) (A : Option Addr) (xs : List Int) (n c : Nat) (w : World) (hf : FldAt w f F) (hx : IntsAt w A xs) (hnx : xs.length = n) :
    Calls Tryz.prog 108 #[f, .slice A n c] w fun e w' => e = .returned (.bool (setB F xs)) ∧ Kp w w' := by
  obtain ⟨A', c', B, d, rfl, hA, hB⟩ := hf
  have hk0 : Kp w (w.alloc (.cells #[.slice A' F.op.length c', .slice B F.di.length d] 27)) := (Kp.refl w).alloc _
  have hAl := hA.1
  have Hx := Lib.hid hnx; clear hnx
  go_enter Tryz.func108, Tryz.ntmps108
  go_wp2_with fail
  have CC := Lib.hid (l1Rising_any A xs n c 0 (F.op.length - 1) _ (hx.kp hk0) Hx.out)
  with_reducible refine Calls.mono CC.out ?_
  rintro e w1 ⟨rfl, hk1⟩
  clear CC
  go_wp2_with fail
  go_ret
  exact ⟨rfl, hk0.trans hk1.kp⟩
end Go.Proofs.YtpiijhfjliolfaaGreat

namespace Go.Proofs.YtpiijhfjliolfaaGreat
open Go.RowKit Go.Sort

/-- The length from a client to a site. -/
def dAt (F : Fld) (i : Nat) (a : Int) : Int := (F.di.getD i []).getD a.toNat 0
def stepS (F : Fld) (i : Nat) (best a : Int) : Int := if dAt F i a < dAt F i best then a else best
/-- The best of the first k sites. -/
def siteTo (F : Fld) (i : Nat) (S : List Int) (k : Nat) : Int := (S.take k).foldl (stepS F i) (S.headD 0)
def siteF (F : Fld) (i : Nat) (S : List Int) : Int := S.foldl (stepS F i) (S.headD 0)
def nearF (F : Fld) (i : Nat) (S : List Int) : Int := dAt F i (siteF F i S)

theorem set_mem {F : Fld} {S : List Int} (h : setB F S = true) : ∀ x ∈ S, 0 ≤ x ∧ x < F.op.length := by
  intro x hx
  obtain ⟨k, hk, rfl⟩ := List.getElem_of_mem hx
  have := List.all_eq_true.1 h k (by simpa using hk)
  simp only [okR, Bool.and_eq_true] at this
  have h1 := inB_iff.1 this.1
  simp [List.getD, hk] at h1
  omega
theorem stepS_lt {F : Fld} {i : Nat} {b a : Int} (h : dAt F i a < dAt F i b) : stepS F i b a = a := if_pos h
theorem stepS_ge {F : Fld} {i : Nat} {b a : Int} (h : dAt F i b ≤ dAt F i a) : stepS F i b a = b := if_neg (by omega)
theorem siteTo_succ {F : Fld} {i : Nat} {S : List Int} {k : Nat} (hk : k < S.length) : siteTo F i S (k + 1) = stepS F i (siteTo F i S k) S[k] := by
  rw [siteTo, List.take_succ_eq_append_getElem hk, List.foldl_append]; rfl
theorem fold_mem {F : Fld} {i : Nat} : ∀ (L : List Int) (b : Int), L.foldl (stepS F i) b = b ∨ L.foldl (stepS F i) b ∈ L
  | [], b => .inl rfl
  | a :: L, b => by
    simp only [List.foldl_cons]
    rcases fold_mem L (stepS F i b a) with h | h
    · rw [h]
      unfold stepS
      by_cases hl : dAt F i a < dAt F i b
      · rw [if_pos hl]; exact .inr (by simp)
      · rw [if_neg hl]; exact .inl rfl
    · exact .inr (by simp [h])
theorem siteTo_mem {F : Fld} {i : Nat} {S : List Int} (h : S ≠ []) (k : Nat) : siteTo F i S k ∈ S := by
  have hh : S.headD 0 ∈ S := by
    cases S with
    | nil => exact absurd rfl h
    | cons a S => simp
  rcases fold_mem (F := F) (i := i) (S.take k) (S.headD 0) with e | e
  · rw [siteTo, e]; exact hh
  · exact List.mem_of_mem_take e
theorem siteTo_all {F : Fld} {i : Nat} {S : List Int} {k : Nat} (h : S.length ≤ k) : siteTo F i S k = siteF F i S := by
  rw [siteTo, List.take_of_length_le h]; rfl
theorem siteF_mem {F : Fld} {i : Nat} {S : List Int} (h : S ≠ []) : siteF F i S ∈ S := by
  rw [← siteTo_all (Nat.le_refl _)]; exact siteTo_mem h _
theorem siteTo_one {F : Fld} {i : Nat} {S : List Int} (h : 0 < S.length) : siteTo F i S 1 = S[0] := by
  cases S with
  | nil => simp at h
  | cons a S => simp [siteTo, stepS]
theorem siteTo_zero {F : Fld} {i : Nat} {S : List Int} (h : 0 < S.length) : siteTo F i S 0 = S[0] := by
  cases S with
  | nil => simp at h
  | cons a S => simp [siteTo]
/-- The cell of a length. -/
theorem dCell {w : World} {rd : Addr} {F : Fld} {i : Nat} {a : Int} (hi : i < F.di.length) (hr : IntsAt w (some rd) F.di[i]) (h0 : 0 ≤ a) (h1 : a < F.di[i].length) : w.cell? (rd.add a.toNat) = some (.int .i64 (dAt F i a)) := by
  have h2 : a.toNat < F.di[i].length := by omega
  rw [hr.some_ h2]
  simp [dAt, List.getD, hi, h2]

set_option maxRecDepth 100000 in
set_option maxHeartbeats 1000000 in
theorem server_any (f : Value) (F : Fld) (i : Nat) (A0 : Option Addr) (S : List Int) (n c0 : Nat) (w : World) (hf : FldAt w f F) (hS : IntsAt w A0 S) (hn : S.length = n) (hg : goodF F = true) (hs : setB F S = true) (hne : S ≠ []) (hi : i < F.di.length) :
    Calls Tryz.prog 145 #[f, .int .i64 i, .slice A0 n c0] w fun e w' => e = .returned (.int .i64 (siteF F i S)) ∧ Kp w w' := by
  obtain ⟨A, c, B, d, rfl, hA, hB⟩ := hf
  have hk0 : Kp w (w.alloc (.cells #[.slice A F.op.length c, .slice B F.di.length d] 27)) := (Kp.refl w).alloc _
  obtain ⟨d0, d1⟩ := box2 w (.slice A F.op.length c) (.slice B F.di.length d) 27
  have hB0 := hB.kp hk0
  have hS0 := hS.kp hk0
  have hpos : 0 < n := by rw [← hn]; exact List.length_pos_iff.2 hne
  have hnb := hS.1
  rw [hn] at hnb
  have Hn := Lib.hid hn; clear hn
  have Hm := Lib.hid (set_mem hs)
  have Hne := Lib.hid hne
  have hrl := Lib.hid (goodRow hg hi)
  have hd7 := (goodF_iff.1 hg).2.2.1
  clear hs hg hne
  have lx0 : 0 < S.length := by rw [Hn.out]; exact hpos
  obtain ⟨sd, rfl, hc0⟩ := hS0.at_ lx0
  have hz := Lib.hid (siteTo_zero (F := F) (i := i) lx0)
  rw [show sd.add 0 = sd from rfl] at hc0
  have hp1 : (0 : Int) < n := by omega
  obtain ⟨bd, A', c', rfl, hcr, hr⟩ := hB0.at_ hi
  go_enter Tryz.func145, Tryz.ntmps145
  go_wp2_with fail
  generalize w.alloc (.cells #[.slice A F.op.length c, .slice (some bd) F.di.length d] 27) = wb at *
  go_loopw [7, 15] (fun bv ix wr => ∃ k : Nat, k ≤ n ∧ ix = .int .i64 k ∧ bv = .int .i64 (siteTo F i S k) ∧ Dr wb wr) (fun _ ix _ => n - (intOf ix).toNat)
  case atStart => exact ⟨0, by omega, rfl, by rw [hz.out], Dr.refl _⟩
  case round =>
    obtain ⟨k, hk, rfl, rfl, hdr⟩ := hrel
    have e1 := hdr.kp.get d1
    by_cases hlt : k < n
    · have lx : k < S.length := by rw [Hn.out]; exact hlt
      have hck := (hS0.kp hdr.kp).some_ lx
      obtain ⟨ha0, ha1⟩ := Hm.out _ (List.getElem_mem lx)
      obtain ⟨hb0, hb1⟩ := Hm.out _ (siteTo_mem (F := F) (i := i) Hne.out k)
      rw [← hrl.out] at ha1 hb1
      have hrow := (hB0.kp hdr.kp).some_ hi
      obtain ⟨A2, c2, hcr2, hr2⟩ := hrow
      have hpl : 0 < F.di[i].length := by omega
      obtain ⟨rd, rfl, _⟩ := hr2.at_ hpl
      have hda := dCell hi hr2 ha0 ha1
      have hdb := dCell hi hr2 hb0 hb1
      have hsucc := Lib.hid (siteTo_succ (F := F) (i := i) lx)
      go_wp2_with fail
      go_quiet (fail)
      go_wp2_with fail
      · have h2 : dAt F i S[k] < dAt F i (siteTo F i S k) := by assumption
        go_roundw
        case rel => exact ⟨k + 1, by omega, by go_num, by rw [hsucc.out, stepS_lt h2], hdr.drewN nq⟩
        case measure => simp [intOf]; omega
      · have h2 : dAt F i (siteTo F i S k) ≤ dAt F i S[k] := by assumption
        go_roundw
        case rel => exact ⟨k + 1, by omega, by go_num, by rw [hsucc.out, stepS_ge h2], hdr.drewN nq⟩
        case measure => simp [intOf]; omega
    · go_wp2_with fail
      go_ret
      exact ⟨ret_int (by rw [siteTo_all (by rw [Hn.out]; omega)]), hk0.trans hdr.kp⟩

end Go.Proofs.YtpiijhfjliolfaaGreat

namespace Go.Proofs.YtpiijhfjliolfaaGreat
open Go.RowKit Go.Sort

/-- The members below n of the set with the number b, rising. -/
def bitsN (n b : Nat) : List Nat := (List.range n).filter (fun x => b.testBit x)
def bitsL (n b : Nat) : List Int := (bitsN n b).map fun (x : Nat) => (x : Int)
theorem bitsN_succ (n b : Nat) : bitsN (n + 1) b = bitsN n b ++ if b.testBit n then [n] else [] := by
  unfold bitsN
  rw [List.range_succ, List.filter_append]
  by_cases h : b.testBit n = true <;> simp [h]
theorem bitsL_yes {n b : Nat} (h : b.testBit n = true) : bitsL (n + 1) b = bitsL n b ++ [(n : Int)] := by simp [bitsL, bitsN_succ, h]
theorem bitsL_no {n b : Nat} (h : b.testBit n = false) : bitsL (n + 1) b = bitsL n b := by simp [bitsL, bitsN_succ, h]
theorem bitsL_len (n b : Nat) : (bitsL n b).length ≤ n := by
  unfold bitsL bitsN
  rw [List.length_map]
  exact Nat.le_trans (List.length_filter_le _ _) (by simp)
theorem mem_bitsL {n b : Nat} {x : Int} : x ∈ bitsL n b ↔ 0 ≤ x ∧ x < n ∧ b.testBit x.toNat = true := by
  simp only [bitsL, bitsN, List.mem_map, List.mem_filter, List.mem_range]
  constructor
  · rintro ⟨k, ⟨h1, h2⟩, rfl⟩
    exact ⟨by omega, by omega, by simpa using h2⟩
  · rintro ⟨h0, h1, h2⟩
    exact ⟨x.toNat, ⟨by omega, h2⟩, by omega⟩
theorem bitsL_more {n m b : Nat} (h : b < 2 ^ n) (hm : n ≤ m) : bitsL m b = bitsL n b := by
  obtain ⟨d, rfl⟩ := Nat.le.dest hm
  clear hm
  induction d with
  | zero => rfl
  | succ d ih =>
    have hb : b.testBit (n + d) = false := Nat.testBit_lt_two_pow (Nat.lt_of_lt_of_le h (Nat.pow_le_pow_right (by omega) (by omega)))
    rw [show n + (d + 1) = n + d + 1 from rfl, bitsL_no hb]
    exact ih
/-- Strictly rising. -/
theorem bitsN_sorted (n b : Nat) : (bitsN n b).Pairwise (· < ·) := List.Pairwise.filter _ List.pairwise_lt_range
theorem bitsL_sorted (n b : Nat) : (bitsL n b).Pairwise (· < ·) := by
  unfold bitsL
  rw [List.pairwise_map]
  exact (bitsN_sorted n b).imp (fun h => by omega)
/-- A rising list within bounds is a set, and the other way round. -/
theorem ris_iff {xs : List Int} {lo hi : Int} : risB xs lo hi = true ↔ xs.Pairwise (· < ·) ∧ ∀ x ∈ xs, lo ≤ x ∧ x ≤ hi := by
  constructor
  · intro h
    have hk : ∀ k, k < xs.length → okR xs lo hi k = true := fun k hk => List.all_eq_true.1 h k (by simpa using hk)
    refine ⟨?_, fun x hx => ?_⟩
    · rw [List.pairwise_iff_getElem]
      intro i j hi' hj hij
      have adj : ∀ k, (hd : k + 1 < xs.length) → xs[k] < xs[k + 1] := fun k hd => by
        have h1 := hk (k + 1) hd
        have hb : inB xs[k + 1] lo hi = true := by simp only [okR, Bool.and_eq_true] at h1; simpa [List.getD, hd] using h1.1
        rw [okR_succ hd (by omega) hb] at h1
        simpa using h1
      have step : ∀ d, (hd : i + d + 1 < xs.length) → xs[i] < xs[i + d + 1] := by
        intro d
        induction d with
        | zero => intro hd; exact adj i hd
        | succ d ih => intro hd; exact Int.lt_trans (ih (by omega)) (adj (i + d + 1) hd)
      obtain ⟨d, rfl⟩ : ∃ d, j = i + d + 1 := ⟨j - i - 1, by omega⟩
      exact step d hj
    · obtain ⟨k, hk', rfl⟩ := List.getElem_of_mem hx
      have h1 := hk k hk'
      simp only [okR, Bool.and_eq_true] at h1
      simpa [List.getD, hk', inB_iff] using h1.1
  · rintro ⟨h1, h2⟩
    rw [risB, List.all_eq_true]
    intro k hk
    have hk' : k < xs.length := by simpa using hk
    have hb := inB_iff.2 (h2 _ (List.getElem_mem hk'))
    by_cases h0 : 0 < k
    · rw [okR_succ hk' h0 hb]
      simpa using List.pairwise_iff_getElem.1 h1 (k - 1) k (by omega) hk' (by omega)
    · exact okR_zero hk' h0 hb
theorem bitsL_ris (n b : Nat) (hi : Int) (h : (n : Int) - 1 ≤ hi) : risB (bitsL n b) 0 hi = true := by
  rw [ris_iff]
  refine ⟨bitsL_sorted n b, fun x hx => ?_⟩
  obtain ⟨h0, h1, _⟩ := mem_bitsL.1 hx
  omega
theorem bitsL_set {F : Fld} (b : Nat) : setB F (bitsL F.op.length b) = true := bitsL_ris _ _ _ (Int.le_refl _)
/-- Two rising lists with the same members are the same. -/
theorem rising_ext : ∀ {xs ys : List Int}, xs.Pairwise (· < ·) → ys.Pairwise (· < ·) → (∀ x, x ∈ xs ↔ x ∈ ys) → xs = ys
  | [], [], _, _, _ => rfl
  | [], y :: ys, _, _, h => by have := (h y).2 (by simp); cases this
  | x :: xs, [], _, _, h => by have := (h x).1 (by simp); cases this
  | x :: xs, y :: ys, hx, hy, h => by
    rw [List.pairwise_cons] at hx hy
    have e : x = y := by
      have h1 := (h x).1 (by simp)
      have h2 := (h y).2 (by simp)
      rcases List.mem_cons.1 h1 with e | h1
      · exact e
      rcases List.mem_cons.1 h2 with e | h2
      · exact e.symm
      have := hx.1 y h2
      have := hy.1 x h1
      omega
    subst e
    refine congrArg (x :: ·) (rising_ext hx.2 hy.2 (fun z => ?_))
    constructor
    · intro hz
      rcases List.mem_cons.1 ((h z).1 (by simp [hz])) with e | hz'
      · subst e; have := hx.1 z hz; omega
      · exact hz'
    · intro hz
      rcases List.mem_cons.1 ((h z).2 (by simp [hz])) with e | hz'
      · subst e; have := hy.1 z hz; omega
      · exact hz'
/-- The number of a list. -/
def bagTo (b : Nat) (S : List Int) : Nat := S.foldl (fun b x => b ||| 2 ^ x.toNat) b
def bagN (S : List Int) : Nat := bagTo 0 S
theorem bagTo_bit (x : Nat) : ∀ (S : List Int) (b : Nat), (∀ y ∈ S, 0 ≤ y) → (bagTo b S).testBit x = (b.testBit x || decide ((x : Int) ∈ S))
  | [], b, _ => by simp [bagTo]
  | y :: S, b, h => by
    have ih := bagTo_bit x S (b ||| 2 ^ y.toNat) (fun z hz => h z (by simp [hz]))
    have h0 := h y (by simp)
    simp only [bagTo, List.foldl_cons] at ih ⊢
    rw [ih, Nat.testBit_or, Nat.testBit_two_pow]
    by_cases e : y.toNat = x
    · have : (x : Int) = y := by omega
      simp [e, this]
    · have : ¬ (x : Int) = y := by omega
      simp [e, this]
theorem bagN_bit {S : List Int} (h : ∀ y ∈ S, 0 ≤ y) (x : Nat) : (bagN S).testBit x = decide ((x : Int) ∈ S) := by
  rw [bagN, bagTo_bit x S 0 h]; simp
theorem bagTo_lt {n : Nat} : ∀ (S : List Int) (b : Nat), b < 2 ^ n → (∀ y ∈ S, 0 ≤ y ∧ y < n) → bagTo b S < 2 ^ n
  | [], b, hb, _ => hb
  | y :: S, b, hb, h => by
    have h0 := h y (by simp)
    exact bagTo_lt S _ (Nat.or_lt_two_pow hb (Nat.pow_lt_pow_right (by omega) (by omega))) (fun z hz => h z (by simp [hz]))
theorem bagN_lt {n : Nat} {S : List Int} (h : ∀ y ∈ S, 0 ≤ y ∧ y < n) : bagN S < 2 ^ n := bagTo_lt S 0 (Nat.two_pow_pos n) h
/-- A set's number leads back to it. -/
theorem bits_bag {n : Nat} {S : List Int} (hs : S.Pairwise (· < ·)) (h : ∀ y ∈ S, 0 ≤ y ∧ y < n) : bitsL n (bagN S) = S := by
  refine rising_ext (bitsL_sorted _ _) hs (fun x => ?_)
  rw [mem_bitsL]
  constructor
  · rintro ⟨h0, h1, h2⟩
    rw [bagN_bit (fun y hy => (h y hy).1)] at h2
    have e : ((x.toNat : Nat) : Int) = x := by omega
    rw [e] at h2
    simpa using h2
  · intro hx
    obtain ⟨h0, h1⟩ := h x hx
    refine ⟨h0, h1, ?_⟩
    rw [bagN_bit (fun y hy => (h y hy).1)]
    have e : ((x.toNat : Nat) : Int) = x := by omega
    rw [e]; simpa using hx
theorem set_bits {F : Fld} {S : List Int} (h : setB F S = true) : bitsL F.op.length (bagN S) = S := bits_bag (ris_iff.1 h).1 (set_mem h)

/-- A number put into a rising list. -/
def putL (S : List Int) (a : Int) : List Int := if a ∈ S then S else S.takeWhile (· < a) ++ a :: S.dropWhile (· < a)
end Go.Proofs.YtpiijhfjliolfaaGreat

namespace Go.Proofs.YtpiijhfjliolfaaGreat
open Go.RowKit Go.Sort

theorem vBig_any (A : Option Addr) (n c : Nat) (w : World) :
    Calls Tryz.prog 4 #[.slice A n c] w fun e w' => e = .returned (.bool (decide (65536 < (n : Int)))) ∧ w = w' := by
  go_enter Tryz.func4, Tryz.ntmps4
  go_wp2_with fail
  go_ret
  exact ⟨rfl, rfl⟩
set_option maxRecDepth 100000 in
set_option maxHeartbeats 1000000 in
/-- Two slices that read as the same list. -/
theorem vInts_same (A B : Option Addr) (xs : List Int) (n c d : Nat) (w : World) (hA : IntsAt w A xs) (hB : IntsAt w B xs) (hn : xs.length = n) :
    Calls Tryz.prog 17 #[.slice A n c, .slice B n d] w fun e w' => e = .returned (.bool true) ∧ Kp w w' := by
  have Hn := Lib.hid hn
  have hn63 : n ≤ 9223372036854775807 := hn ▸ hA.1
  clear hn
  have e0 : ((n : Int) != (n : Int)) = false := by simp
  go_enter Tryz.func17, Tryz.ntmps17
  go_wp2_with fail
  go_loopw [5] (fun iv wr => ∃ i : Nat, iv = .int .i64 i ∧ i ≤ n ∧ Kp w wr) (fun iv _ => n - (intOf iv).toNat)
  case atStart => exact ⟨0, rfl, by omega, Kp.refl _⟩
  case round =>
    obtain ⟨i, rfl, hi, hkr⟩ := hrel
    by_cases hlt : i < n
    · have lx : i < xs.length := by rw [Hn.out]; exact hlt
      obtain ⟨a, rfl, h1⟩ := (hA.kp hkr).at_ lx
      obtain ⟨b, rfl, h2⟩ := (hB.kp hkr).at_ lx
      obtain ⟨z, hz⟩ : ∃ z, xs[i] = z := ⟨_, rfl⟩
      rw [hz] at h1 h2
      have e1 : (z != z) = false := by simp
      have hkd : Kp w wr.drew := hkr.trans (Kp.refl wr).drew
      have iI : (i : Int) < (n : Int) := by omega
      go_wp2_with fail
      go_still (by kernel_rfl)
      change Exit.then _ _ _ _ wr.drew
      generalize wr.drew = wd at *
      go_wp2_with fail
      go_roundw
      case rel => exact ⟨i + 1, by go_num, by omega, hkd⟩
      case measure => simp [intOf]; omega
    · obtain rfl : i = n := by omega
      go_wp2_with fail
      go_ret
      exact ⟨rfl, hkr⟩
theorem OwnB.cap {w : World} {base n c : Nat} {v : Value} {A : Option Addr} {xs : List Int} (h : OwnB w base v xs) (e : v = .slice A n c) : xs.length ≤ c := by
  rcases h.1.2 with ⟨rfl, h0⟩ | ⟨g, cap, cur, rfl, _, _, h4, _⟩
  · omega
  · cases e; exact h4
set_option maxRecDepth 100000 in
set_option maxHeartbeats 1000000 in
/-- A part of the bytes and one more. -/
theorem vCut_any (A : Option Addr) (n c k : Nat) (w : World) (hA : BytesAt w A n) (hn : n ≤ 65536) (hc : n ≤ c) (hk : k ≤ n) :
    Calls Tryz.prog 11 #[.slice A n c, .int .i64 k] w fun e w' => ∃ A' n' c', e = .returned (.slice A' n' c') ∧ (BytesAt w' A' n' ∧ n' ≤ c' ∧ n' ≤ 65537) ∧ Kp w w' := by
  have hd : decide ((n : Int) < (k : Int)) = false := decide_eq_false (by omega)
  have hkI : (k : Int) ≤ (n : Int) := by omega
  have hk0 : (0 : Int) ≤ (k : Int) := by omega
  have ho := ownB_new0 w w.heap.size (Nat.le_refl _)
  have hka : Kp w (w.alloc (.cells #[] 5)) := (Kp.refl w).alloc _
  have hbs : w.heap.size ≤ (w.alloc (.cells #[] 5)).heap.size := hka.le
  rcases A with _ | ad
  · obtain rfl : n = 0 := by
      rcases Nat.eq_zero_or_pos n with h | h
      · exact h
      · obtain ⟨a, b, e, _⟩ := hA.2 0 h
        cases e
    obtain rfl : k = 0 := by omega
    obtain ⟨ys, hm, hb, hy⟩ := (hA.kp hka).list
    have hlen : ([] : List Int).length + ys.length ≤ 4194304 := by simp; omega
    have hlen1 : (([] : List Int) ++ ys).length < 1048576 := by simp; omega
    go_enter Tryz.func11, Tryz.ntmps11
    go_wp2_with (first | (at_builtin; refine wpl_appB rfl (.tmp 11) (.tmp 14) rfl w.heap.size _ [] ys (none) (0) (c) rfl rfl ho hm hb hy hbs hlen ?_; intro v1 w1 ho1 ht1 h41; have kk := hka.turn ht1 (fun i e => (ho.lt i e).1); have hbs1 := kk.le) | (at_builtin; refine wpl_appB1 rfl (.tmp 15) (.tmp 18) rfl w.heap.size _ ([] ++ ys) _ rfl rfl ho1 (show (0 : Int) ≤ 0 ∧ (0 : Int) < 256 from by omega) hbs1 hlen1 ?_; intro v2 w2 ho2 ht2; have k2 := kk.turn ht2 (fun i e => (ho1.lt i e).1); obtain ⟨A2, c2, hv2, hb2⟩ := ho2.bytes (by simp; omega); have hcl := ho2.cap hv2; subst hv2) | fail)
    go_ret
    exact ⟨_, _, _, rfl, ⟨by simpa [hm] using hb2, by simpa [hm] using hcl, by omega⟩, k2⟩
  · by_cases hck : c = k
    · obtain rfl : n = k := by omega
      subst hck
      obtain ⟨ys, hm, hb, hy⟩ : ∃ ys : List Int, ys.length = 0 ∧ (∀ y ∈ ys, 0 ≤ y ∧ y < 256) ∧ ∀ k (hk : k < ys.length), ∃ a, some ad = some a ∧ (w.alloc (.cells #[] 5)).cell? (a.add k) = some (.int .u8 ys[k]) := ⟨[], rfl, by simp, fun k hk => by simp at hk⟩
      have hlen : ([] : List Int).length + ys.length ≤ 4194304 := by simp; omega
      have hlen1 : (([] : List Int) ++ ys).length < 1048576 := by simp; omega
      go_enter Tryz.func11, Tryz.ntmps11
      go_wp2_with (first | (at_builtin; refine wpl_appB rfl (.tmp 11) (.tmp 14) rfl w.heap.size _ [] ys (some ad) (0) (0) rfl rfl ho hm hb hy hbs hlen ?_; intro v1 w1 ho1 ht1 h41; have kk := hka.turn ht1 (fun i e => (ho.lt i e).1); have hbs1 := kk.le) | (at_builtin; refine wpl_appB1 rfl (.tmp 15) (.tmp 18) rfl w.heap.size _ ([] ++ ys) _ rfl rfl ho1 (wrap_u8_bd _) hbs1 hlen1 ?_; intro v2 w2 ho2 ht2; have k2 := kk.turn ht2 (fun i e => (ho1.lt i e).1); obtain ⟨A2, c2, hv2, hb2⟩ := ho2.bytes (by simp; omega); have hcl := ho2.cap hv2; subst hv2) | fail)
      go_ret
      exact ⟨_, _, _, rfl, ⟨by simpa [hm] using hb2, by simpa [hm] using hcl, by omega⟩, k2⟩
    · have hck2 : ((c : Int) == (k : Int)) = false := by simp; omega
      obtain ⟨ys, hm, hb, hy⟩ := ((hA.kp hka).cut hk).list
      have hlen : ([] : List Int).length + ys.length ≤ 4194304 := by simp; omega
      have hlen1 : (([] : List Int) ++ ys).length < 1048576 := by simp; omega
      go_enter Tryz.func11, Tryz.ntmps11
      go_wp2_with (first | (at_builtin; refine wpl_appB rfl (.tmp 11) (.tmp 14) rfl w.heap.size _ [] ys (some (ad.add k)) (n - k) (c - k) rfl rfl ho hm hb hy hbs hlen ?_; intro v1 w1 ho1 ht1 h41; have kk := hka.turn ht1 (fun i e => (ho.lt i e).1); have hbs1 := kk.le) | (at_builtin; refine wpl_appB1 rfl (.tmp 15) (.tmp 18) rfl w.heap.size _ ([] ++ ys) _ rfl rfl ho1 (wrap_u8_bd _) hbs1 hlen1 ?_; intro v2 w2 ho2 ht2; have k2 := kk.turn ht2 (fun i e => (ho1.lt i e).1); obtain ⟨A2, c2, hv2, hb2⟩ := ho2.bytes (by simp; omega); have hcl := ho2.cap hv2; subst hv2) | fail)
      go_ret
      exact ⟨_, _, _, rfl, ⟨by simpa [hm] using hb2, by simpa [hm] using hcl, by omega⟩, k2⟩
set_option maxRecDepth 100000 in
set_option maxHeartbeats 1000000 in
theorem vCut_over (A : Option Addr) (n c k : Nat) (w : World) (hA : BytesAt w A n) (hn : n ≤ 65536) (hc : n ≤ c) (hk : n < k) :
    Calls Tryz.prog 11 #[.slice A n c, .int .i64 k] w fun e w' => ∃ A' n' c', e = .returned (.slice A' n' c') ∧ (BytesAt w' A' n' ∧ n' ≤ c' ∧ n' ≤ 65537) ∧ Kp w w' := by
  have hd : decide ((n : Int) < (k : Int)) = true := decide_eq_true (by omega)
  have ho := ownB_new0 w w.heap.size (Nat.le_refl _)
  have hka : Kp w (w.alloc (.cells #[] 5)) := (Kp.refl w).alloc _
  have hbs : w.heap.size ≤ (w.alloc (.cells #[] 5)).heap.size := hka.le
  rcases A with _ | ad
  · obtain rfl : n = 0 := by
      rcases Nat.eq_zero_or_pos n with h | h
      · exact h
      · obtain ⟨a, b, e, _⟩ := hA.2 0 h
        cases e
    obtain ⟨ys, hm, hb, hy⟩ := (hA.kp hka).list
    have hlen : ([] : List Int).length + ys.length ≤ 4194304 := by simp; omega
    have hlen1 : (([] : List Int) ++ ys).length < 1048576 := by simp; omega
    go_enter Tryz.func11, Tryz.ntmps11
    go_wp2_with (first | (at_builtin; refine wpl_appB rfl (.tmp 11) (.tmp 14) rfl w.heap.size _ [] ys (none) (0) (c) rfl rfl ho hm hb hy hbs hlen ?_; intro v1 w1 ho1 ht1 h41; have kk := hka.turn ht1 (fun i e => (ho.lt i e).1); have hbs1 := kk.le) | (at_builtin; refine wpl_appB1 rfl (.tmp 15) (.tmp 18) rfl w.heap.size _ ([] ++ ys) _ rfl rfl ho1 (show (0 : Int) ≤ 0 ∧ (0 : Int) < 256 from by omega) hbs1 hlen1 ?_; intro v2 w2 ho2 ht2; have k2 := kk.turn ht2 (fun i e => (ho1.lt i e).1); obtain ⟨A2, c2, hv2, hb2⟩ := ho2.bytes (by simp; omega); have hcl := ho2.cap hv2; subst hv2) | fail)
    go_ret
    exact ⟨_, _, _, rfl, ⟨by simpa [hm] using hb2, by simpa [hm] using hcl, by omega⟩, k2⟩
  · have hkI : (n : Int) ≤ (n : Int) := by omega
    have hk0 : (0 : Int) ≤ (n : Int) := by omega
    have hkc : (n : Int) ≤ (c : Int) := by omega
    obtain ⟨ys, hm, hb, hy⟩ : ∃ ys : List Int, ys.length = 0 ∧ (∀ y ∈ ys, 0 ≤ y ∧ y < 256) ∧ ∀ (B : Option Addr), ∀ k (hk : k < ys.length), ∃ a, B = some a ∧ (w.alloc (.cells #[] 5)).cell? (a.add k) = some (.int .u8 ys[k]) := ⟨[], rfl, by simp, fun B k hk => by simp at hk⟩
    have hlen : ([] : List Int).length + ys.length ≤ 4194304 := by simp; omega
    have hlen1 : (([] : List Int) ++ ys).length < 1048576 := by simp; omega
    by_cases hck : c = n
    · subst hck
      replace hy := hy (some ad)
      go_enter Tryz.func11, Tryz.ntmps11
      go_wp2_with (first | (at_builtin; refine wpl_appB rfl (.tmp 11) (.tmp 14) rfl w.heap.size _ [] ys (some ad) (0) (0) rfl rfl ho hm hb hy hbs hlen ?_; intro v1 w1 ho1 ht1 h41; have kk := hka.turn ht1 (fun i e => (ho.lt i e).1); have hbs1 := kk.le) | (at_builtin; refine wpl_appB1 rfl (.tmp 15) (.tmp 18) rfl w.heap.size _ ([] ++ ys) _ rfl rfl ho1 (wrap_u8_bd _) hbs1 hlen1 ?_; intro v2 w2 ho2 ht2; have k2 := kk.turn ht2 (fun i e => (ho1.lt i e).1); obtain ⟨A2, c2, hv2, hb2⟩ := ho2.bytes (by simp; omega); have hcl := ho2.cap hv2; subst hv2) | fail)
      go_ret
      exact ⟨_, _, _, rfl, ⟨by simpa [hm] using hb2, by simpa [hm] using hcl, by omega⟩, k2⟩
    · have hck2 : ((c : Int) == (n : Int)) = false := by simp; omega
      replace hy := hy (some (ad.add n))
      go_enter Tryz.func11, Tryz.ntmps11
      go_wp2_with (first | (at_builtin; refine wpl_appB rfl (.tmp 11) (.tmp 14) rfl w.heap.size _ [] ys (some (ad.add n)) (0) (c - n) rfl rfl ho hm hb hy hbs hlen ?_; intro v1 w1 ho1 ht1 h41; have kk := hka.turn ht1 (fun i e => (ho.lt i e).1); have hbs1 := kk.le) | (at_builtin; refine wpl_appB1 rfl (.tmp 15) (.tmp 18) rfl w.heap.size _ ([] ++ ys) _ rfl rfl ho1 (wrap_u8_bd _) hbs1 hlen1 ?_; intro v2 w2 ho2 ht2; have k2 := kk.turn ht2 (fun i e => (ho1.lt i e).1); obtain ⟨A2, c2, hv2, hb2⟩ := ho2.bytes (by simp; omega); have hcl := ho2.cap hv2; subst hv2) | fail)
      go_ret
      exact ⟨_, _, _, rfl, ⟨by simpa [hm] using hb2, by simpa [hm] using hcl, by omega⟩, k2⟩
/-- A part of the bytes and one more, for any k. -/
theorem vCut_all (A : Option Addr) (n c k : Nat) (w : World) (hA : BytesAt w A n) (hn : n ≤ 65536) (hc : n ≤ c) :
    Calls Tryz.prog 11 #[.slice A n c, .int .i64 k] w fun e w' => ∃ A' n' c', e = .returned (.slice A' n' c') ∧ (BytesAt w' A' n' ∧ n' ≤ c' ∧ n' ≤ 65537) ∧ Kp w w' := by
  by_cases hk : k ≤ n
  · exact vCut_any A n c k w hA hn hc hk
  · exact vCut_over A n c k w hA hn hc (by omega)
end Go.Proofs.YtpiijhfjliolfaaGreat

namespace Go.Proofs.YtpiijhfjliolfaaGreat
open Go.RowKit Go.Sort

/-- Which of two lists comes first, number by number. -/
def lexC : List Int → List Int → Int
  | [], [] => 0
  | [], _ :: _ => -1
  | _ :: _, [] => 1
  | x :: xs, y :: ys => if x < y then -1 else if y < x then 1 else lexC xs ys
theorem lexC_anti : ∀ a b : List Int, lexC b a = - lexC a b
  | [], [] => rfl
  | [], _ :: _ => rfl
  | _ :: _, [] => rfl
  | x :: xs, y :: ys => by
    unfold lexC
    have ih := lexC_anti xs ys
    by_cases h1 : x < y
    · simp [h1, show ¬ y < x by omega]
    · by_cases h2 : y < x
      · simp [h1, h2]
      · simp [h1, h2]; exact ih
theorem lexC_zero : ∀ a b : List Int, lexC a b = 0 → a = b
  | [], [], _ => rfl
  | [], _ :: _, h => by simp [lexC] at h
  | _ :: _, [], h => by simp [lexC] at h
  | x :: xs, y :: ys, h => by
    unfold lexC at h
    by_cases h1 : x < y
    · rw [if_pos h1] at h; omega
    · by_cases h2 : y < x
      · rw [if_neg h1, if_pos h2] at h; omega
      · rw [if_neg h1, if_neg h2] at h
        rw [lexC_zero xs ys h, show x = y by omega]
theorem lexC_trans : ∀ a b c : List Int, lexC a b < 0 → lexC b c < 0 → lexC a c < 0
  | [], [], _, h, _ => by simp [lexC] at h
  | [], _ :: _, [], _, h => by simp [lexC] at h
  | [], _ :: _, _ :: _, _, _ => by simp [lexC]
  | _ :: _, [], _, h, _ => by simp [lexC] at h
  | _ :: _, _ :: _, [], _, h => by simp [lexC] at h
  | x :: xs, y :: ys, z :: zs, h, h' => by
    unfold lexC at h h' ⊢
    have ih := lexC_trans xs ys zs
    by_cases h1 : x < y
    · by_cases h2 : z < y
      · rw [if_neg (by omega), if_pos h2] at h'; omega
      · rw [if_pos (by omega)]; omega
    · by_cases h2 : y < x
      · rw [if_neg h1, if_pos h2] at h; omega
      · rw [if_neg h1, if_neg h2] at h
        have e : x = y := by omega
        subst e
        by_cases h3 : x < z
        · rw [if_pos h3]; omega
        · by_cases h4 : z < x
          · rw [if_neg h3, if_pos h4] at h'; omega
          · rw [if_neg h3, if_neg h4] at h' ⊢
            exact ih h h'
/-- First by how many there are, then number by number. -/
def cmpS (a b : List Int) : Int := if a.length < b.length then -1 else if b.length < a.length then 1 else lexC a b
def befB (a b : List Int) : Bool := decide (cmpS a b < 0)
theorem cmpS_anti (a b : List Int) : cmpS b a = - cmpS a b := by
  unfold cmpS
  by_cases h1 : a.length < b.length
  · simp [h1, show ¬ b.length < a.length by omega]
  · by_cases h2 : b.length < a.length
    · simp [h1, h2]
    · simp [h1, h2]; exact lexC_anti a b
theorem cmpS_zero {a b : List Int} (h : cmpS a b = 0) : a = b := by
  unfold cmpS at h
  by_cases h1 : a.length < b.length
  · rw [if_pos h1] at h; omega
  · by_cases h2 : b.length < a.length
    · rw [if_neg h1, if_pos h2] at h; omega
    · rw [if_neg h1, if_neg h2] at h; exact lexC_zero a b h
theorem cmpS_trans {a b c : List Int} (h : cmpS a b < 0) (h' : cmpS b c < 0) : cmpS a c < 0 := by
  unfold cmpS at *
  by_cases h1 : a.length < c.length
  · rw [if_pos h1]; omega
  · have hb : ¬ b.length < a.length := fun hh => by rw [if_neg (by omega), if_pos hh] at h; omega
    have hc : ¬ c.length < b.length := fun hh => by rw [if_neg (by omega), if_pos hh] at h'; omega
    rw [if_neg (by omega), if_neg hb] at h
    rw [if_neg (by omega), if_neg hc] at h'
    rw [if_neg h1, if_neg (by omega)]
    exact lexC_trans a b c h h'
theorem befB_irrefl (a : List Int) : befB a a = false := by
  have := cmpS_anti a a
  simp [befB]; omega
theorem befB_trans {a b c : List Int} (h : befB a b = true) (h' : befB b c = true) : befB a c = true := by
  simp only [befB, decide_eq_true_eq] at *; exact cmpS_trans h h'
theorem befB_total {a b : List Int} (h : befB a b = false) (h' : befB b a = false) : a = b := by
  simp only [befB, decide_eq_false_iff_not] at *
  have := cmpS_anti a b
  exact cmpS_zero (by omega)
theorem befB_asymm {a b : List Int} (h : befB a b = true) : befB b a = false := by
  cases h' : befB b a with
  | false => rfl
  | true => have := befB_trans h h'; rw [befB_irrefl] at this; cases this
/-- What is not behind. -/
def notB (a b : List Int) : Bool := !befB b a
theorem notB_trans (a b c : List Int) (h : notB a b = true) (h' : notB b c = true) : notB a c = true := by
  simp only [notB, Bool.not_eq_true'] at *
  by_cases e1 : a = b
  · subst e1; exact h'
  by_cases e2 : b = c
  · subst e2; exact h
  have g1 : befB a b = true := by
    cases hh : befB a b with
    | true => rfl
    | false => exact absurd (befB_total hh h) e1
  have g2 : befB b c = true := by
    cases hh : befB b c with
    | true => rfl
    | false => exact absurd (befB_total hh h') e2
  exact befB_asymm (befB_trans g1 g2)
theorem notB_total (a b : List Int) : (notB a b || notB b a) = true := by
  cases h : befB b a with
  | false => simp [notB, h]
  | true => simp [notB, befB_asymm h]
/-- The codes of the sets with at least one member, in the order of codes. -/
def codesL (n : Nat) : List (List Int) := (List.range (2 ^ n - 1)).map fun c => bitsL n (c + 1)
def setsL (n : Nat) : List (List Int) := (codesL n).mergeSort notB
theorem setsL_perm (n : Nat) : (setsL n).Perm (codesL n) := List.mergeSort_perm _ _
theorem setsL_len (n : Nat) : (setsL n).length = 2 ^ n - 1 := by rw [(setsL_perm n).length_eq]; simp [codesL]
theorem bitsL_inj {n a b : Nat} (ha : a < 2 ^ n) (hb : b < 2 ^ n) (h : bitsL n a = bitsL n b) : a = b := by
  apply Nat.eq_of_testBit_eq
  intro i
  by_cases hi : i < n
  · have h1 := mem_bitsL (n := n) (b := a) (x := (i : Int))
    have h2 := mem_bitsL (n := n) (b := b) (x := (i : Int))
    rw [h] at h1
    have h3 := h1.symm.trans h2
    rw [Bool.eq_iff_iff]
    simp only [Int.toNat_natCast] at h3
    constructor
    · intro hx; exact (h3.1 ⟨by omega, by omega, hx⟩).2.2
    · intro hx; exact (h3.2 ⟨by omega, by omega, hx⟩).2.2
  · rw [Nat.testBit_lt_two_pow (Nat.lt_of_lt_of_le ha (Nat.pow_le_pow_right (by omega) (by omega))), Nat.testBit_lt_two_pow (Nat.lt_of_lt_of_le hb (Nat.pow_le_pow_right (by omega) (by omega)))]
theorem codesL_nodup (n : Nat) : (codesL n).Nodup := by
  unfold codesL List.Nodup
  rw [List.pairwise_map]
  refine (List.pairwise_iff_getElem.2 ?_)
  intro i j hi hj hij e
  have hi' : i < 2 ^ n - 1 := by simpa using hi
  have hj' : j < 2 ^ n - 1 := by simpa using hj
  simp only [List.getElem_range] at e
  have := bitsL_inj (n := n) (by omega) (by omega) e
  omega
theorem setsL_nodup (n : Nat) : (setsL n).Nodup := (setsL_perm n).nodup_iff.2 (codesL_nodup n)
theorem setsL_sorted (n : Nat) : (setsL n).Pairwise (fun a b => befB a b = true) := by
  have h1 : (setsL n).Pairwise (fun a b => notB a b = true) := List.pairwise_mergeSort notB_trans notB_total _
  have h2 := setsL_nodup n
  rw [List.pairwise_iff_getElem] at h1 ⊢
  unfold List.Nodup at h2
  rw [List.pairwise_iff_getElem] at h2
  intro i j hi hj hij
  have h3 := h1 i j hi hj hij
  have h4 := h2 i j hi hj hij
  simp only [notB, Bool.not_eq_true'] at h3
  cases hh : befB (setsL n)[i] (setsL n)[j] with
  | true => rfl
  | false => exact absurd (befB_total hh h3) h4
/-- There is one list of all sets in order. -/
theorem setsL_uniq {n : Nat} {l : List (List Int)} (hp : l.Perm (codesL n)) (hs : l.Pairwise (fun a b => befB a b = true)) : l = setsL n :=
  List.Perm.eq_of_pairwise (le := fun a b => befB a b = true) (fun a b _ _ h h' => by have := befB_asymm h; rw [h'] at this; cases this) hs (setsL_sorted n) (hp.trans (setsL_perm n).symm)
theorem mem_codesL {n : Nat} {S : List Int} : S ∈ codesL n ↔ S ≠ [] ∧ risB S 0 ((n : Int) - 1) = true := by
  constructor
  · intro h
    simp only [codesL, List.mem_map, List.mem_range] at h
    obtain ⟨c, hc, rfl⟩ := h
    refine ⟨fun e => ?_, bitsL_ris _ _ _ (Int.le_refl _)⟩
    have h0 : bitsL n 0 = [] := by simp [bitsL, bitsN]
    have := bitsL_inj (n := n) (a := c + 1) (b := 0) (by omega) (Nat.two_pow_pos n) (e.trans h0.symm)
    omega
  · rintro ⟨hne, hr⟩
    have hr' := ris_iff.1 hr
    have hm : ∀ y ∈ S, 0 ≤ y ∧ y < n := fun y hy => by have := hr'.2 y hy; omega
    have hb := bits_bag hr'.1 hm
    have hlt := bagN_lt hm
    simp only [codesL, List.mem_map, List.mem_range]
    have hpos : 0 < bagN S := by
      rcases Nat.eq_zero_or_pos (bagN S) with h | h
      · rw [h] at hb; exact absurd (by rw [← hb]; simp [bitsL, bitsN]) hne
      · exact h
    exact ⟨bagN S - 1, by omega, by rw [Nat.sub_add_cancel hpos]; exact hb⟩
theorem mem_setsL {n : Nat} {S : List Int} : S ∈ setsL n ↔ S ≠ [] ∧ risB S 0 ((n : Int) - 1) = true := (setsL_perm n).mem_iff.trans mem_codesL
theorem risB_len {n : Nat} {S : List Int} (h : risB S 0 ((n : Int) - 1) = true) : S.length ≤ n := by
  have hr' := ris_iff.1 h
  have hm : ∀ y ∈ S, 0 ≤ y ∧ y < n := fun y hy => by have := hr'.2 y hy; omega
  have := bitsL_len n (bagN S)
  rwa [bits_bag hr'.1 hm] at this
/-- The first one with the least value. -/
def bestStep (v : List Int → Int) (b s : List Int) : List Int := if v s < v b then s else b
def bestL (v : List Int → Int) (l : List (List Int)) : List Int := l.foldl (bestStep v) (l.getD 0 [])
end Go.Proofs.YtpiijhfjliolfaaGreat

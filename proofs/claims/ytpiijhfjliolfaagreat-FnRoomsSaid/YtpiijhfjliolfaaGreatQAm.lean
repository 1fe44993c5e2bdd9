/- The field with some clients alone: reference and program. No condition. -/
import Derived.Test.YtpiijhfjliolfaaGreatQAb
import Derived.Test.YtpiijhfjliolfaaGreatQAf
namespace Go.Proofs.YtpiijhfjliolfaaGreat
open Go.RowKit Go.Sort

def partF (F : Fld) (C : List Int) : Fld := ⟨F.op, C.map fun i => F.di.getD i.toNat []⟩
/-- A set of clients. -/
def crowdB (F : Fld) (C : List Int) : Bool := risB C 0 ((F.di.length : Int) - 1)
theorem crowd_mem {F : Fld} {C : List Int} (h : crowdB F C = true) : ∀ x ∈ C, 0 ≤ x ∧ x < F.di.length := fun x hx => by
  have := (ris_iff.1 h).2 x hx
  omega
theorem crowd_len {F : Fld} {C : List Int} (h : crowdB F C = true) : C.length ≤ F.di.length := by
  have hr := ris_iff.1 h
  have hm := crowd_mem h
  have := bitsL_len F.di.length (bagN C)
  rwa [bits_bag hr.1 hm] at this
theorem part_good {F : Fld} {C : List Int} (hg : goodF F = true) (hc : crowdB F C = true) : goodF (partF F C) = true := by
  have hp := goodF_iff.1 hg
  have hl := crowd_len hc
  refine goodF_iff.2 ⟨hp.1, hp.2.1, by simp [partF]; omega, fun r hr => ?_⟩
  simp only [partF, List.mem_map] at hr
  obtain ⟨i, hi, rfl⟩ := hr
  have hm := crowd_mem hc i hi
  have hk : i.toNat < F.di.length := by omega
  have e : F.di.getD i.toNat [] = F.di[i.toNat] := by simp [List.getD, hk]
  rw [e]
  exact hp.2.2.2 _ (List.getElem_mem hk)
/-- What stands in a cell. -/
def cvAt (p : Addr) (w : World) : Value := (w.cell? p).getD (.slice none 0 0)
theorem cv_of {p : Addr} {w : World} {u : Value} (h : w.cell? p = some u) : cvAt p w = u := by simp [cvAt, h]
theorem cv_is {p : Addr} {w : World} {u : Value} (h : w.cell? p = some u) : w.cell? p = some (cvAt p w) := by rw [cv_of h]; exact h
theorem run_appv {W : World} (ty : TypeId) (base : Nat) (v : Value) (n : Nat) (hs : List Value) (u : Value) (ad : Addr)
    (h1 : W.ownsRow base 24 1 v n hs) (hu : u.oneCell' = true) (hcell : W.cell? ad = some u) (hbase : base ≤ W.heap.size) (hlen : n < 1048576) :
    ∃ v' w', (Builtin.append_ #[25, 25] ty #[v, .slice (some ad) 1 1]).run Tryz.prog W = .ok v' w' ∧ w'.ownsRow base 24 1 v' (n + 1) (hs ++ [u]) ∧ W.grownBy w' v.ownBlock ∧ (v'.ownBlock = v.ownBlock ∨ ∀ g, v'.ownBlock = some g → W.heap.size ≤ g) ∧ v'.oneCell' = true := by
  obtain ⟨i0, hi, hz0, hz1, hz2⟩ := info_parts infoIntsG
  obtain ⟨v', w', hrun, g2, g3, _, g5⟩ := run_append_own_at (P := Tryz.prog) W base 25 ty 24 i0 (.slice none 0 0) 1 24 Tryz.underlying25 hi hz0 hz1 hz2 rfl (by decide) v n hs h1 ad 1 1 [u] rfl (by
      intro j u2 hj
      cases j with
      | zero =>
        have e : u = u2 := by simpa using hj
        have e2 : ad.add 0 = ad := by unfold Addr.add; simp
        rw [e2, ← e]; exact hcell
      | succ j => simp at hj) (by
      intro u2 hu2
      have e : u2 = u := by simpa using hu2
      rw [e]; exact hu) (by unfold maxLen; omega) (by omega) hbase
  refine ⟨v', w', hrun, g2, g3, ?_, ?_⟩
  · rcases g5 with e | e
    · exact .inl e
    · exact .inr (fun g hg => by rw [e] at hg; simp at hg; omega)
  · rcases g2.2 with ⟨rfl, _⟩ | ⟨g, cap, cur, rfl, _⟩ <;> rfl
theorem step_appv {ops : Array Oper} {o : Oper} {a : Act} {K : Act → World → Prop} {Q : Exit → Act → World → Prop} {E : Prop} {W : World} (hgd : o.guard = none) (s x : Operand)
    (ho : o.op = .call { callee := .builtin .append, args := #[s, x], argTypes := #[25, 25] }) (base : Nat) (v : Value) (n : Nat) (hs : List Value) (u : Value) (ad : Addr)
    (hsv : a.eval s = v) (hx : a.eval x = .slice (some ad) 1 1) (h1 : W.ownsRow base 24 1 v n hs) (hu : u.oneCell' = true) (hcell : W.cell? ad = some u) (hbase : base ≤ W.heap.size) (hlen : n < 1048576)
    (h : ∀ g' c' w', w'.ownsRow base 24 1 (.slice (some ⟨g', 0, none⟩) (n + 1) c') (n + 1) (hs ++ [u]) → Turn (fun i => v.ownBlock = some i) W w' → (v.ownBlock = some g' ∨ W.heap.size ≤ g') → K (a.put o.dst (.slice (some ⟨g', 0, none⟩) (n + 1) c')) w') :
    if Region.wanted o (yielded ops a.tmps) = true then Oper.wp Tryz.prog o a W K Q else E := by
  have hw : Region.wanted o (yielded ops a.tmps) = true := by simp [Region.wanted, hgd]
  rw [if_pos hw]
  obtain ⟨v', w', hrun, h2, h3, h4, _⟩ := run_appv (W := W) o.type base v n hs u ad h1 hu hcell hbase hlen
  unfold Oper.wp execOp
  simp only [ho, resolve, invoke, builtin, Sem.run_bind, Sem.run_pure, Result.andThen_ok, List.map_toArray, List.map_cons, List.map_nil, hsv, hx, hrun]
  rcases id h2.2 with ⟨_, e0⟩ | ⟨g, cap, cur, rfl, _⟩
  · omega
  · refine h g cap w' h2 (Turn.of_grown h3) ?_
    rcases h4 with e | e
    · exact .inl e.symm
    · exact .inr (e g rfl)
theorem wpl_appv {ops : Array Oper} {rest : List Oper} {o : Oper} {a : Act} {Q : Exit → Act → World → Prop} {W : World} (hgd : o.guard = none) (s x : Operand)
    (ho : o.op = .call { callee := .builtin .append, args := #[s, x], argTypes := #[25, 25] }) (base : Nat) (v : Value) (n : Nat) (hs : List Value) (u : Value)
    (hsv : a.eval s = v) (hx : a.eval x = .slice (some ⟨W.heap.size, 0, none⟩) 1 1) (h1 : W.ownsRow base 24 1 v n hs) (hu : u.oneCell' = true) (hbase : base ≤ W.heap.size) (hlen : n < 1048576)
    (h : ∀ g' c' w', w'.ownsRow base 24 1 (.slice (some ⟨g', 0, none⟩) (n + 1) c') (n + 1) (hs ++ [u]) → Turn (fun i => v.ownBlock = some i) W w' → (v.ownBlock = some g' ∨ W.heap.size ≤ g') → wpList Tryz.prog ops Q rest (a.put o.dst (.slice (some ⟨g', 0, none⟩) (n + 1) c')) w') :
    wpList Tryz.prog ops Q (o :: rest) a (W.alloc (.cells #[u] 24)) := by
  have hk : Kp W (W.alloc (.cells #[u] 24)) := (Kp.refl W).alloc _
  obtain ⟨v', w', hrun, h2, h3, h4, _⟩ := run_appv (W := W.alloc (.cells #[u] 24)) o.type base v n hs u ⟨W.heap.size, 0, none⟩ (hk.own h1) hu (by rw [World.cell?_alloc_at _ _ _ _ rfl]; rfl) (by simp; omega) hlen
  refine Lib.wpList_append_run _ hgd s x _ _ ho _ _ hsv hx v' w' hrun ?_
  rcases id h2.2 with ⟨_, e0⟩ | ⟨g, cap, cur, rfl, _⟩
  · omega
  · refine h g cap w' h2 ((Turn.of_kp hk).trans (Turn.of_grown h3)) ?_
    rcases h4 with e | e
    · exact .inl e.symm
    · exact .inr (by have := e g rfl; simp at this; omega)
/-- The headers of the rows of the clients, as they stand in the field. -/
def hdrs (w : World) (bd : Addr) (C : List Int) (k : Nat) : List Value := (C.take k).map fun i => cvAt (bd.add i.toNat) w
theorem hdrs_succ {w : World} {bd : Addr} {C : List Int} {k : Nat} (hk : k < C.length) : hdrs w bd C (k + 1) = hdrs w bd C k ++ [cvAt (bd.add (C[k]).toNat) w] := by
  unfold hdrs
  rw [List.take_succ_eq_append_getElem hk, List.map_append]; rfl
theorem hdrs_len (w : World) (bd : Addr) (C : List Int) (k : Nat) (hk : k ≤ C.length) : (hdrs w bd C k).length = k := by
  unfold hdrs; rw [List.length_map, List.length_take]; omega
/-- Behind the loop the headers are the new field's rows. -/
theorem hdrs_grid {w0 w : World} {bd : Addr} {F : Fld} {C : List Int} {base : Nat} {v : Value} (hB : C ≠ [] → GridAt w0 (some bd) F.di) (hk : Kp w0 w) (hc : ∀ x ∈ C, 0 ≤ x ∧ x < F.di.length) (hl : C.length ≤ 7) (h : w.ownsRow base 24 1 v C.length (hdrs w0 bd C C.length)) :
    ∃ A c, v = .slice A (partF F C).di.length c ∧ GridAt w A (partF F C).di := by
  have hlen : (partF F C).di.length = C.length := by simp [partF]
  rcases id h.2 with ⟨rfl, h0⟩ | ⟨g, cap, cur, rfl, _⟩
  · exact ⟨none, 0, by rw [hlen, h0], by rw [hlen]; omega, fun k hk => by rw [hlen, h0] at hk; omega⟩
  · refine ⟨_, cap, by rw [hlen], by rw [hlen]; omega, fun k hk2 => ?_⟩
    rw [hlen] at hk2
    have hm := hc _ (List.getElem_mem hk2)
    have hi : (C[k]).toNat < F.di.length := by omega
    obtain ⟨A, c, e1, e2⟩ := (hB (fun e => by subst e; simp at hk2)).some_ hi
    have e3 : (partF F C).di.getD k [] = F.di[(C[k]).toNat] := by simp [partF, List.getD, hk2, hi]
    have e4 : (hdrs w0 bd C C.length)[k]? = some (.slice A F.di[(C[k]).toNat].length c) := by
      unfold hdrs
      simp [hk2, cv_of e1]
    rw [e3]
    exact ⟨_, A, c, rfl, World.ownsRow.cells h (g := g) rfl k _ e4, e2.kp hk⟩
end Go.Proofs.YtpiijhfjliolfaaGreat

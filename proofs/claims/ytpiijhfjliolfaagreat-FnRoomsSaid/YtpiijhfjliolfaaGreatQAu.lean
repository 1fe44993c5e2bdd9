/- The reference's net at the start. No condition. -/
import Derived.Test.YtpiijhfjliolfaaGreatQAs
import Derived.Test.YtpiijhfjliolfaaGreatQAt
namespace Go.Proofs.YtpiijhfjliolfaaGreat
open Go.RowKit Go.Sort

theorem infoBoolsG : (Tryz.prog.info? 112).map (fun i => (i.zero, i.size, i.bytes)) = some (some (.slice none 0 0), 1, 24) := by kernel_rfl
theorem infoBool : (Tryz.prog.info? 4).map (fun i => (i.zero, i.size, i.bytes)) = some (some (.bool false), 1, 1) := by kernel_rfl
theorem run_appvB {W : World} (ty : TypeId) (base : Nat) (v : Value) (n : Nat) (hs : List Value) (u : Value) (ad : Addr)
    (h1 : W.ownsRow base 112 1 v n hs) (hu : u.oneCell' = true) (hcell : W.cell? ad = some u) (hbase : base ≤ W.heap.size) (hlen : n < 1048576) :
    ∃ v' w', (Builtin.append_ #[88, 88] ty #[v, .slice (some ad) 1 1]).run Tryz.prog W = .ok v' w' ∧ w'.ownsRow base 112 1 v' (n + 1) (hs ++ [u]) ∧ W.grownBy w' v.ownBlock ∧ (v'.ownBlock = v.ownBlock ∨ ∀ g, v'.ownBlock = some g → W.heap.size ≤ g) ∧ v'.oneCell' = true := by
  obtain ⟨i0, hi, hz0, hz1, hz2⟩ := info_parts infoBoolsG
  obtain ⟨v', w', hrun, g2, g3, _, g5⟩ := run_append_own_at (P := Tryz.prog) W base 88 ty 112 i0 (.slice none 0 0) 1 24 Tryz.underlying88 hi hz0 hz1 hz2 rfl (by decide) v n hs h1 ad 1 1 [u] rfl (by
      intro j u2 hj
      cases j with
      | zero =>
        have e : u = u2 := by simpa using hj
        have e2 : ad.add 0 = ad := by unfold Addr.add; simp
        rw [e2, ← e]; exact hcell
      | succ j => simp at hj) (by
      intro u2 hu2
      have e : u2 = u := by simpa using hu2
      rw [e]; exact hu) (by unfold maxLen; omega) (by omega) hbase
  refine ⟨v', w', hrun, g2, g3, ?_, ?_⟩
  · rcases g5 with e | e
    · exact .inl e
    · exact .inr (fun g hg => by rw [e] at hg; simp at hg; omega)
  · rcases g2.2 with ⟨rfl, _⟩ | ⟨g, cap, cur, rfl, _⟩ <;> rfl
theorem wpl_appvB {ops : Array Oper} {rest : List Oper} {o : Oper} {a : Act} {Q : Exit → Act → World → Prop} {W : World} (hgd : o.guard = none) (s x : Operand)
    (ho : o.op = .call { callee := .builtin .append, args := #[s, x], argTypes := #[88, 88] }) (base : Nat) (v : Value) (n : Nat) (hs : List Value) (u : Value)
    (hsv : a.eval s = v) (hx : a.eval x = .slice (some ⟨W.heap.size, 0, none⟩) 1 1) (h1 : W.ownsRow base 112 1 v n hs) (hu : u.oneCell' = true) (hbase : base ≤ W.heap.size) (hlen : n < 1048576)
    (h : ∀ g' c' w', w'.ownsRow base 112 1 (.slice (some ⟨g', 0, none⟩) (n + 1) c') (n + 1) (hs ++ [u]) → Turn (fun i => v.ownBlock = some i) W w' → (v.ownBlock = some g' ∨ W.heap.size ≤ g') → wpList Tryz.prog ops Q rest (a.put o.dst (.slice (some ⟨g', 0, none⟩) (n + 1) c')) w') :
    wpList Tryz.prog ops Q (o :: rest) a (W.alloc (.cells #[u] 112)) := by
  have hk : Kp W (W.alloc (.cells #[u] 112)) := (Kp.refl W).alloc _
  obtain ⟨v', w', hrun, h2, h3, h4, _⟩ := run_appvB (W := W.alloc (.cells #[u] 112)) o.type base v n hs u ⟨W.heap.size, 0, none⟩ (hk.own h1) hu (by rw [World.cell?_alloc_at _ _ _ _ rfl]; rfl) (by simp; omega) hlen
  refine Lib.wpList_append_run _ hgd s x _ _ ho _ _ hsv hx v' w' hrun ?_
  rcases id h2.2 with ⟨_, e0⟩ | ⟨g, cap, cur, rfl, _⟩
  · omega
  · refine h g cap w' h2 ((Turn.of_kp hk).trans (Turn.of_grown h3)) ?_
    rcases h4 with e | e
    · exact .inl e.symm
    · exact .inr (by have := e g rfl; simp at this; omega)

set_option maxHeartbeats 400000 in
theorem l1Own_none (c : Nat) (w : World) :
    Calls Tryz.prog 44 #[.slice none 0 c] w fun e w' => ∃ v, e = .returned v ∧ Own w' w.heap.size v [] ∧ Kp w w' := by
  have ho0 := own_new0 w w.heap.size (Nat.le_refl _)
  have hk0 := (Kp.refl w).alloc (.cells #[] 3)
  go_enter Tryz.func44, Tryz.ntmps44
  go_wp2_with fail
  go_ret
  exact ⟨_, rfl, by simpa using ho0, hk0⟩
theorem l1Own_all (A : Option Addr) (xs : List Int) (n c : Nat) (w : World) (hx : IntsAt w A xs) (hn : xs.length = n) (hb : n ≤ 1048576) :
    Calls Tryz.prog 44 #[.slice A n c] w fun e w' => ∃ A' c', e = .returned (.slice A' n c') ∧ Own w' w.heap.size (.slice A' n c') xs ∧ Kp w w' := by
  suffices h : Calls Tryz.prog 44 #[.slice A n c] w (fun e w' => ∃ v, e = .returned v ∧ Own w' w.heap.size v xs ∧ Kp w w') by
    refine h.mono ?_
    rintro e w' ⟨v, rfl, ho, hk⟩
    obtain ⟨A', c', rfl⟩ := ho.shape
    rw [hn] at ho ⊢
    exact ⟨A', c', rfl, ho, hk⟩
  cases A with
  | some ad => exact l1Own_any ad xs n c w hx hn hb
  | none =>
    have : xs = [] := by
      cases xs with
      | nil => rfl
      | cons x r =>
        obtain ⟨ad, e, _⟩ := hx.at_ (k := 0) (by simp)
        cases e
    subst this
    subst hn
    exact l1Own_none c w
theorem kp_cells {w w' : World} (h : Kp w w') : ∀ p : Addr, p.block < w.heap.size → w'.cell? p = w.cell? p := fun _ hp => h.cell hp
theorem kp_frozs {w w' : World} (h : Kp w w') : ∀ p : Addr, p.block < w.heap.size → w'.frozen? p = w.frozen? p := fun _ hp => Below.frozen h hp
theorem kp_cellsA {w w' : World} (h : Kp w w') : ∀ (o : Obj) (p : Addr), p.block < w.heap.size → (w'.alloc o).cell? p = w.cell? p := fun o _ hp => (h.alloc o).cell hp
theorem kp_frozsA {w w' : World} (h : Kp w w') : ∀ (o : Obj) (p : Addr), p.block < w.heap.size → (w'.alloc o).frozen? p = w.frozen? p := fun o _ hp => Below.frozen (h.alloc o) hp
def startR (S rooms : List Int) (a : Nat) : Int := if flHas S a = true then lget rooms a else 0
def startM (F : Fld) (S : List Int) (r : Int) (j a : Nat) : Bool := flHas S a && decide (dF F j a ≤ r)
theorem owns_mono {w : World} {base base' : Nat} {e : TypeId} {v : Value} {n : Nat} {xs : List Value} (h : w.ownsRow base e 1 v n xs) (hb : base' ≤ base) : w.ownsRow base' e 1 v n xs := by
  refine ⟨h.1, ?_⟩
  rcases h.2 with hh | ⟨g, cap, cur, e, hg, rest⟩
  · exact .inl hh
  · exact .inr ⟨g, cap, cur, e, Nat.le_trans hb hg, rest⟩
theorem owns_of_row {w : World} {base g n : Nat} {e : TypeId} {f : Nat → Value} (h : w.rowIs g e n f) (hb : base ≤ g) (hl : n ≤ 1048576) : w.ownsRow base e 1 (.slice (some ⟨g, 0, none⟩) n n) n ((List.range n).map f) := by
  obtain ⟨c, hg, hs, hc⟩ := h
  refine ⟨by simp, .inr ⟨g, _, c, rfl, hb, hg, Nat.le_refl _, by unfold maxLen; omega, by rw [hs]; simp, ?_⟩⟩
  rw [List.take_of_length_le (by simp [hs])]
  apply List.ext_getElem?
  intro i
  by_cases hi : i < n
  · have := hc i hi
    rw [Array.getElem?_toList, this]
    simp [hi]
  · rw [List.getElem?_eq_none (by simp [hs]; omega), List.getElem?_eq_none (by simp; omega)]
def hdrL (k M : Nat) (B C : Nat → Nat) : List Value := (List.range k).map fun j => Value.slice (some ⟨B j, 0, none⟩) M (C j)
theorem hdrL_len (k M : Nat) (B C : Nat → Nat) : (hdrL k M B C).length = k := by simp [hdrL]
theorem hdrL_add (k M b : Nat) (B C : Nat → Nat) : hdrL k M B C ++ [Value.slice (some ⟨b, 0, none⟩) M M] = hdrL (k + 1) M (upd B k b) (upd C k M) := by
  unfold hdrL
  rw [List.range_succ, List.map_append]
  congr 1
  · apply List.map_congr_left
    intro j hj
    have : j < k := List.mem_range.1 hj
    rw [upd_ne (by omega), upd_ne (by omega)]
  · simp [upd_at]
structure StT (wc wr : World) (J M bp gr cn : Nat) (nA : Option Addr) (needs : List Int) (R : Nat → Int) (p : Nat → Nat → Bool) (kf km : Nat) (fv mv : Value) (Bk Ck Bm Cm : Nat → Nat) : Prop where
  nd : Own wr wc.heap.size (.slice nA J cn) needs
  rm : Own wr wc.heap.size (.slice (some ⟨gr, 0, none⟩) M M) (mapTo R M)
  rg : wr.rangeAt bp 0 [.slice nA J cn, .slice (some ⟨gr, 0, none⟩) M M, fv, mv]
  th : wr.there bp 0 4
  fh : wr.ownsRow wc.heap.size 24 1 fv kf (hdrL kf M Bk Ck)
  fr : ∀ j, j < kf → Own wr wc.heap.size (.slice (some ⟨Bk j, 0, none⟩) M (Ck j)) (mapTo (fun _ => 0) M)
  mh : wr.ownsRow wc.heap.size 112 1 mv km (hdrL km M Bm Cm)
  mr : ∀ j, j < km → wr.ownsRow wc.heap.size 4 1 (.slice (some ⟨Bm j, 0, none⟩) M (Cm j)) M (boolRow M (p j))
  ap : ∀ i j, i < kf → j < kf → i ≠ j → Bk i ≠ Bk j
  a1 : ∀ j, j < kf → Bk j ≠ gr ∧ Bk j ≠ bp ∧ ∀ b, (Value.slice nA J cn).ownBlock = some b → Bk j ≠ b
  a4 : ∀ j, j < km → Bm j ≠ bp
  a2 : ∀ b, fv.ownBlock = some b → b ≠ bp
  a3 : ∀ b, mv.ownBlock = some b → b ≠ bp
  lo : wc.heap.size ≤ bp
  ne : bp ≠ gr
  na : ∀ k, (Value.slice nA J cn).ownBlock = some k → k ≠ gr ∧ k ≠ bp
  kp : Kp wc wr
  am : ∀ i j, i < km → j < km → i ≠ j → Bm i ≠ Bm j
section
variable {wc wr : World} {J M bp gr cn : Nat} {nA : Option Addr} {needs : List Int} {R : Nat → Int} {p : Nat → Nat → Bool} {kf km : Nat} {fv mv : Value} {Bk Ck Bm Cm : Nat → Nat}
theorem StT.go (h : StT wc wr J M bp gr cn nA needs R p kf km fv mv Bk Ck Bm Cm) {w' : World} (hk : Kp wr w') : StT wc w' J M bp gr cn nA needs R p kf km fv mv Bk Ck Bm Cm :=
  ⟨h.nd.kp hk, h.rm.kp hk, range_kp h.rg hk, there_kp h.th hk, hk.own h.fh, fun j hj => (h.fr j hj).kp hk, hk.own h.mh, fun j hj => hk.own (h.mr j hj), h.ap, h.a1, h.a4, h.a2, h.a3, h.lo, h.ne, h.na, h.kp.trans hk, h.am⟩
theorem StT.blt (h : StT wc wr J M bp gr cn nA needs R p kf km fv mv Bk Ck Bm Cm) : bp < wr.heap.size := World.block_lt_of_cell? _ _ (h.rg 0 _ rfl)
theorem StT.fld (h : StT wc wr J M bp gr cn nA needs R p kf km fv mv Bk Ck Bm Cm) : wr.cell? ⟨bp, 2, none⟩ = some fv ∧ wr.cell? ⟨bp, 3, none⟩ = some mv := ⟨h.rg 2 _ rfl, h.rg 3 _ rfl⟩
theorem StT.addF (h : StT wc wr J M bp gr cn nA needs R p kf km fv mv Bk Ck Bm Cm) {w1 w' : World} (hk1 : Kp wr w1) {bf g' c' : Nat} (hbf : wr.heap.size ≤ bf) (hbo : Own w1 wc.heap.size (.slice (some ⟨bf, 0, none⟩) M M) (List.replicate M 0))
    (ho : w'.ownsRow wc.heap.size 24 1 (.slice (some ⟨g', 0, none⟩) (kf + 1) c') (kf + 1) (hdrL kf M Bk Ck ++ [Value.slice (some ⟨bf, 0, none⟩) M M])) (ht : Turn (fun i => fv.ownBlock = some i) w1 w') (hg : fv.ownBlock = some g' ∨ w1.heap.size ≤ g') :
    w'.cell? ⟨bp, 2, none⟩ = some fv ∧ w'.frozen? ⟨bp, 2, none⟩ = false ∧ StT wc (w'.setCell ⟨bp, 2, none⟩ (.slice (some ⟨g', 0, none⟩) (kf + 1) c')) J M bp gr cn nA needs R p (kf + 1) km (.slice (some ⟨g', 0, none⟩) (kf + 1) c') mv (upd Bk kf bf) (upd Ck kf M) Bm Cm := by
  have hb := h.blt
  have hs1 := hk1.le
  have hbp : ¬ fv.ownBlock = some bp := fun e => h.a2 bp e rfl
  have hrg := ht.range (range_kp h.rg hk1) hbp
  have hth := ht.there (there_kp h.th hk1) hbp
  have T2 := turn_cell w' ⟨bp, 2, none⟩ (.slice (some ⟨g', 0, none⟩) (kf + 1) c')
  have thru : ∀ {e : TypeId} {v : Value} {n : Nat} {xs : List Value}, w1.ownsRow wc.heap.size e 1 v n xs → 24 ≠ e → (∀ b, v.ownBlock = some b → b ≠ bp) → (w'.setCell ⟨bp, 2, none⟩ (.slice (some ⟨g', 0, none⟩) (kf + 1) c')).ownsRow wc.heap.size e 1 v n xs := fun h1 h2 h3 =>
    own_turn (own_turn h1 ht (fun b hb e => own_blocks_ne (hk1.own h.fh) h1 h2 e hb)) T2 (fun b hb e => h3 b hb e)
  have hgp : g' ≠ bp := by
    rcases hg with e | e
    · exact h.a2 g' e
    · omega
  refine ⟨hrg 2 _ rfl, (hth 2 (by omega)).2, ⟨thru (h.nd.kp hk1) (by decide) (fun b hb => (h.na b hb).2), thru (h.rm.kp hk1) (by decide) (fun b hb e => h.ne (by have := slb hb; omega)), ?_, fun j hj => ?_, ?_, ?_, thru (hk1.own h.mh) (by decide) h.a3, fun j hj => thru (hk1.own (h.mr j hj)) (by decide) (fun b hb e => h.a4 j hj (by have := slb hb; omega)), ?_, ?_, h.a4, ?_, h.a3, h.lo, h.ne, h.na, ?_, h.am⟩⟩
  · intro j v hv
    match j, hv with
    | 0, hv => rw [World.cell?_setCell_other _ _ _ _ (by simp)]; exact hrg 0 v hv
    | 1, hv => rw [World.cell?_setCell_other _ _ _ _ (by simp)]; exact hrg 1 v hv
    | 2, hv =>
      have e : Value.slice (some ⟨g', 0, none⟩) (kf + 1) c' = v := by simpa using hv
      rw [← e]; exact World.cell?_setCell_same _ _ _ (hrg 2 _ rfl)
    | 3, hv => rw [World.cell?_setCell_other _ _ _ _ (by simp)]; exact hrg 3 v hv
    | j + 4, hv => simp at hv
  · exact World.there_setCells hth bp 2 [.slice (some ⟨g', 0, none⟩) (kf + 1) c'] j hj
  · rw [← hdrL_add]
    exact own_turn ho T2 (fun b hb e => hgp (by have := slb hb; have e2 : b = bp := e; omega))
  · intro j hj
    by_cases e : j = kf
    · subst e
      rw [upd_at, upd_at]
      have hz : mapTo (fun _ => (0 : Int)) M = List.replicate M 0 := by
        apply List.ext_getElem
        · simp [mapTo]
        · intro i h1 h2; simp [mapTo]
      rw [hz]
      exact thru hbo (by decide) (fun b hb e => by have := slb hb; omega)
    · rw [upd_ne e, upd_ne e]
      exact thru ((h.fr j (by omega)).kp hk1) (by decide) (fun b hb e2 => (h.a1 j (by omega)).2.1 (by have := slb hb; omega))
  · intro i j hi hj hne
    have hl : ∀ i, i < kf → Bk i < wr.heap.size := fun i hi => ((h.fr i hi).lt (Bk i) rfl).2
    by_cases e1 : i = kf
    · subst e1
      rw [upd_at, upd_ne (Ne.symm hne)]
      have := hl j (by omega); omega
    · rw [upd_ne e1]
      by_cases e2 : j = kf
      · subst e2; rw [upd_at]; have := hl i (by omega); omega
      · rw [upd_ne e2]; exact h.ap i j (by omega) (by omega) hne
  · intro j hj
    by_cases e : j = kf
    · subst e
      rw [upd_at]
      exact ⟨by have := (h.rm.lt gr rfl).2; omega, by omega, fun b hb => by have := (h.nd.lt b hb).2; omega⟩
    · rw [upd_ne e]; exact h.a1 j (by omega)
  · intro b hb e; exact hgp (by have := slb hb; omega)
  · refine ((h.kp.trans hk1).turn ht (fun i e => (World.ownsRow.lt h.fh i e).1)).turn T2 (fun i e => ?_)
    have : i = bp := e
    have := h.lo; omega
theorem StT.addM (h : StT wc wr J M bp gr cn nA needs R p kf km fv mv Bk Ck Bm Cm) {w1 w' : World} (hk1 : Kp wr w1) {bf g' c' : Nat} (hbf : bf ≠ bp) (hbm : ∀ j, j < km → Bm j ≠ bf) (hbo : w1.ownsRow wc.heap.size 4 1 (.slice (some ⟨bf, 0, none⟩) M M) M (boolRow M (p km)))
    (ho : w'.ownsRow wc.heap.size 112 1 (.slice (some ⟨g', 0, none⟩) (km + 1) c') (km + 1) (hdrL km M Bm Cm ++ [Value.slice (some ⟨bf, 0, none⟩) M M])) (ht : Turn (fun i => mv.ownBlock = some i) w1 w') (hg : mv.ownBlock = some g' ∨ w1.heap.size ≤ g') :
    w'.cell? ⟨bp, 3, none⟩ = some mv ∧ w'.frozen? ⟨bp, 3, none⟩ = false ∧ StT wc (w'.setCell ⟨bp, 3, none⟩ (.slice (some ⟨g', 0, none⟩) (km + 1) c')) J M bp gr cn nA needs R p kf (km + 1) fv (.slice (some ⟨g', 0, none⟩) (km + 1) c') Bk Ck (upd Bm km bf) (upd Cm km M) := by
  have hb := h.blt
  have hs1 := hk1.le
  have hbp : ¬ mv.ownBlock = some bp := fun e => h.a3 bp e rfl
  have hrg := ht.range (range_kp h.rg hk1) hbp
  have hth := ht.there (there_kp h.th hk1) hbp
  have T2 := turn_cell w' ⟨bp, 3, none⟩ (.slice (some ⟨g', 0, none⟩) (km + 1) c')
  have thru : ∀ {e : TypeId} {v : Value} {n : Nat} {xs : List Value}, w1.ownsRow wc.heap.size e 1 v n xs → 112 ≠ e → (∀ b, v.ownBlock = some b → b ≠ bp) → (w'.setCell ⟨bp, 3, none⟩ (.slice (some ⟨g', 0, none⟩) (km + 1) c')).ownsRow wc.heap.size e 1 v n xs := fun h1 h2 h3 =>
    own_turn (own_turn h1 ht (fun b hb e => own_blocks_ne (hk1.own h.mh) h1 h2 e hb)) T2 (fun b hb e => h3 b hb e)
  have hgp : g' ≠ bp := by
    rcases hg with e | e
    · exact h.a3 g' e
    · omega
  refine ⟨hrg 3 _ rfl, (hth 3 (by omega)).2, ⟨thru (h.nd.kp hk1) (by decide) (fun b hb => (h.na b hb).2), thru (h.rm.kp hk1) (by decide) (fun b hb e => h.ne (by have := slb hb; omega)), ?_, fun j hj => ?_, thru (hk1.own h.fh) (by decide) h.a2, fun j hj => thru ((h.fr j hj).kp hk1) (by decide) (fun b hb e => (h.a1 j hj).2.1 (by have := slb hb; omega)), ?_, ?_, h.ap, h.a1, ?_, h.a2, ?_, h.lo, h.ne, h.na, ?_, fun i j hi hj hne => by
    by_cases e1 : i = km
    · by_cases e2 : j = km
      · omega
      · rw [e1, upd_at, upd_ne e2]; exact fun e => hbm j (by omega) e.symm
    · rw [upd_ne e1]
      by_cases e2 : j = km
      · rw [e2, upd_at]; exact hbm i (by omega)
      · rw [upd_ne e2]; exact h.am i j (by omega) (by omega) hne⟩⟩
  · intro j v hv
    match j, hv with
    | 0, hv => rw [World.cell?_setCell_other _ _ _ _ (by simp)]; exact hrg 0 v hv
    | 1, hv => rw [World.cell?_setCell_other _ _ _ _ (by simp)]; exact hrg 1 v hv
    | 2, hv => rw [World.cell?_setCell_other _ _ _ _ (by simp)]; exact hrg 2 v hv
    | 3, hv =>
      have e : Value.slice (some ⟨g', 0, none⟩) (km + 1) c' = v := by simpa using hv
      rw [← e]; exact World.cell?_setCell_same _ _ _ (hrg 3 _ rfl)
    | j + 4, hv => simp at hv
  · exact World.there_setCells hth bp 3 [.slice (some ⟨g', 0, none⟩) (km + 1) c'] j hj
  · rw [← hdrL_add]
    exact own_turn ho T2 (fun b hb e => hgp (by have := slb hb; have e2 : b = bp := e; omega))
  · intro j hj
    by_cases e : j = km
    · subst e
      rw [upd_at, upd_at]
      exact thru hbo (by decide) (fun b hb e => by have := slb hb; omega)
    · rw [upd_ne e, upd_ne e]
      exact thru (hk1.own (h.mr j (by omega))) (by decide) (fun b hb e2 => h.a4 j (by omega) (by have := slb hb; omega))
  · intro j hj
    by_cases e : j = km
    · subst e; rw [upd_at]; exact hbf
    · rw [upd_ne e]; exact h.a4 j (by omega)
  · intro b hb e; exact hgp (by have := slb hb; omega)
  · refine ((h.kp.trans hk1).turn ht (fun i e => (World.ownsRow.lt h.mh i e).1)).turn T2 (fun i e => ?_)
    have : i = bp := e
    have := h.lo; omega
theorem owns_shape {w : World} {base : Nat} {e : TypeId} {v : Value} {n : Nat} {xs : List Value} (h : w.ownsRow base e 1 v n xs) : ∃ A c, v = .slice A n c ∧ (0 < n → ∃ g, A = some ⟨g, 0, none⟩) := by
  rcases h.2 with ⟨rfl, h0⟩ | ⟨g, cap, cur, rfl, _⟩
  · subst h0; exact ⟨none, 0, rfl, fun hp => by omega⟩
  · exact ⟨_, _, rfl, fun _ => ⟨g, rfl⟩⟩
def blkA (A : Option Addr) : Nat := (A.map Addr.block).getD 0
/-- At the end it is a net. -/
theorem StT.net (h : StT wc wr J M bp gr cn nA needs R p J J fv mv Bk Ck Bm Cm) (hn : needs.length = J) : ∃ L : NetL, L.val J M = .agg #[.slice nA J cn, .slice (some ⟨gr, 0, none⟩) M M, fv, mv] ∧ NetS wr wc.heap.size L J M (lget needs) R (fun _ _ => 0) p ∧ (∀ i j, i < J → j < J → i ≠ j → L.Bm i ≠ L.Bm j) := by
  obtain ⟨fA, cf, rfl, hf⟩ := owns_shape h.fh
  obtain ⟨mA, cm, rfl, hm⟩ := owns_shape h.mh
  obtain ⟨nA', cn', he, hna⟩ := owns_shape h.nd
  rw [hn] at he hna
  simp only [Value.slice.injEq] at he
  obtain ⟨rfl, _, rfl⟩ := he
  refine ⟨⟨nA, fA, mA, blkA nA, gr, blkA fA, blkA mA, cn, M, cf, cm, Bk, Ck, Bm, Cm⟩, rfl, ?_, h.am⟩
  have e1 : 0 < J → nA = some ⟨blkA nA, 0, none⟩ := fun hp => by obtain ⟨g, rfl⟩ := hna hp; rfl
  have e2 : 0 < J → fA = some ⟨blkA fA, 0, none⟩ := fun hp => by obtain ⟨g, rfl⟩ := hf hp; rfl
  have e3 : 0 < J → mA = some ⟨blkA mA, 0, none⟩ := fun hp => by obtain ⟨g, rfl⟩ := hm hp; rfl
  have en : mapTo (lget needs) J = needs := map_lget hn
  refine ⟨fun hp => ?_, e1, h.rm, e2, fun hp => ⟨?_, h.fr, h.ap⟩, e3, fun hp => ?_, h.mr, fun hp => ?_, fun j hj => ⟨?_, (h.a1 j hj).1⟩⟩
  · show Own wr wc.heap.size (.slice (some ⟨blkA nA, 0, none⟩) J cn) (mapTo (lget needs) J)
    rw [en, ← e1 hp]; exact h.nd
  · show wr.ownsRow wc.heap.size 24 1 (.slice (some ⟨blkA fA, 0, none⟩) J cf) J _
    rw [← e2 hp]; exact h.fh
  · show wr.ownsRow wc.heap.size 112 1 (.slice (some ⟨blkA mA, 0, none⟩) J cm) J _
    rw [← e3 hp]; exact h.mh
  · show blkA nA ≠ gr
    exact (h.na (blkA nA) (by rw [e1 hp]; rfl)).1
  · show Bk j ≠ blkA nA
    exact (h.a1 j hj).2.2 (blkA nA) (by rw [e1 (by omega)]; rfl)
end
theorem NetS.mono {w : World} {base base' : Nat} {L : NetL} {J M : Nat} {nl lf : Nat → Int} {fl : Nat → Nat → Int} {may : Nat → Nat → Bool} (h : NetS w base L J M nl lf fl may) (hb : base' ≤ base) : NetS w base' L J M nl lf fl may :=
  ⟨fun hj => (h.nd hj).mono hb, h.na, h.rm.mono hb, h.fa, fun hj => (h.fl hj).mono hb, h.ma, fun hj => owns_mono (h.mh hj) hb, fun j hj => owns_mono (h.mr j hj) hb, h.a1, h.a2⟩
theorem NetS.turnL {w w' : World} {base : Nat} {L : NetL} {J M : Nat} {nl lf : Nat → Int} {fl : Nat → Nat → Int} {may : Nat → Nat → Bool} (h : NetS w base L J M nl lf fl may) {b : Nat} (ht : Turn (fun i => i = b) w w') (hb : b < base) : NetS w' base L J M nl lf fl may := by
  have own : ∀ {e : TypeId} {v : Value} {n : Nat} {xs : List Value}, w.ownsRow base e 1 v n xs → w'.ownsRow base e 1 v n xs := fun o => own_turn o ht (fun k hk e => by have := (World.ownsRow.lt o k hk).1; have : k = b := e; omega)
  exact ⟨fun hj => own (h.nd hj), h.na, own h.rm, h.fa, fun hj => ⟨own (h.fl hj).hd, fun j hj' => own ((h.fl hj).row j hj'), (h.fl hj).apart⟩, h.ma, fun hj => own (h.mh hj), fun j hj => own (h.mr j hj), h.a1, h.a2⟩
def roomI (S rooms : List Int) (i a : Nat) : Int := if flHas (S.take i) a = true then lget rooms a else 0
theorem roomI_zero (S rooms : List Int) (M : Nat) : mapTo (roomI S rooms 0) M = List.replicate M 0 := by
  apply List.ext_getElem
  · simp [mapTo]
  · intro i h1 h2; simp [mapTo, roomI, flHas]
theorem roomI_all (S rooms : List Int) : roomI S rooms S.length = startR S rooms := by
  funext a; unfold roomI startR; rw [List.take_length]
theorem roomI_next {S rooms : List Int} {i s : Nat} (hi : i < S.length) (hs : S[i] = (s : Int)) : upd (roomI S rooms i) s (lget rooms s) = roomI S rooms (i + 1) := by
  funext a
  unfold roomI
  by_cases e : a = s
  · subst e
    rw [upd_at, if_pos]
    rw [flHas_iff, ← hs]
    exact List.mem_take_iff_getElem.2 ⟨i, by omega, rfl⟩
  · rw [upd_ne e]
    have : flHas (S.take (i + 1)) a = flHas (S.take i) a := by
      unfold flHas
      rw [List.take_succ_eq_append_getElem hi, List.any_append, hs]
      have e2 : ((s : Int) == (a : Int)) = false := by
        have : ¬ (s : Int) = (a : Int) := by omega
        simpa using this
      simp [e2]
    rw [this]
/-- The struct, the copy of the needs and the new rooms. -/
structure StartP (wc wd : World) (J M bp gr cn : Nat) (nA : Option Addr) (needs : List Int) : Prop where
  nd : Own wd wc.heap.size (.slice nA J cn) needs
  rm : Own wd wc.heap.size (.slice (some ⟨gr, 0, none⟩) M M) (List.replicate M 0)
  rg : wd.rangeAt bp 0 [.slice nA J cn, .slice (some ⟨gr, 0, none⟩) M M, .slice none 0 0, .slice none 0 0]
  th : wd.there bp 0 4
  lo : wc.heap.size ≤ bp
  ne : bp ≠ gr
  na : ∀ k, (Value.slice nA J cn).ownBlock = some k → k ≠ gr ∧ k ≠ bp
  kp : Kp wc wd
theorem StT.init {wc wd : World} {J M bp gr cn : Nat} {nA : Option Addr} {needs : List Int} (h : StartP wc wd J M bp gr cn nA needs) {R : Nat → Int} (hR : mapTo R M = List.replicate M 0) (p : Nat → Nat → Bool) :
    StT wc wd J M bp gr cn nA needs R p 0 0 (.slice none 0 0) (.slice none 0 0) (fun _ => 0) (fun _ => 0) (fun _ => 0) (fun _ => 0) :=
  ⟨h.nd, by rw [hR]; exact h.rm, h.rg, h.th, World.ownsRow_nil _ _ _ _, fun j hj => by omega, World.ownsRow_nil _ _ _ _, fun j hj => by omega, fun i j hi => by omega, fun j hj => by omega, fun j hj => by omega, fun b hb => by simp [Value.ownBlock] at hb, fun b hb => by simp [Value.ownBlock] at hb, h.lo, h.ne, h.na, h.kp, fun i j hi => by omega⟩
theorem StT.setR {wc wr : World} {J M bp gr cn : Nat} {nA : Option Addr} {needs : List Int} {R : Nat → Int} {p : Nat → Nat → Bool} {kf km : Nat} {fv mv : Value} {Bk Ck Bm Cm : Nat → Nat} (h : StT wc wr J M bp gr cn nA needs R p kf km fv mv Bk Ck Bm Cm) {a : Nat} (ha : a < M) (z : Int) :
    wr.cell? ⟨gr, a, none⟩ = some (.int .i64 (R a)) ∧ wr.frozen? ⟨gr, a, none⟩ = false ∧ StT wc (wr.setCell ⟨gr, a, none⟩ (.int .i64 z)) J M bp gr cn nA needs (upd R a z) p kf km fv mv Bk Ck Bm Cm := by
  obtain ⟨c1, c2, c3⟩ := h.rm.slotL (mapTo_len _ _) ha
  rw [mapTo_lget ha] at c1
  obtain ⟨o1, t1⟩ := c3 z
  rw [mapTo_set] at o1
  have hg := (h.rm.lt gr rfl).1
  have thru : ∀ {e : TypeId} {v : Value} {n : Nat} {xs : List Value}, wr.ownsRow wc.heap.size e 1 v n xs → 3 ≠ e → (wr.setCell ⟨gr, a, none⟩ (.int .i64 z)).ownsRow wc.heap.size e 1 v n xs := fun h1 h2 =>
    own_turn h1 t1 (fun b hb e => own_blocks_ne h.rm h1 h2 (g := gr) rfl (by rw [hb]; exact congrArg some e))
  exact ⟨c1, c2, h.nd.turn t1 (fun b hb e => (h.na b hb).1 e), o1, range_set h.rg h.ne _, t1.there h.th h.ne, thru h.fh (by decide), fun j hj => (h.fr j hj).other t1 (h.a1 j hj).1, thru h.mh (by decide), fun j hj => thru (h.mr j hj) (by decide), h.ap, h.a1, h.a4, h.a2, h.a3, h.lo, h.ne, h.na, h.kp.turn t1 (fun k e => by subst e; exact hg), h.am⟩
theorem row_thru {w0 w1 w' : World} {base base' : Nat} {e : TypeId} {v fv u : Value} {n k bp off : Nat} {xs hs : List Value} (h : w0.ownsRow base e 1 v n xs) (hk : Kp w0 w1) (hf : w1.ownsRow base' 24 1 fv k hs) (ht : Turn (fun i => fv.ownBlock = some i) w1 w') (hne : 24 ≠ e) (hb : ∀ b, v.ownBlock = some b → b ≠ bp) :
    (w'.setCell ⟨bp, off, none⟩ u).ownsRow base e 1 v n xs :=
  own_turn (own_turn (hk.own h) ht (fun b hb e => own_blocks_ne hf (hk.own h) hne e hb)) (turn_cell w' ⟨bp, off, none⟩ u) (fun b hb' e => hb b hb' e)
theorem start_set {wc X : World} {J M bp gr cn : Nat} {nA : Option Addr} {needs : List Int} (hnv : Own X wc.heap.size (.slice nA J cn) needs) (hgr : Own X wc.heap.size (.slice (some ⟨gr, 0, none⟩) M M) (List.replicate M 0)) (ht : X.there bp 0 4) (hb : wc.heap.size ≤ bp) (hne : bp ≠ gr)
    (hna : ∀ k, (Value.slice nA J cn).ownBlock = some k → k ≠ gr ∧ k ≠ bp) (hk : Kp wc X) : StartP wc (X.setCells bp 0 [.slice nA J cn, .slice (some ⟨gr, 0, none⟩) M M, .slice none 0 0, .slice none 0 0]) J M bp gr cn nA needs := by
  have htn := turn_setCells bp [.slice nA J cn, .slice (some ⟨gr, 0, none⟩) M M, .slice none 0 0, .slice none 0 0] 0 X
  exact ⟨hnv.turn htn (fun k hk e => (hna k hk).2 e), hgr.other htn (Ne.symm hne), World.rangeAt_setCells_same X bp 0 _ ht, World.there_setCells ht _ _ _, hb, hne, hna, hk.turn htn (fun k e => by omega)⟩
set_option maxRecDepth 100000 in
set_option maxHeartbeats 4000000 in
theorem l7Start_any2 (f : Value) (F : Fld) (A1 : Option Addr) (rooms : List Int) (n1 c1 : Nat) (A2 : Option Addr) (needs : List Int) (n2 c2 : Nat) (A3 : Option Addr) (S : List Int) (n3 c3 : Nat) (r : Int) (w : World) (hf : FldAt w f F) (hg : goodF F = true)
    (h1 : IntsAt w A1 rooms) (hn1 : rooms.length = n1) (h2 : IntsAt w A2 needs) (hn2 : needs.length = n2) (h3 : IntsAt w A3 S) (hn3 : S.length = n3) (hM : n1 = F.op.length) (hJ : n2 = F.di.length) (hS : ∀ x ∈ S, 0 ≤ x ∧ x < F.op.length) :
    Calls Tryz.prog 75 #[f, .slice A1 n1 c1, .slice A2 n2 c2, .slice A3 n3 c3, .int .i64 r] w fun e w' => ∃ L, e = .returned (L.val F.di.length F.op.length) ∧ NetS w' w.heap.size L F.di.length F.op.length (lget needs) (startR S rooms) (fun _ _ => 0) (startM F S r) ∧ Kp w w' ∧ (∀ i j, i < F.di.length → j < F.di.length → i ≠ j → L.Bm i ≠ L.Bm j) := by
  subst hM
  subst hJ
  have h7 := (goodF_iff.1 hg).1
  have h8 := (goodF_iff.1 hg).2.2.1
  obtain ⟨A, c, B, d, rfl, hA, hB⟩ := hf
  have hk0 : Kp w (w.alloc (.cells #[.slice A F.op.length c, .slice B F.di.length d] 27)) := (Kp.refl w).alloc _
  obtain ⟨d0, d1⟩ := box2 w (.slice A F.op.length c) (.slice B F.di.length d) 27
  have hFA := FldAt.kp (show FldAt w (.agg #[.slice A F.op.length c, .slice B F.di.length d]) F from ⟨A, c, B, d, rfl, hA, hB⟩) hk0
  have hm3 : n3 ≤ 9223372036854775807 := hn3 ▸ h3.1
  have HG := Lib.hid hg
  have H1 := Lib.hid (h1.kp hk0); have H2 := Lib.hid (h2.kp hk0); have H3 := Lib.hid (h3.kp hk0)
  have Hn1 := Lib.hid hn1; have Hn2 := Lib.hid hn2; have Hn3 := Lib.hid hn3; have HS := Lib.hid hS
  have HB := Lib.hid (hB.kp hk0)
  have hmM := run_make_row' (P := Tryz.prog) 24 3 (.int .i64 0) 8 Tryz.underlying24 infoInt rfl .i64 .i64 F.op.length (by omega) (by omega)
  clear hA hB hg h1 h2 h3 hn1 hn2 hn3 hS
  go_enter Tryz.func75, Tryz.ntmps75
  go_wp2_with fail
  have hsz : Hid ((w.alloc (.cells #[.slice A F.op.length c, .slice B F.di.length d] 27)).heap.size = w.heap.size + 1) := by show _ = _; simp
  generalize w.alloc (.cells #[.slice A F.op.length c, .slice B F.di.length d] 27) = wb at *
  have hkb : Kp wb wb := Kp.refl _
  have hkw := hk0
  go_wp2_with fail
  have kr := (Kp.refl wb).alloc (.cells #[.slice none 0 0, .slice none 0 0, .slice none 0 0, .slice none 0 0] 90)
  have ht0 : (wb.alloc (.cells #[.slice none 0 0, .slice none 0 0, .slice none 0 0, .slice none 0 0] 90)).there (w.heap.size + 1) 0 4 := there_new' _ _ _ hsz.out
  have hsr : (wb.alloc (.cells #[.slice none 0 0, .slice none 0 0, .slice none 0 0, .slice none 0 0] 90)).heap.size = w.heap.size + 2 := by rw [World.size_alloc, hsz.out]
  generalize wb.alloc (.cells #[.slice none 0 0, .slice none 0 0, .slice none 0 0, .slice none 0 0] 90) = wk at *
  have C0 := Lib.hid (fun (wx : World) (hx : Kp wk wx) => l1Own_all A2 needs F.di.length c2 wx (H2.out.kp (kr.trans hx)) Hn2.out (by omega))
  go_cut [11] (fun pv wd => ∃ (bp gr cn : Nat) (nA : Option Addr), pv = .pointer (some ⟨bp, 0, none⟩) ∧ StartP wk wd F.di.length F.op.length bp gr cn nA needs)
  case first =>
    have hkc : Kp wk wk := Kp.refl _
    have tok1 : True := trivial
    go_wp2_with fail
    go_region_held3 (fun w' => Kp wk w')
      (first | exact (by repeat (first | with_reducible assumption | with_reducible exact Kp.refl _ | with_reducible refine Kp.drew ?_ | with_reducible refine Kp.alloc ?_ _ | with_reducible refine Kp.drewN ?_ _ | refine Kp.setCell ?_ (by dsimp only; omega) _)) | fail)
      (first
        | (have _t := tok1; go_at_call 44; with_reducible refine Calls.mono (C0.out _ (by repeat (first | with_reducible assumption | with_reducible exact Kp.refl _ | with_reducible refine Kp.drew ?_ | with_reducible refine Kp.alloc ?_ _ | with_reducible refine Kp.drewN ?_ _ | refine Kp.setCell ?_ (by dsimp only; omega) _))) ?_; rintro e wr1 ⟨nA, cn, rfl, hnv, hka⟩; have hr1 : Kp wk wr1 := Kp.trans (by repeat (first | with_reducible assumption | with_reducible exact Kp.refl _ | with_reducible refine Kp.drew ?_ | with_reducible refine Kp.alloc ?_ _ | with_reducible refine Kp.drewN ?_ _ | refine Kp.setCell ?_ (by dsimp only; omega) _)) hka; have hcx := kp_cells hka; have hfx := kp_frozs hka; have hcy := kp_cellsA hka; have hfy := kp_frozsA hka; have tok2 : True := trivial; clear tok1 _t)
        | fail)
    all_goals
      go_wp2_with fail
      go_meet
    all_goals
      clear hcx hfx hcy hfy
      have hlo := Kp.trans (by repeat (first | with_reducible assumption | with_reducible exact Kp.refl _ | with_reducible refine Kp.drew ?_ | with_reducible refine Kp.alloc ?_ _ | with_reducible refine Kp.drewN ?_ _ | refine Kp.setCell ?_ (by dsimp only; omega) _)) hka
      have hnl := hnv.lt
      have hnv0 := hnv.mono (base' := wk.heap.size) (Kp.le (w := wk) (by repeat (first | with_reducible assumption | with_reducible exact Kp.refl _ | with_reducible refine Kp.drew ?_ | with_reducible refine Kp.alloc ?_ _ | with_reducible refine Kp.drewN ?_ _ | refine Kp.setCell ?_ (by dsimp only; omega) _)))
    · have hn2 : ∀ k, (Value.slice nA F.di.length cn).ownBlock = some k → k < wr1.heap.size := fun k hk => (hnl k hk).2
      exact ⟨_, _, _, _, rfl, ⟨hnv0.kp (((Kp.refl wr1).alloc _).alloc _), (own_made' _ _ _ rfl hr1.le (by omega)).kp ((Kp.refl _).alloc _), range_new' _ [_, _, _, _] _ (by simp only [World.size_alloc]), there_new' _ _ _ (by simp only [World.size_alloc]), by have := hr1.le; omega, by omega, fun k hk => by have := hn2 k hk; omega, (hr1.alloc _).alloc _⟩⟩
    · have hn2 : ∀ k, (Value.slice nA F.di.length cn).ownBlock = some k → k < wr1.heap.size := fun k hk => (hnl k hk).2
      exact ⟨_, _, _, _, rfl, ⟨hnv0.kp (((Kp.refl wr1).alloc _).alloc _), own_made' _ _ _ (by simp only [World.size_alloc]) (by have := hr1.le; omega) (by omega), World.rangeAt_alloc (range_new' _ [_, _, _, _] _ rfl) _, World.there_alloc (there_new' _ _ _ rfl) _, hr1.le, by omega, fun k hk => by have := hn2 k hk; omega, (hr1.alloc _).alloc _⟩⟩
    · have hn2 : ∀ k, (Value.slice nA F.di.length cn).ownBlock = some k → k < wr1.heap.size ∧ w.heap.size + 3 ≤ k := fun k hk => ⟨(hnl k hk).2, by have := (hnl k hk).1; simp at this; omega⟩
      have hsw : w.heap.size + 3 ≤ wr1.heap.size := by have := hka.le; simp at this; omega
      have hgr := (own_made' (w := wk) wk.heap.size F.op.length (w.heap.size + 2) hsr (by omega) (by omega)).kp (Kp.trans (by repeat (first | with_reducible assumption | with_reducible exact Kp.refl _ | with_reducible refine Kp.drew ?_ | with_reducible refine Kp.alloc ?_ _ | with_reducible refine Kp.drewN ?_ _ | refine Kp.setCell ?_ (by dsimp only; omega) _)) hka)
      exact ⟨_, _, _, _, rfl, ⟨hnv0.kp ((Kp.refl wr1).alloc _), hgr.kp ((Kp.refl _).alloc _), range_new' _ [_, _, _, _] _ rfl, there_new' _ _ _ rfl, by have := hr1.le; omega, by omega, fun k hk => by have := hn2 k hk; omega, hr1.alloc _⟩⟩
    · have hn2 : ∀ k, (Value.slice nA F.di.length cn).ownBlock = some k → w.heap.size + 4 ≤ k := fun k hk => by have := (hnl k hk).1; simp at this; omega
      have hgr := (own_made' (w := wk) wk.heap.size F.op.length (w.heap.size + 2) hsr (by omega) (by omega)).kp (Kp.trans (by repeat (first | with_reducible assumption | with_reducible exact Kp.refl _ | with_reducible refine Kp.drew ?_ | with_reducible refine Kp.alloc ?_ _ | with_reducible refine Kp.drewN ?_ _ | refine Kp.setCell ?_ (by dsimp only; omega) _)) hka)
      have hth := there_kp (there_new' (wk.alloc (.cells (madeCells #[.int .i64 0] F.op.length) 3)) #[.slice none 0 0, .slice none 0 0, .slice none 0 0, .slice none 0 0] 90 (n := w.heap.size + 2 + 1) (by simp only [World.size_alloc]; omega)) (Kp.trans (by repeat (first | with_reducible assumption | with_reducible exact Kp.refl _ | with_reducible refine Kp.drew ?_ | with_reducible refine Kp.alloc ?_ _ | with_reducible refine Kp.drewN ?_ _ | refine Kp.setCell ?_ (by dsimp only; omega) _)) hka)
      exact ⟨_, _, _, _, rfl, start_set hnv0 hgr hth (by omega) (by omega) (fun k hk => by have := hn2 k hk; omega) hr1⟩
    · have hn2 : ∀ k, (Value.slice nA F.di.length cn).ownBlock = some k → k < wr1.heap.size ∧ w.heap.size + 3 ≤ k := fun k hk => ⟨(hnl k hk).2, by have := (hnl k hk).1; simp at this; omega⟩
      have hsw : w.heap.size + 3 ≤ wr1.heap.size := by have := hka.le; simp at this; omega
      have hgr := own_made' (w := wr1) wk.heap.size F.op.length wr1.heap.size rfl (by omega) (by omega)
      have hth := there_kp (there_new' wk #[.slice none 0 0, .slice none 0 0, .slice none 0 0, .slice none 0 0] 90 (n := w.heap.size + 2) hsr) (Kp.trans (by repeat (first | with_reducible assumption | with_reducible exact Kp.refl _ | with_reducible refine Kp.drew ?_ | with_reducible refine Kp.alloc ?_ _ | with_reducible refine Kp.drewN ?_ _ | refine Kp.setCell ?_ (by dsimp only; omega) _)) hka)
      exact ⟨_, _, _, _, rfl, start_set (hnv0.kp ((Kp.refl _).alloc _)) hgr (World.there_alloc hth _) (by omega) (by omega) (fun k hk => by have := hn2 k hk; omega) (hr1.alloc _)⟩
    · have hn2 : ∀ k, (Value.slice nA F.di.length cn).ownBlock = some k → w.heap.size + 4 ≤ k := fun k hk => by have := (hnl k hk).1; simp at this; omega
      have hgr := (own_made' (w := wk.alloc (.cells #[.slice none 0 0, .slice none 0 0, .slice none 0 0, .slice none 0 0] 90)) wk.heap.size F.op.length (w.heap.size + 2 + 1) (by simp only [World.size_alloc]; omega) (by omega) (by omega)).kp (Kp.trans (by repeat (first | with_reducible assumption | with_reducible exact Kp.refl _ | with_reducible refine Kp.drew ?_ | with_reducible refine Kp.alloc ?_ _ | with_reducible refine Kp.drewN ?_ _ | refine Kp.setCell ?_ (by dsimp only; omega) _)) hka)
      have hth := there_kp (there_new' wk #[.slice none 0 0, .slice none 0 0, .slice none 0 0, .slice none 0 0] 90 (n := w.heap.size + 2) hsr) (Kp.trans (by repeat (first | with_reducible assumption | with_reducible exact Kp.refl _ | with_reducible refine Kp.drew ?_ | with_reducible refine Kp.alloc ?_ _ | with_reducible refine Kp.drewN ?_ _ | refine Kp.setCell ?_ (by dsimp only; omega) _)) hka)
      exact ⟨_, _, _, _, rfl, start_set hnv0 hgr hth (by omega) (by omega) (fun k hk => by have := hn2 k hk; omega) hr1⟩
  case rest =>
    obtain ⟨bp, gr, cn, nA, rfl, hsp⟩ := hcut
    have Hkw := Lib.hid (hkw.trans kr)
    have H0 := Lib.hid (StT.init hsp (roomI_zero S rooms F.op.length) (startM F S r))
    have e0 := kr.get d0
    have e1 := kr.get d1
    have hlo := hsp.lo
    have ht4 := there_kp ht0 (Kp.refl wk)
    have Hr1 := Lib.hid (H1.out.kp kr); have Hr3 := Lib.hid (H3.out.kp kr); have HBc := Lib.hid (HB.out.kp kr)
    have hmB := run_make_row' (P := Tryz.prog) 112 4 (.bool false) 1 Tryz.underlying112 infoBool rfl .i64 .i64 F.op.length (by omega) (by omega)
    clear hsp hkw kr H1 H2 H3 HB C0 ht0 hkb
    go_wp2_with fail
    go_loopw [12] (fun iv wr => ∃ i : Nat, i ≤ n3 ∧ iv = .int .i64 i ∧ StT wk wr F.di.length F.op.length bp gr cn nA needs (roomI S rooms i) (startM F S r) 0 0 (.slice none 0 0) (.slice none 0 0) (fun _ => 0) (fun _ => 0) (fun _ => 0) (fun _ => 0)) (fun iv _ => n3 - (intOf iv).toNat)
    case atStart => exact ⟨0, by omega, rfl, H0.out⟩
    case round =>
      clear H0
      obtain ⟨i, hi, rfl, hst⟩ := hrel
      by_cases hli : i < n3
      · have lx : i < S.length := by rw [Hn3.out]; exact hli
        obtain ⟨ad3, rfl, hc3⟩ := (Hr3.out.kp hst.kp).at_ lx
        have hmem := HS.out _ (List.getElem_mem lx)
        obtain ⟨sn, hsn⟩ := Int.eq_ofNat_of_zero_le hmem.1
        have hsM : sn < F.op.length := by omega
        have lr : sn < rooms.length := by rw [Hn1.out]; exact hsM
        obtain ⟨ad1, rfl, hc1⟩ := (Hr1.out.kp hst.kp).at_ lr
        rw [← lget_at lr] at hc1
        have hnx := roomI_next (rooms := rooms) lx hsn
        rw [hsn] at hc3
        obtain ⟨x1, x2, x3⟩ := hst.setR hsM (lget rooms sn)
        rw [hnx] at x3
        have x4 := hst.rg 1 _ rfl
        simp only [Nat.zero_add] at x4
        obtain ⟨rv, Hrv⟩ : ∃ z, Hid (lget rooms sn = z) := ⟨_, rfl⟩
        rw [Hrv.out] at hc1 x3
        have X3 := Lib.hid (x3.go (Kp.refl _).drew)
        have hsI : (sn : Int) < (F.op.length : Int) := by omega
        have hliI : (i : Int) < (n3 : Int) := by omega
        have ad : (⟨gr, 0, none⟩ : Addr).add sn = ⟨gr, sn, none⟩ := add0 _ _
        clear x3 hnx hmem hst hsn
        go_wp2_with fail
        go_region
        (try go_wp2_with fail)
        go_roundw
        case rel => exact ⟨i + 1, by omega, by go_num, X3.out⟩
        case measure => simp [intOf]; omega
      · obtain rfl : i = n3 := by omega
        rw [← Hn3.out, roomI_all] at hst
        have HST := Lib.hid hst
        clear hst
        go_wp2_with fail
        go_loopw [13] (fun jv wr => ∃ (j : Nat) (fv mv : Value) (Bk Ck Bm Cm : Nat → Nat), j ≤ F.di.length ∧ jv = .int .i64 j ∧ StT wk wr F.di.length F.op.length bp gr cn nA needs (startR S rooms) (startM F S r) j j fv mv Bk Ck Bm Cm) (fun jv _ => F.di.length - (intOf jv).toNat)
        case atStart => exact ⟨0, _, _, _, _, _, _, by omega, rfl, HST.out⟩
        case round =>
          clear HST
          obtain ⟨j, fv, mv, Bk, Ck, Bm, Cm, hj, rfl, hst⟩ := hrel
          have q0 := hst.kp.get e0
          have q1 := hst.kp.get e1
          by_cases hlj : j < F.di.length
          · have hljI : (j : Int) < (F.di.length : Int) := by omega
            have HST := Lib.hid hst
            obtain ⟨wo, rfl⟩ : ∃ wo : World, wo = wr := ⟨_, rfl⟩
            have hrow0 := Lib.hid ((World.rowIs_made wo (.bool false) F.op.length 4).congr (g := fun b => .bool (if b < 0 then startM F S r j b else false)) (fun i _ => by simp))
            clear hst
            go_wp2_with fail
            clear q0 q1
            go_loopw [15] (fun av wr => ∃ a : Nat, a ≤ F.op.length ∧ av = .int .i64 a ∧ wr.rowIs wo.heap.size 4 F.op.length (fun b => .bool (if b < a then startM F S r j b else false)) ∧ Kp wo wr) (fun av _ => F.op.length - (intOf av).toNat)
            case atStart => exact ⟨0, by omega, rfl, hrow0.out, (Kp.refl wo).alloc _⟩
            case round =>
              clear hrow0
              obtain ⟨a, ha, rfl, hrow, hko⟩ := hrel
              by_cases hla : a < F.op.length
              · have hlaI : (a : Int) < (F.op.length : Int) := by omega
                obtain ⟨bh, Hbh⟩ : ∃ b, Hid (flHas S a = b) := ⟨_, rfl⟩
                have CC := Lib.hid (l1Has_any A3 S _ c3 (a : Int) wr ((Hr3.out.kp (HST.out.kp.trans hko))) Hn3.out)
                rw [show (S.any fun x => x == (a : Int)) = bh from Hbh.out] at CC
                have hc0 := hrow.cell hla
                have hf0 := hrow.frozen a
                rw [if_neg (by omega)] at hc0
                have hst2 := HST.out.go hko
                have q0 := hst2.kp.get e0
                have q1 := hst2.kp.get e1
                obtain ⟨bd, ar, cr, rfl, hd1, hd2⟩ := dist_row HG.out (HBc.out.kp hst2.kp) hlj
                have hd3 := hd2 a hla
                obtain ⟨dd, Hdd⟩ : ∃ z, Hid (dF F j a = z) := ⟨_, rfl⟩
                rw [Hdd.out] at hd3
                have ad : (⟨wo.heap.size, 0, none⟩ : Addr).add a = ⟨wo.heap.size, a, none⟩ := add0 _ _
                have HNx := Lib.hid (fun (v : Bool) (hv : startM F S r j a = v) => (hrow.set a (.bool v)).congr (g := fun b => .bool (if b < a + 1 then startM F S r j b else false)) (fun b _ => by
                  by_cases e : b = a
                  · subst e; rw [if_pos rfl, if_pos (by omega), hv]
                  · rw [if_neg e]
                    by_cases hl : b < a
                    · rw [if_pos hl, if_pos (by omega)]
                    · rw [if_neg hl, if_neg (by omega)]))
                have hblt := hrow.lt
                have HKo := Lib.hid hko
                clear hd2 hst2 hrow hko
                go_wp2_with fail
                with_reducible refine Calls.mono CC.out ?_
                rintro e wx ⟨rfl, hw⟩
                obtain rfl := hw
                clear CC
                cases bh
                · have HR := Lib.hid (HNx.out false (by unfold startM; rw [Hbh.out]; rfl))
                  clear HNx
                  go_wp2_with fail
                  go_roundw
                  case rel => exact ⟨a + 1, by omega, by go_num, HR.out, HKo.out.setCell (Nat.le_refl _) _⟩
                  case measure => simp [intOf]; omega
                · by_cases hle : dd ≤ r
                  · have g1 : decide (dd ≤ r) = true := decide_eq_true hle
                    have HR := Lib.hid (HNx.out true (by unfold startM; rw [Hbh.out, Hdd.out, g1]; rfl))
                    clear HNx
                    go_wp2_with fail
                    go_roundw
                    case rel => exact ⟨a + 1, by omega, by go_num, HR.out, HKo.out.setCell (Nat.le_refl _) _⟩
                    case measure => simp [intOf]; omega
                  · have g1 : decide (dd ≤ r) = false := decide_eq_false hle
                    have HR := Lib.hid (HNx.out false (by unfold startM; rw [Hbh.out, Hdd.out, g1]; rfl))
                    clear HNx
                    go_wp2_with fail
                    go_roundw
                    case rel => exact ⟨a + 1, by omega, by go_num, HR.out, HKo.out.setCell (Nat.le_refl _) _⟩
                    case measure => simp [intOf]; omega
              · obtain rfl : a = F.op.length := by omega
                have hbs0 := HST.out.kp.le
                have hbr := Lib.hid (show wr.ownsRow wk.heap.size 4 1 (.slice (some ⟨wo.heap.size, 0, none⟩) F.op.length F.op.length) F.op.length (boolRow F.op.length (startM F S r j)) from by
                  have := owns_of_row hrow hbs0 (by omega)
                  have e : (List.range F.op.length).map (fun b => Value.bool (if b < F.op.length then startM F S r j b else false)) = boolRow F.op.length (startM F S r j) := List.map_congr_left (fun b hb => by rw [if_pos (List.mem_range.1 hb)])
                  rw [← e]; exact this)
                have HS2 := Lib.hid (HST.out.go hko)
                have hblt : Hid (bp ≠ wo.heap.size ∧ wo.heap.size < wr.heap.size) := ⟨by have := HST.out.blt; omega, hrow.lt⟩
                have HBm : Hid (∀ j', j' < j → Bm j' ≠ wo.heap.size) := fun j' hj' => by have := (World.ownsRow.lt (HST.out.mr j' hj') (Bm j') rfl).2; omega
                clear hrow hko HST
                go_wp2_with fail
                have hk2 : Kp wr ((wr.alloc (.cells (madeCells #[.int .i64 0] F.op.length) 3)).alloc (.cells #[.slice (some ⟨wr.heap.size, 0, none⟩) F.op.length F.op.length] 24)).drew := (((Kp.refl wr).alloc _).alloc _).drew
                have q0 := (Kp.refl wr).drew.get (HS2.out.kp.get e0)
                have q1 := (Kp.refl wr).drew.get (HS2.out.kp.get e1)
                have x2 := (Kp.refl wr).drew.get HS2.out.fld.1
                have ka1 : Kp wr (wr.alloc (.cells (madeCells #[.int .i64 0] F.op.length) 3)) := (Kp.refl wr).alloc _
                have ka2 : Kp wr ((wr.alloc (.cells (madeCells #[.int .i64 0] F.op.length) 3)).alloc (.cells #[.slice (some ⟨wr.heap.size, 0, none⟩) F.op.length F.op.length] 24)) := ka1.alloc _
                have r0 := HS2.out.kp.get e0
                have r2 := HS2.out.fld.1
                have q3 := ka1.get r0
                have q4 := ka2.get r0
                have x3 := ka1.get r2
                have x4 := ka2.get r2
                have hbo := Lib.hid (((own_made' (w := wr) wk.heap.size F.op.length wr.heap.size rfl (by have := HS2.out.kp.le; omega) (by omega)).kp ((Kp.refl _).alloc (.cells #[.slice (some ⟨wr.heap.size, 0, none⟩) F.op.length F.op.length] 24))).kp (Kp.refl _).drew)
                have hOV := Lib.hid (hk2.own HS2.out.fh)
                have hHK := Lib.hid hk2
                clear hk2 ka1 ka2
                go_cut [] from 42 to 91 (fun wd => ∃ (fv' : Value) (Bk' Ck' : Nat → Nat), StT wk wd F.di.length F.op.length bp gr cn nA needs (startR S rooms) (startM F S r) (j + 1) j fv' mv Bk' Ck' Bm Cm ∧ wd.ownsRow wk.heap.size 4 1 (.slice (some ⟨wo.heap.size, 0, none⟩) F.op.length F.op.length) F.op.length (boolRow F.op.length (startM F S r j)))
                case first =>
                  go_region_law (first
                    | (refine step_appv (by rfl) (.tmp 78) (.tmp 83) (by rfl) wk.heap.size fv j (hdrL j F.op.length Bk Ck) (.slice (some ⟨wr.heap.size, 0, none⟩) F.op.length F.op.length) ⟨wr.heap.size + 1, 0, none⟩ (by rfl) (by rfl) hOV.out rfl ((Kp.refl _).drew.get (by rw [World.cell?_alloc_at _ _ _ _ (by simp)]; rfl)) (Nat.le_trans HS2.out.kp.le hHK.out.le) (by omega) ?_; intro g' c' w' ho' ht' hg'; have hF := HS2.out.addF hHK.out (Nat.le_refl _) hbo.out ho' ht' hg'; have s1 := hF.1; have s2 := hF.2.1)
                    | fail)
                  all_goals
                    go_wp2_with fail
                    go_meet
                    exact ⟨_, _, _, hF.2.2, row_thru hbr.out hHK.out hOV.out ht' (by decide) (fun b hb e => hblt.out.1 (by have := slb hb; omega))⟩
                case rest =>
                  clear q0 q1 q3 q4 r0 r2 x2 x3 x4 hbo hOV hHK HS2 hbr
                  obtain ⟨fv', Bk', Ck', hst, hbr⟩ := hcut
                  have y3 := hst.fld.2
                  have HS3 := Lib.hid hst
                  have hmh := Lib.hid hst.mh
                  have hbs := hst.kp.le
                  have HBR := Lib.hid hbr
                  clear hst hbr
                  go_wp2_with (at_builtin; go_loud (refine wpl_appvB rfl (.tmp 87) (.tmp 89) rfl wk.heap.size mv j (hdrL j F.op.length Bm Cm) (.slice (some ⟨wo.heap.size, 0, none⟩) F.op.length F.op.length) rfl rfl hmh.out rfl hbs (by omega) ?_; intro g' c' w' ho' ht' hg'; have hF := HS3.out.addM (Kp.refl _) (Ne.symm hblt.out.1) HBm.out HBR.out ho' ht' hg'; have s1 := hF.1; have s2 := hF.2.1; have s3 := Lib.hid hF.2.2; clear hF ho' ht' hg'))
                  go_roundw
                  case rel => exact ⟨j + 1, _, _, _, _, _, _, by omega, by go_num, s3.out⟩
                  case measure => simp [intOf]; omega
          · obtain rfl : j = F.di.length := by omega
            obtain ⟨L, hLv, hN, hAm⟩ := hst.net Hn2.out
            have ht := there_kp ht4 hst.kp
            have HX := Lib.hid (World.rangeAt_setCells_same wr (w.heap.size + 1) 0 [.slice nA F.di.length cn, .slice (some ⟨gr, 0, none⟩) F.op.length F.op.length, fv, mv] ht)
            have htn := turn_setCells (w.heap.size + 1) [.slice nA F.di.length cn, .slice (some ⟨gr, 0, none⟩) F.op.length F.op.length, fv, mv] 0 wr
            obtain ⟨fA, cf, rfl, _⟩ := owns_shape hst.fh
            obtain ⟨mA, cm, rfl, _⟩ := owns_shape hst.mh
            have hpost : ∃ L, Ending.returned (.agg #[.slice nA F.di.length cn, .slice (some ⟨gr, 0, none⟩) F.op.length F.op.length, .slice fA F.di.length cf, .slice mA F.di.length cm]) = .returned (L.val F.di.length F.op.length) ∧ NetS (wr.setCells (w.heap.size + 1) 0 [.slice nA F.di.length cn, .slice (some ⟨gr, 0, none⟩) F.op.length F.op.length, .slice fA F.di.length cf, .slice mA F.di.length cm]) w.heap.size L F.di.length F.op.length (lget needs) (startR S rooms) (fun _ _ => 0) (startM F S r) ∧ Kp w (wr.setCells (w.heap.size + 1) 0 [.slice nA F.di.length cn, .slice (some ⟨gr, 0, none⟩) F.op.length F.op.length, .slice fA F.di.length cf, .slice mA F.di.length cm]) ∧ (∀ i j, i < F.di.length → j < F.di.length → i ≠ j → L.Bm i ≠ L.Bm j) :=
              ⟨L, by rw [hLv], (hN.turnL htn (by omega)).mono (by omega), (Hkw.out.trans hst.kp).turn htn (fun k e => by omega), hAm⟩
            have HPost := Lib.hid hpost
            have HT := Lib.hid ht
            have z0 := hst.rg 0 _ rfl
            have z1 := hst.rg 1 _ rfl
            have z2 := hst.rg 2 _ rfl
            have z3 := hst.rg 3 _ rfl
            simp only [Nat.zero_add] at z0 z1 z2 z3
            clear hpost htn hN hLv hst ht
            go_wp2_with (first | (refine wpList_store_mid rfl 90 (.tmp 10) (.tmp 92) rfl (w.heap.size + 1) 0 #[.slice nA F.di.length cn, .slice (some ⟨gr, 0, none⟩) F.op.length F.op.length, .slice fA F.di.length cf, .slice mA F.di.length cm] rfl rfl HT.out (by kernel_rfl) (by simp [Value.oneCell']) ?_) | fail)
            clear z0 z1 z2 z3
            have z0 := HX.out 0 _ rfl
            have z1 := HX.out 1 _ rfl
            have z2 := HX.out 2 _ rfl
            have z3 := HX.out 3 _ rfl
            simp only [Nat.zero_add] at z0 z1 z2 z3
            exact bodyPost_ret (v := .agg #[.slice nA F.di.length cn, .slice (some ⟨gr, 0, none⟩) F.op.length F.op.length, .slice fA F.di.length cf, .slice mA F.di.length cm]) (by simp [results, Tryz.results75, go_sem, z0, z1, z2, z3]) rfl HPost.out
theorem l7Start_any (f : Value) (F : Fld) (A1 : Option Addr) (rooms : List Int) (n1 c1 : Nat) (A2 : Option Addr) (needs : List Int) (n2 c2 : Nat) (A3 : Option Addr) (S : List Int) (n3 c3 : Nat) (r : Int) (w : World) (hf : FldAt w f F) (hg : goodF F = true)
    (h1 : IntsAt w A1 rooms) (hn1 : rooms.length = n1) (h2 : IntsAt w A2 needs) (hn2 : needs.length = n2) (h3 : IntsAt w A3 S) (hn3 : S.length = n3) (hM : n1 = F.op.length) (hJ : n2 = F.di.length) (hS : ∀ x ∈ S, 0 ≤ x ∧ x < F.op.length) :
    Calls Tryz.prog 75 #[f, .slice A1 n1 c1, .slice A2 n2 c2, .slice A3 n3 c3, .int .i64 r] w fun e w' => ∃ L, e = .returned (L.val F.di.length F.op.length) ∧ NetS w' w.heap.size L F.di.length F.op.length (lget needs) (startR S rooms) (fun _ _ => 0) (startM F S r) ∧ Kp w w' :=
  (l7Start_any2 f F A1 rooms n1 c1 A2 needs n2 c2 A3 S n3 c3 r w hf hg h1 hn1 h2 hn2 h3 hn3 hM hJ hS).mono (fun _ _ h => by obtain ⟨L, e, h1, h2, _⟩ := h; exact ⟨L, e, h1, h2⟩)
end Go.Proofs.YtpiijhfjliolfaaGreat

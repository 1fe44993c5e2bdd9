/- The reference's nets and labels in memory; A region that draws, by an invariant: each operation once, whatever has come up before; Four new rows and a new struct in one region, in whatever order they come up; The reference's labels in memory: what a store does; one pass. No condition. -/
import Derived.Test.YtpiijhfjliolfaaGreatQAn
import Derived.Deep.MidRow
namespace Go.Proofs.YtpiijhfjliolfaaGreat
open Go.RowKit Go.Sort

/-- Where a net lies. -/
structure NetL where
  nA : Option Addr
  fA : Option Addr
  mA : Option Addr
  gn : Nat
  gr : Nat
  g : Nat
  gm : Nat
  cn : Nat
  cr : Nat
  cf : Nat
  cm : Nat
  Bk : Nat → Nat
  Ck : Nat → Nat
  Bm : Nat → Nat
  Cm : Nat → Nat
def boolRow (M : Nat) (p : Nat → Bool) : List Value := (List.range M).map fun a => Value.bool (p a)
/-- A net in memory: needs and rooms that are left, what is sent, and where more may be sent. -/
structure NetS (w : World) (base : Nat) (L : NetL) (J M : Nat) (nl lf : Nat → Int) (fl : Nat → Nat → Int) (may : Nat → Nat → Bool) : Prop where
  nd : 0 < J → Own w base (.slice (some ⟨L.gn, 0, none⟩) J L.cn) (mapTo nl J)
  na : 0 < J → L.nA = some ⟨L.gn, 0, none⟩
  rm : Own w base (.slice (some ⟨L.gr, 0, none⟩) M L.cr) (mapTo lf M)
  fa : 0 < J → L.fA = some ⟨L.g, 0, none⟩
  fl : 0 < J → Mat w base L.g L.cf J M L.Bk L.Ck fl
  ma : 0 < J → L.mA = some ⟨L.gm, 0, none⟩
  mh : 0 < J → w.ownsRow base 112 1 (.slice (some ⟨L.gm, 0, none⟩) J L.cm) J ((List.range J).map fun j => Value.slice (some ⟨L.Bm j, 0, none⟩) M (L.Cm j))
  mr : ∀ j, j < J → w.ownsRow base 4 1 (.slice (some ⟨L.Bm j, 0, none⟩) M (L.Cm j)) M (boolRow M (may j))
  a1 : 0 < J → L.gn ≠ L.gr
  a2 : ∀ j, j < J → L.Bk j ≠ L.gn ∧ L.Bk j ≠ L.gr
theorem own_eq {w : World} {base n c : Nat} {A B : Option Addr} {xs : List Int} (h : Own w base (.slice A n c) xs) (e : A = B) : Own w base (.slice B n c) xs := e ▸ h
theorem slb {b n c k : Nat} (h : (Value.slice (some ⟨b, 0, none⟩) n c).ownBlock = some k) : b = k := by simpa [Value.ownBlock] using h
theorem NetS.kp {w w' : World} {base : Nat} {L : NetL} {J M : Nat} {nl lf : Nat → Int} {fl : Nat → Nat → Int} {may : Nat → Nat → Bool} (h : NetS w base L J M nl lf fl may) (hk : Kp w w') : NetS w' base L J M nl lf fl may :=
  ⟨fun hj => (h.nd hj).kp hk, h.na, h.rm.kp hk, h.fa, fun hj => (h.fl hj).kp hk, h.ma, fun hj => hk.own (h.mh hj), fun j hj => hk.own (h.mr j hj), h.a1, h.a2⟩
theorem NetS.hcell {w : World} {base : Nat} {L : NetL} {J M : Nat} {nl lf : Nat → Int} {fl : Nat → Nat → Int} {may : Nat → Nat → Bool} (h : NetS w base L J M nl lf fl may) {j : Nat} (hj : j < J) :
    w.cell? ⟨L.gm, j, none⟩ = some (.slice (some ⟨L.Bm j, 0, none⟩) M (L.Cm j)) ∧ ∀ a, a < M → w.cell? ⟨L.Bm j, a, none⟩ = some (.bool (may j a)) := by
  constructor
  · have := World.ownsRow.cells (h.mh (by omega)) (g := L.gm) rfl j (Value.slice (some ⟨L.Bm j, 0, none⟩) M (L.Cm j)) (by simp [hj])
    rwa [add0] at this
  · intro a ha
    have := World.ownsRow.cells (h.mr j hj) (g := L.Bm j) rfl a (.bool (may j a)) (by simp [boolRow, ha])
    rwa [add0] at this
/-- A need is written. -/
theorem NetS.setNeed {w : World} {base : Nat} {L : NetL} {J M : Nat} {nl lf : Nat → Int} {fl : Nat → Nat → Int} {may : Nat → Nat → Bool} (h : NetS w base L J M nl lf fl may) {j : Nat} (hj : j < J) :
    w.cell? ⟨L.gn, j, none⟩ = some (.int .i64 (nl j)) ∧ w.frozen? ⟨L.gn, j, none⟩ = false ∧ base ≤ L.gn ∧
    ∀ z : Int, NetS (w.setCell ⟨L.gn, j, none⟩ (.int .i64 z)) base L J M (upd nl j z) lf fl may ∧ Turn (fun i => i = L.gn) w (w.setCell ⟨L.gn, j, none⟩ (.int .i64 z)) := by
  have hJ : 0 < J := by omega
  have ho := h.nd hJ
  obtain ⟨c1, c2, c3⟩ := ho.slotL (mapTo_len _ _) hj
  rw [mapTo_lget hj] at c1
  have hne : ∀ {e : TypeId} {v : Value} {n : Nat} {hs : List Value} {b : Nat}, w.ownsRow base e 1 v n hs → 3 ≠ e → v.ownBlock = some b → b ≠ L.gn := fun h2 h3 h4 e => own_blocks_ne ho h2 h3 (g := L.gn) rfl (by rw [h4, e])
  refine ⟨c1, c2, (ho.lt L.gn rfl).1, fun z => ?_⟩
  obtain ⟨o1, t1⟩ := c3 z
  rw [mapTo_set] at o1
  have hf := h.fl hJ
  refine ⟨⟨fun _ => o1, h.na, h.rm.other t1 (Ne.symm (h.a1 hJ)), h.fa, fun _ => hf.turn t1 (hne hf.hd (by decide) rfl) (fun i hi => (h.a2 i hi).1), h.ma,
    fun _ => own_turn (h.mh hJ) t1 (fun b hb => hne (h.mh hJ) (by decide) hb), fun i hi => own_turn (h.mr i hi) t1 (fun b hb => hne (h.mr i hi) (by decide) hb), h.a1, h.a2⟩, t1⟩
/-- A room is written. -/
theorem NetS.setRoom {w : World} {base : Nat} {L : NetL} {J M : Nat} {nl lf : Nat → Int} {fl : Nat → Nat → Int} {may : Nat → Nat → Bool} (h : NetS w base L J M nl lf fl may) {a : Nat} (ha : a < M) :
    w.cell? ⟨L.gr, a, none⟩ = some (.int .i64 (lf a)) ∧ w.frozen? ⟨L.gr, a, none⟩ = false ∧ base ≤ L.gr ∧
    ∀ z : Int, NetS (w.setCell ⟨L.gr, a, none⟩ (.int .i64 z)) base L J M nl (upd lf a z) fl may ∧ Turn (fun i => i = L.gr) w (w.setCell ⟨L.gr, a, none⟩ (.int .i64 z)) := by
  obtain ⟨c1, c2, c3⟩ := h.rm.slotL (mapTo_len _ _) ha
  rw [mapTo_lget ha] at c1
  have hne : ∀ {e : TypeId} {v : Value} {n : Nat} {hs : List Value} {b : Nat}, w.ownsRow base e 1 v n hs → 3 ≠ e → v.ownBlock = some b → b ≠ L.gr := fun h2 h3 h4 e => own_blocks_ne h.rm h2 h3 (g := L.gr) rfl (by rw [h4, e])
  refine ⟨c1, c2, (h.rm.lt L.gr rfl).1, fun z => ?_⟩
  obtain ⟨o1, t1⟩ := c3 z
  rw [mapTo_set] at o1
  exact ⟨⟨fun hJ => (h.nd hJ).other t1 (h.a1 hJ), h.na, o1, h.fa, fun hJ => (h.fl hJ).turn t1 (hne (h.fl hJ).hd (by decide) rfl) (fun i hi => (h.a2 i hi).2), h.ma,
    fun hJ => own_turn (h.mh hJ) t1 (fun b hb => hne (h.mh hJ) (by decide) hb), fun i hi => own_turn (h.mr i hi) t1 (fun b hb => hne (h.mr i hi) (by decide) hb), h.a1, h.a2⟩, t1⟩
/-- A number of the flow is written. -/
theorem NetS.setFlow {w : World} {base : Nat} {L : NetL} {J M : Nat} {nl lf : Nat → Int} {fl : Nat → Nat → Int} {may : Nat → Nat → Bool} (h : NetS w base L J M nl lf fl may) {j a : Nat} (hj : j < J) (ha : a < M) :
    w.cell? ⟨L.g, j, none⟩ = some (.slice (some ⟨L.Bk j, 0, none⟩) M (L.Ck j)) ∧ w.cell? ⟨L.Bk j, a, none⟩ = some (.int .i64 (fl j a)) ∧ w.frozen? ⟨L.Bk j, a, none⟩ = false ∧ base ≤ L.Bk j ∧
    ∀ z : Int, NetS (w.setCell ⟨L.Bk j, a, none⟩ (.int .i64 z)) base L J M nl lf (upd2 fl j a z) may ∧ Turn (fun i => i = L.Bk j) w (w.setCell ⟨L.Bk j, a, none⟩ (.int .i64 z)) := by
  have hJ : 0 < J := by omega
  obtain ⟨c1, c2, c3⟩ := (h.fl hJ).cell hj ha
  have ho := (h.fl hJ).row j hj
  have hne : ∀ {e : TypeId} {v : Value} {n : Nat} {hs : List Value} {b : Nat}, w.ownsRow base e 1 v n hs → 3 ≠ e → v.ownBlock = some b → b ≠ L.Bk j := fun h2 h3 h4 e => own_blocks_ne ho h2 h3 (g := L.Bk j) rfl (by rw [h4, e])
  refine ⟨(h.fl hJ).hcell hj, c1, c2, ((h.fl hJ).lt hj).1, fun z => ?_⟩
  obtain ⟨m1, t1⟩ := c3 z
  exact ⟨⟨fun _ => (h.nd hJ).other t1 (Ne.symm (h.a2 j hj).1), h.na, h.rm.other t1 (Ne.symm (h.a2 j hj).2), h.fa, fun _ => m1, h.ma,
    fun _ => own_turn (h.mh hJ) t1 (fun b hb => hne (h.mh hJ) (by decide) hb), fun i hi => own_turn (h.mr i hi) t1 (fun b hb => hne (h.mr i hi) (by decide) hb), h.a1, h.a2⟩, t1⟩
def NetL.val (L : NetL) (J M : Nat) : Value := .agg #[.slice L.nA J L.cn, .slice (some ⟨L.gr, 0, none⟩) M L.cr, .slice L.fA J L.cf, .slice L.mA J L.cm]
/-- The reference's labels in memory. -/
structure LabM (w : World) (base gc gs gb gf J M : Nat) (cl si be fr : List Int) : Prop where
  oc : Own w base (.slice (some ⟨gc, 0, none⟩) J J) cl
  os : Own w base (.slice (some ⟨gs, 0, none⟩) M M) si
  ob : Own w base (.slice (some ⟨gb, 0, none⟩) J J) be
  of : Own w base (.slice (some ⟨gf, 0, none⟩) M M) fr
  ne : gc ≠ gs ∧ gc ≠ gb ∧ gc ≠ gf ∧ gs ≠ gb ∧ gs ≠ gf ∧ gb ≠ gf
theorem LabM.kp {w w' : World} {base gc gs gb gf J M : Nat} {cl si be fr : List Int} (h : LabM w base gc gs gb gf J M cl si be fr) (hk : Kp w w') : LabM w' base gc gs gb gf J M cl si be fr :=
  ⟨h.oc.kp hk, h.os.kp hk, h.ob.kp hk, h.of.kp hk, h.ne⟩
theorem own_made' {w : World} (base n k : Nat) (hk : w.heap.size = k) (hb : base ≤ k) (hn : n ≤ 1000) : Own (w.alloc (.cells (madeCells #[.int .i64 0] n) 3)) base (.slice (some ⟨k, 0, none⟩) n n) (List.replicate n 0) := by
  subst hk; exact own_made w base n hb (by omega)
end Go.Proofs.YtpiijhfjliolfaaGreat

namespace Go.Proofs.YtpiijhfjliolfaaGreat
open Go.RowKit Go.Sort

section
variable {P : Program} {md : Region.Mode} {ops : Array Oper} {Q : Exit → Act → World → Prop} {S : World → Prop}
theorem unl_lt {listed : Array Bool} {i : Nat} (h : listed.getD i true = false) : (listed.setIfInBounds i true).toList.count false < listed.toList.count false := by
  obtain ⟨l⟩ := listed
  have hi : i < l.length := by
    rcases Nat.lt_or_ge i l.length with h' | h'
    · exact h'
    · exfalso
      have : (⟨l⟩ : Array Bool).getD i true = true := by
        rw [Array.getD, dif_neg (by simpa using h')]
      rw [this] at h; cases h
  have hv : l[i] = false := by simpa [Array.getD, hi] using h
  have hc : 0 < l.count false := List.count_pos_iff.2 (hv ▸ List.getElem_mem hi)
  simp only [List.setIfInBounds_toArray]
  rw [List.count_set hi]
  simp [hv]
  omega
/-- An invariant of what is listed, of the frame and of the world, kept by each operation that may come up. -/
theorem wpAnyH_inv {I : Array Bool → Act → World → Prop}
    (step : ∀ (i : Nat) (o : Oper) (listed : Array Bool) (a : Act) (w : World), ops[i]? = some o → listed.getD i true = false → (∀ e ∈ o.after, Region.binds md e = true → listed.getD e.on false = true) → I listed a w →
      ∀ K : Act → World → Prop, Shut (∀ a' w', S w' → I (listed.setIfInBounds i true) a' w' → K a' w') → if Region.wanted o (yielded ops a.tmps) = true then Oper.wp P o a w K Q else K (a.put o.dst undef) w)
    (done : ∀ listed a w, Region.ready md ops listed = [] → I listed a w → Q .normal a w) :
    ∀ (fuel : Nat) (listed : Array Bool) (a : Act) (w : World), listed.toList.count false ≤ fuel → I listed a w → wpAnyH P md ops Q S fuel listed a w := by
  intro fuel
  induction fuel with
  | zero =>
    intro listed a w hc hI
    have hr : Region.ready md ops listed = [] := by
      rw [List.eq_nil_iff_forall_not_mem]
      intro i hi
      have := unl_lt (mem_ready.1 hi).1
      omega
    exact ⟨hr, done _ _ _ hr hI⟩
  | succ fuel ih =>
    intro listed a w hc hI
    refine ⟨fun hr => done _ _ _ hr hI, fun i hi => ?_⟩
    obtain ⟨h0, o, ho, hall⟩ := mem_ready.1 hi
    have hlt := unl_lt h0
    exact wpOp_step ho (fun K' hK => step i o listed a w ho h0 hall hI K' (fun a' w' hS hI' => hK a' w' ⟨hS, ih _ a' w' (by omega) hI'⟩))
/-- The frame at hand gets a name. -/
theorem wpAnyH_act {fuel : Nat} {listed : Array Bool} {a : Act} {w : World} (h : ∀ a0, a0 = a → wpAnyH P md ops Q S fuel listed a0 w) : wpAnyH P md ops Q S fuel listed a w := h a rfl
end
/-- a is as a0 but for the slots ds. -/
def SameBut (ds : List Nat) (a0 a : Act) : Prop := a.defers = a0.defers ∧ a.tmps.size = a0.tmps.size ∧ ∀ k, k ∉ ds → a.tmps.getD k undef = a0.tmps.getD k undef
theorem SameBut.refl (ds : List Nat) (a : Act) : SameBut ds a a := ⟨rfl, rfl, fun _ _ => rfl⟩
theorem put_slot (a : Act) (d k : Nat) (v : Value) : (a.put (some d) v).tmps.getD k undef = if d = k ∧ d < a.tmps.size then v else a.tmps.getD k undef := by
  unfold Act.put
  by_cases h : d = k
  · subst h
    by_cases h2 : d < a.tmps.size
    · simp [h2]
    · simp [h2]
  · simp [h, Array.getElem?_setIfInBounds_ne h]
theorem SameBut.put {ds : List Nat} {a0 a : Act} {d : Nat} {v : Value} (h : SameBut ds a0 a) (hd : d ∈ ds) : SameBut ds a0 (a.put (some d) v) :=
  ⟨h.1, by simpa [Act.put] using h.2.1, fun k hk => by
    have e : d ≠ k := fun e => hk (e ▸ hd)
    rw [put_slot, if_neg (fun x => e x.1)]; exact h.2.2 k hk⟩
theorem act_ext {a b : Act} (hd : a.defers = b.defers) (hs : a.tmps.size = b.tmps.size) (h : ∀ k, a.tmps.getD k undef = b.tmps.getD k undef) : a = b := by
  obtain ⟨x, _⟩ := a; obtain ⟨y, _⟩ := b
  simp only at hd hs h
  subst hd
  congr 1
  apply Array.ext hs
  intro i h1 h2
  simpa [Array.getD, h1, h2] using h i
/-- The frame anew, out of what its slots hold. -/
theorem SameBut.eq {ds : List Nat} {a0 a : Act} (h : SameBut ds a0 a) (hl : ∀ d ∈ ds, d < a0.tmps.size) : a = ds.foldl (fun b d => b.put (some d) (a.tmps.getD d undef)) a0 := by
  have key : ∀ (l : List Nat) (b : Act), (∀ d ∈ l, d < b.tmps.size) → b.defers = a.defers → b.tmps.size = a.tmps.size → (∀ k, k ∉ l → b.tmps.getD k undef = a.tmps.getD k undef) →
      a = l.foldl (fun b d => b.put (some d) (a.tmps.getD d undef)) b := by
    intro l
    induction l with
    | nil => intro b _ h1 h2 h3; exact act_ext h1.symm h2.symm (fun k => (h3 k (by simp)).symm)
    | cons d l ih =>
      intro b hb h1 h2 h3
      rw [List.foldl_cons]
      have hbs : (b.put (some d) (a.tmps.getD d undef)).tmps.size = b.tmps.size := by simp [Act.put]
      refine ih _ (fun e he => by rw [hbs]; exact hb e (List.mem_cons_of_mem _ he)) h1 (by rw [hbs]; exact h2) (fun k hk => ?_)
      rw [put_slot]
      split
      · rename_i e; rw [e.1]
      · rename_i e
        refine h3 k (fun hm => ?_)
        rcases List.mem_cons.1 hm with rfl | hm
        · exact e ⟨rfl, hb k (by simp)⟩
        · exact hk hm
  exact key ds a0 hl h.1.symm h.2.1.symm (fun k hk => (h.2.2 k hk).symm)
end Go.Proofs.YtpiijhfjliolfaaGreat

namespace Go.Proofs.YtpiijhfjliolfaaGreat
open Go.RowKit Go.Sort

def blkV : Value → Nat
  | .slice (some x) _ _ => x.block
  | .pointer (some x) => x.block
  | _ => 0
def onL (listed : Array Bool) (k : Nat) : Prop := listed.getD k false = true
theorem onL_set {listed : Array Bool} {i k : Nat} (h : onL (listed.setIfInBounds i true) k) : k = i ∨ onL listed k := by
  by_cases e : k = i
  · exact .inl e
  · right
    unfold onL at h ⊢
    simpa [Array.getD_eq_getD_getElem?, Array.getElem?_setIfInBounds_ne (Ne.symm e)] using h
theorem onL_mono {listed : Array Bool} {i k : Nat} (h : onL listed k) : onL (listed.setIfInBounds i true) k := by
  unfold onL at h ⊢
  by_cases e : i = k
  · subst e
    have hs : i < listed.size := by
      rcases Nat.lt_or_ge i listed.size with h' | h'
      · exact h'
      · rw [Array.getD_eq_getD_getElem?, Array.getElem?_eq_none h'] at h; cases h
    simp [hs]
  · simpa [Array.getD_eq_getD_getElem?, Array.getElem?_setIfInBounds_ne e] using h
theorem onL_not {listed : Array Bool} {i k : Nat} (h0 : listed.getD i true = false) (h : onL listed k) : k ≠ i := by
  rintro rfl
  unfold onL at h
  rw [Array.getD_eq_getD_getElem?] at h h0
  cases hx : listed[k]? <;> simp [hx] at h h0
  rw [h] at h0; cases h0
def slotV (a : Act) (k : Nat) : Value := a.tmps.getD k undef
theorem slotV_put {a : Act} {d k : Nat} {v : Value} (hd : d < a.tmps.size) : slotV (a.put (some d) v) k = if k = d then v else slotV a k := by
  unfold slotV
  rw [put_slot]
  by_cases e : d = k
  · subst e; rw [if_pos ⟨rfl, hd⟩, if_pos rfl]
  · rw [if_neg (fun h => e h.1), if_neg (fun h => e h.symm)]
/-- One row: which operation makes it, into which slot, how long. -/
def rowsL (J M : Nat) : List (Nat × Nat × Nat) := [(3, 15, J), (7, 19, M), (11, 23, J), (15, 27, M)]
def objsL : List (Nat × Nat) := [(3, 15), (7, 19), (11, 23), (15, 27), (17, 5)]
structure RI (wb : World) (J M : Nat) (a0 : Act) (listed : Array Bool) (a : Act) (w : World) : Prop where
  sz : listed.size = 19
  took : ∀ k ∈ [0, 1, 2, 4, 5, 6, 8, 9, 10, 12, 13, 14], onL listed k
  same : SameBut [15, 19, 23, 27, 28, 5] a0 a
  kp : Kp wb w
  arr : ∀ k s n, (k, s, n) ∈ rowsL J M → onL listed k → ∃ g, slotV a s = .slice (some ⟨g, 0, none⟩) n n ∧ Own w wb.heap.size (.slice (some ⟨g, 0, none⟩) n n) (List.replicate n 0)
  ptr : onL listed 17 → ∃ bp, slotV a 5 = .pointer (some ⟨bp, 0, none⟩) ∧ wb.heap.size ≤ bp ∧ bp < w.heap.size ∧ w.there bp 0 4
  apart : ∀ k s k' s', (k, s) ∈ objsL → (k', s') ∈ objsL → s ≠ s' → onL listed k → onL listed k' → blkV (slotV a s) ≠ blkV (slotV a s')
  agg : onL listed 16 → slotV a 28 = .agg #[slotV a 15, slotV a 19, slotV a 23, slotV a 27]
  d16 : onL listed 16 → onL listed 3 ∧ onL listed 7 ∧ onL listed 11 ∧ onL listed 15
  st : onL listed 18 → w.rangeAt (blkV (slotV a 5)) 0 [slotV a 15, slotV a 19, slotV a 23, slotV a 27]
  d18 : onL listed 18 → onL listed 16 ∧ onL listed 17
theorem RI.size {wb : World} {J M : Nat} {a0 : Act} {listed : Array Bool} {a : Act} {w : World} (h : RI wb J M a0 listed a w) : a.tmps.size = a0.tmps.size := h.same.2.1
theorem RI.blt {wb : World} {J M : Nat} {a0 : Act} {listed : Array Bool} {a : Act} {w : World} (h : RI wb J M a0 listed a w) {k s : Nat} (hm : (k, s) ∈ objsL) (ho : onL listed k) : blkV (slotV a s) < w.heap.size := by
  have row : ∀ n, (k, s, n) ∈ rowsL J M → blkV (slotV a s) < w.heap.size := fun n hr => by
    obtain ⟨g, e, o⟩ := h.arr k s n hr ho
    rw [e]; exact (o.lt g rfl).2
  simp only [objsL, List.mem_cons, List.not_mem_nil, or_false, Prod.mk.injEq] at hm
  rcases hm with ⟨rfl, rfl⟩ | ⟨rfl, rfl⟩ | ⟨rfl, rfl⟩ | ⟨rfl, rfl⟩ | ⟨rfl, rfl⟩
  · exact row J (by simp [rowsL])
  · exact row M (by simp [rowsL])
  · exact row J (by simp [rowsL])
  · exact row M (by simp [rowsL])
  · obtain ⟨bp, e, _, h3, _⟩ := h.ptr ho
    rw [e]; exact h3
theorem objs_slot {k s k' : Nat} (h : (k, s) ∈ objsL) (h' : (k', s) ∈ objsL) : k = k' := by
  simp only [objsL, List.mem_cons, List.not_mem_nil, or_false, Prod.mk.injEq] at h h'
  omega
theorem objs_op {k s s' : Nat} (h : (k, s) ∈ objsL) (h' : (k, s') ∈ objsL) : s = s' := by
  simp only [objsL, List.mem_cons, List.not_mem_nil, or_false, Prod.mk.injEq] at h h'
  omega
theorem rows_objs {J M k s n : Nat} (h : (k, s, n) ∈ rowsL J M) : (k, s) ∈ objsL := by
  simp only [rowsL, List.mem_cons, List.not_mem_nil, or_false, Prod.mk.injEq] at h
  simp only [objsL, List.mem_cons, List.not_mem_nil, or_false, Prod.mk.injEq]
  omega
theorem rows_len {J M k s n n' : Nat} (h : (k, s, n) ∈ rowsL J M) (h' : (k, s, n') ∈ rowsL J M) : n = n' := by
  simp only [rowsL, List.mem_cons, List.not_mem_nil, or_false, Prod.mk.injEq] at h h'
  omega
theorem there_kp {w w' : World} {b n : Nat} (h : w.there b 0 n) (hk : Kp w w') : w'.there b 0 n := fun j hj => by
  obtain ⟨h1, h2⟩ := h j hj
  obtain ⟨v, hv⟩ := Option.isSome_iff_exists.1 h1
  exact ⟨by rw [hk.get hv]; rfl, by rw [hk.froz hv]; exact h2⟩
theorem range_kp {w w' : World} {b o : Nat} {cs : List Value} (h : w.rangeAt b o cs) (hk : Kp w w') : w'.rangeAt b o cs := fun j v hv => hk.get (h j v hv)
/-- A new object comes up. -/
theorem RI.new {wb : World} {J M : Nat} {a0 : Act} {listed : Array Bool} {a : Act} {w w' : World} {k s : Nat} {v : Value} (h : RI wb J M a0 listed a w) (hsz : a0.tmps.size = 180) (h0 : listed.getD k true = false) (hm : (k, s) ∈ objsL) (hk : Kp w w') (hb : blkV v = w.heap.size) (hlt : w.heap.size < w'.heap.size)
    (har : ∀ n, (k, s, n) ∈ rowsL J M → v = .slice (some ⟨w.heap.size, 0, none⟩) n n ∧ Own w' wb.heap.size (.slice (some ⟨w.heap.size, 0, none⟩) n n) (List.replicate n 0))
    (hpt : k = 17 → v = .pointer (some ⟨w.heap.size, 0, none⟩) ∧ w'.there w.heap.size 0 4) : RI wb J M a0 (listed.setIfInBounds k true) (a.put (some s) v) w' := by
  have hs28 : s < 28 := by
    simp only [objsL, List.mem_cons, List.not_mem_nil, or_false, Prod.mk.injEq] at hm; omega
  have hss : s < a.tmps.size := by rw [h.size, hsz]; omega
  have hk16 : k ≠ 16 ∧ k ≠ 18 := by
    simp only [objsL, List.mem_cons, List.not_mem_nil, or_false, Prod.mk.injEq] at hm; omega
  have keep : ∀ s', s' ≠ s → slotV (a.put (some s) v) s' = slotV a s' := fun s' e => by rw [slotV_put hss, if_neg e]
  have kself : slotV (a.put (some s) v) s = v := by rw [slotV_put hss, if_pos rfl]
  have o16 : onL (listed.setIfInBounds k true) 16 → onL listed 16 := fun ho => by
    rcases onL_set ho with e | e
    · exact absurd e.symm hk16.1
    · exact e
  have o18 : onL (listed.setIfInBounds k true) 18 → onL listed 18 := fun ho => by
    rcases onL_set ho with e | e
    · exact absurd e.symm hk16.2
    · exact e
  have nots : ∀ {k' s'}, (k', s') ∈ objsL → onL listed k' → s' ≠ s := fun {k' s'} hm' ho e => by
    subst e
    exact onL_not h0 ho (objs_slot hm' hm)
  refine ⟨by simpa using h.sz, fun k' hk' => onL_mono (h.took k' hk'), h.same.put (by
    simp only [objsL, List.mem_cons, List.not_mem_nil, or_false, Prod.mk.injEq] at hm
    simp only [List.mem_cons, List.not_mem_nil, or_false]; omega), h.kp.trans hk, ?_, ?_, ?_, ?_, ?_, ?_, ?_⟩
  · intro k' s' n hr ho
    by_cases e : k' = k
    · subst e
      have es : s' = s := objs_op (rows_objs hr) hm
      subst es
      obtain ⟨e1, e2⟩ := har n hr
      exact ⟨w.heap.size, by rw [kself, e1], e2⟩
    · have ho' : onL listed k' := (onL_set ho).resolve_left e
      obtain ⟨g, e1, e2⟩ := h.arr k' s' n hr ho'
      exact ⟨g, by rw [keep s' (nots (rows_objs hr) ho')]; exact e1, e2.kp hk⟩
  · intro ho
    by_cases e : 17 = k
    · subst e
      have es : s = 5 := objs_op hm (by simp [objsL])
      subst es
      obtain ⟨e1, e2⟩ := hpt rfl
      exact ⟨w.heap.size, by rw [kself, e1], h.kp.le, hlt, e2⟩
    · have ho' : onL listed 17 := (onL_set ho).resolve_left e
      obtain ⟨bp, e1, e2, e3, e4⟩ := h.ptr ho'
      exact ⟨bp, by rw [keep 5 (nots (k' := 17) (by simp [objsL]) ho')]; exact e1, e2, by omega, there_kp e4 hk⟩
  · intro k1 s1 k2 s2 m1 m2 hne o1 o2
    by_cases e1 : k1 = k
    · subst e1
      have es : s1 = s := objs_op m1 hm
      subst es
      by_cases e2 : k2 = k1
      · subst e2; exact absurd (objs_op m1 m2) hne
      · have o2' : onL listed k2 := (onL_set o2).resolve_left e2
        rw [kself, keep s2 (Ne.symm hne), hb]
        exact Nat.ne_of_gt (h.blt m2 o2')
    · have o1' : onL listed k1 := (onL_set o1).resolve_left e1
      by_cases e2 : k2 = k
      · subst e2
        have es : s2 = s := objs_op m2 hm
        subst es
        rw [kself, keep s1 hne, hb]
        exact Nat.ne_of_lt (h.blt m1 o1')
      · have o2' : onL listed k2 := (onL_set o2).resolve_left e2
        rw [keep s1 (nots m1 o1'), keep s2 (nots m2 o2')]
        exact h.apart k1 s1 k2 s2 m1 m2 hne o1' o2'
  · intro ho
    have ho' := o16 ho
    obtain ⟨a3, a7, a11, a15⟩ := h.d16 ho'
    rw [keep 28 (by omega), keep 15 (nots (k' := 3) (by simp [objsL]) a3), keep 19 (nots (k' := 7) (by simp [objsL]) a7), keep 23 (nots (k' := 11) (by simp [objsL]) a11), keep 27 (nots (k' := 15) (by simp [objsL]) a15)]
    exact h.agg ho'
  · intro ho
    obtain ⟨a3, a7, a11, a15⟩ := h.d16 (o16 ho)
    exact ⟨onL_mono a3, onL_mono a7, onL_mono a11, onL_mono a15⟩
  · intro ho
    have ho' := o18 ho
    obtain ⟨b16, b17⟩ := h.d18 ho'
    obtain ⟨a3, a7, a11, a15⟩ := h.d16 b16
    rw [keep 5 (nots (k' := 17) (by simp [objsL]) b17), keep 15 (nots (k' := 3) (by simp [objsL]) a3), keep 19 (nots (k' := 7) (by simp [objsL]) a7), keep 23 (nots (k' := 11) (by simp [objsL]) a11), keep 27 (nots (k' := 15) (by simp [objsL]) a15)]
    exact range_kp (h.st ho') hk
  · intro ho
    obtain ⟨b16, b17⟩ := h.d18 (o18 ho)
    exact ⟨onL_mono b16, onL_mono b17⟩
/-- The struct is put together. -/
theorem RI.build {wb : World} {J M : Nat} {a0 : Act} {listed : Array Bool} {a : Act} {w : World} (h : RI wb J M a0 listed a w) (hsz : a0.tmps.size = 180) (h0 : listed.getD 16 true = false) (hd : onL listed 3 ∧ onL listed 7 ∧ onL listed 11 ∧ onL listed 15) :
    RI wb J M a0 (listed.setIfInBounds 16 true) (a.put (some 28) (.agg #[slotV a 15, slotV a 19, slotV a 23, slotV a 27])) w := by
  have hss : 28 < a.tmps.size := by rw [h.size, hsz]; omega
  have keep : ∀ s', s' ≠ 28 → slotV (a.put (some 28) (.agg #[slotV a 15, slotV a 19, slotV a 23, slotV a 27])) s' = slotV a s' := fun s' e => by rw [slotV_put hss, if_neg e]
  have kself : slotV (a.put (some 28) (.agg #[slotV a 15, slotV a 19, slotV a 23, slotV a 27])) 28 = .agg #[slotV a 15, slotV a 19, slotV a 23, slotV a 27] := by rw [slotV_put hss, if_pos rfl]
  have ob : ∀ {k s}, (k, s) ∈ objsL → s ≠ 28 ∧ k ≠ 16 := fun {k s} hm => by
    simp only [objsL, List.mem_cons, List.not_mem_nil, or_false, Prod.mk.injEq] at hm; omega
  have oth : ∀ {k s}, (k, s) ∈ objsL → onL (listed.setIfInBounds 16 true) k → onL listed k := fun hm ho => (onL_set ho).resolve_left (ob hm).2
  have o18 : onL (listed.setIfInBounds 16 true) 18 → onL listed 18 := fun ho => (onL_set ho).resolve_left (by omega)
  refine ⟨by simpa using h.sz, fun k' hk' => onL_mono (h.took k' hk'), h.same.put (by simp), h.kp, ?_, ?_, ?_, ?_, ?_, ?_, ?_⟩
  · intro k' s' n hr ho
    rw [keep s' (ob (rows_objs hr)).1]
    exact h.arr k' s' n hr (oth (rows_objs hr) ho)
  · intro ho
    rw [keep 5 (by omega)]
    exact h.ptr (oth (s := 5) (by simp [objsL]) ho)
  · intro k1 s1 k2 s2 m1 m2 hne o1 o2
    rw [keep s1 (ob m1).1, keep s2 (ob m2).1]
    exact h.apart k1 s1 k2 s2 m1 m2 hne (oth m1 o1) (oth m2 o2)
  · intro _
    rw [kself, keep 15 (by omega), keep 19 (by omega), keep 23 (by omega), keep 27 (by omega)]
  · intro _; exact ⟨onL_mono hd.1, onL_mono hd.2.1, onL_mono hd.2.2.1, onL_mono hd.2.2.2⟩
  · intro ho
    rw [keep 5 (by omega), keep 15 (by omega), keep 19 (by omega), keep 23 (by omega), keep 27 (by omega)]
    exact h.st (o18 ho)
  · intro ho
    obtain ⟨b16, b17⟩ := h.d18 (o18 ho)
    exact ⟨onL_mono b16, onL_mono b17⟩
theorem turn_cell (w : World) (p : Addr) (v : Value) : Turn (fun i => i = p.block) w (w.setCell p v) :=
  ⟨rfl, rfl, rfl, by simp [World.setCell], fun i _ hn => Below.heap_setCell _ _ _ _ (by exact hn)⟩
theorem size_setCells' (b : Nat) : ∀ (vs : List Value) (o : Nat) (w : World), (w.setCells b o vs).heap.size = w.heap.size
  | [], _, _ => rfl
  | v :: r, o, w => by rw [World.setCells, size_setCells' b r]; simp
theorem turn_setCells (b : Nat) : ∀ (vs : List Value) (o : Nat) (w : World), Turn (fun i => i = b) w (w.setCells b o vs)
  | [], _, w => Turn.refl _ w
  | v :: r, o, w => by
    rw [World.setCells]
    exact (turn_cell w ⟨b, o, none⟩ v).trans (turn_setCells b r (o + 1) _)
/-- The struct is stored. -/
theorem RI.store {wb : World} {J M : Nat} {a0 : Act} {listed : Array Bool} {a : Act} {w : World} (h : RI wb J M a0 listed a w) (h0 : listed.getD 18 true = false) (hd : onL listed 16 ∧ onL listed 17) {bp : Nat} (hbp : slotV a 5 = .pointer (some ⟨bp, 0, none⟩)) :
    RI wb J M a0 (listed.setIfInBounds 18 true) (a.put none undef) (w.setCells bp 0 [slotV a 15, slotV a 19, slotV a 23, slotV a 27]) := by
  have e0 : a.put none undef = a := rfl
  rw [e0]
  have ht := turn_setCells bp [slotV a 15, slotV a 19, slotV a 23, slotV a 27] 0 w
  obtain ⟨bp', e1, e2, e3, e4⟩ := h.ptr hd.2
  rw [hbp] at e1
  have eb : bp = bp' := by simpa using e1
  subst eb
  have oth : ∀ {k}, k ≠ 18 → onL (listed.setIfInBounds 18 true) k → onL listed k := fun hm ho => (onL_set ho).resolve_left hm
  have ob : ∀ {k s}, (k, s) ∈ objsL → k ≠ 18 := fun {k s} hm => by
    simp only [objsL, List.mem_cons, List.not_mem_nil, or_false, Prod.mk.injEq] at hm; omega
  refine ⟨by simpa using h.sz, fun k' hk' => onL_mono (h.took k' hk'), h.same, h.kp.turn ht (fun k e => by subst e; exact e2), ?_, ?_, ?_, ?_, ?_, ?_, ?_⟩
  · intro k' s' n hr ho
    have ho' := oth (ob (rows_objs hr)) ho
    obtain ⟨g, q1, q2⟩ := h.arr k' s' n hr ho'
    refine ⟨g, q1, q2.turn ht (fun k2 hk2 he => ?_)⟩
    have hap := h.apart k' s' 17 5 (rows_objs hr) (by simp [objsL]) (fun e => by
      subst e
      have := objs_slot (rows_objs hr) (k' := 17) (by simp [objsL])
      subst this
      simp [rowsL] at hr) ho' hd.2
    rw [q1, hbp] at hap
    have : g = k2 := by simpa [Value.ownBlock] using hk2
    subst this
    exact hap he
  · intro _
    exact ⟨bp, hbp, e2, by rw [size_setCells']; exact e3, World.there_setCells e4 bp 0 _⟩
  · intro k1 s1 k2 s2 m1 m2 hne o1 o2
    exact h.apart k1 s1 k2 s2 m1 m2 hne (oth (ob m1) o1) (oth (ob m2) o2)
  · intro ho; exact h.agg (oth (by omega) ho)
  · intro ho
    obtain ⟨a3, a7, a11, a15⟩ := h.d16 (oth (by omega) ho)
    exact ⟨onL_mono a3, onL_mono a7, onL_mono a11, onL_mono a15⟩
  · intro _
    rw [hbp]
    exact World.rangeAt_setCells_same w bp 0 _ e4
  · intro _; exact ⟨onL_mono hd.1, onL_mono hd.2⟩
theorem onL_of {listed : Array Bool} {i : Nat} (hs : i < listed.size) (h : ¬ listed.getD i true = false) : onL listed i := by
  unfold onL
  rw [Array.getD_eq_getD_getElem?] at h ⊢
  rw [Array.getElem?_eq_getElem hs] at h ⊢
  simpa using h
theorem there_new (w : World) (vs : Array Value) (t : TypeId) : (w.alloc (.cells vs t)).there w.heap.size 0 vs.size := fun j hj => by
  constructor
  · rw [World.cell?_alloc_at _ _ _ _ rfl]; simp [hj]
  · simp
theorem there_new' (w : World) (vs : Array Value) (t : TypeId) {n : Nat} (hn : w.heap.size = n) : (w.alloc (.cells vs t)).there n 0 vs.size := hn ▸ there_new w vs t
theorem ready_next {md : Region.Mode} {ops : Array Oper} {listed : Array Bool} {m : Nat} {o : Oper} (hr : Region.ready md ops listed = []) (hs : m < listed.size) (ho : ops[m]? = some o) (ha : o.after.all (fun e => decide (e.on < m)) = true) (hl : ∀ k, k < m → onL listed k) : onL listed m :=
  onL_of hs (fun h0 => by
    have hm : m ∈ Region.ready md ops listed := mem_ready.2 ⟨h0, o, ho, fun e he _ => hl e.on (of_decide_eq_true (Array.all_eq_true_iff_forall_mem.1 ha e he))⟩
    rw [hr] at hm; cases hm)
section
variable {P : Program}
theorem wp_make' {op : Oper} {a : Act} {w w' : World} {K : Act → World → Prop} {Q : Exit → Act → World → Prop} (t : TypeId) (l c : Operand) {n : Nat} {v : Value} (ho : op.op = .makeSlice t l c) (hl : a.eval l = .int .i64 (n : Int)) (hc : a.eval c = .int .i64 (n : Int))
    (hrun : (Instr.makeSlice t (.int .i64 (n : Int)) (.int .i64 (n : Int))).run P w = .ok v w') (h : K (a.put op.dst v) w') : op.wp P a w K Q := by
  unfold Oper.wp
  simp [execOp, ho, hl, hc, hrun, Result.andThen]
  exact h
end
end Go.Proofs.YtpiijhfjliolfaaGreat

namespace Go.Proofs.YtpiijhfjliolfaaGreat
open Go.RowKit Go.Sort

/-- The labels and the struct that holds them. -/
structure LSt (wb wr : World) (bp gc gs gb gf J M : Nat) (cl si be fr : List Int) : Prop where
  lab : LabM wr wb.heap.size gc gs gb gf J M cl si be fr
  rng : wr.rangeAt bp 0 [.slice (some ⟨gc, 0, none⟩) J J, .slice (some ⟨gs, 0, none⟩) M M, .slice (some ⟨gb, 0, none⟩) J J, .slice (some ⟨gf, 0, none⟩) M M]
  bne : bp ≠ gc ∧ bp ≠ gs ∧ bp ≠ gb ∧ bp ≠ gf
  kp : Kp wb wr
theorem range_set {w : World} {b o : Nat} {cs : List Value} (h : w.rangeAt b o cs) {p : Addr} (hne : b ≠ p.block) (v : Value) : (w.setCell p v).rangeAt b o cs := fun j v' hv => by
  rw [World.cell?_setCell_other _ _ _ _ (fun e => hne (by rw [e]))]; exact h j v' hv
theorem LSt.fld {wb wr : World} {bp gc gs gb gf J M : Nat} {cl si be fr : List Int} (h : LSt wb wr bp gc gs gb gf J M cl si be fr) :
    wr.cell? ⟨bp, 0, none⟩ = some (.slice (some ⟨gc, 0, none⟩) J J) ∧ wr.cell? ⟨bp, 1, none⟩ = some (.slice (some ⟨gs, 0, none⟩) M M) ∧ wr.cell? ⟨bp, 2, none⟩ = some (.slice (some ⟨gb, 0, none⟩) J J) ∧ wr.cell? ⟨bp, 3, none⟩ = some (.slice (some ⟨gf, 0, none⟩) M M) :=
  ⟨h.rng 0 _ rfl, h.rng 1 _ rfl, h.rng 2 _ rfl, h.rng 3 _ rfl⟩
theorem LSt.go {wb wr wr' : World} {bp gc gs gb gf J M : Nat} {cl si be fr : List Int} (h : LSt wb wr bp gc gs gb gf J M cl si be fr) (hk : Kp wr wr') : LSt wb wr' bp gc gs gb gf J M cl si be fr :=
  ⟨h.lab.kp hk, range_kp h.rng hk, h.bne, h.kp.trans hk⟩
theorem LSt.setC {wb wr : World} {bp gc gs gb gf J M : Nat} {cl si be fr : List Int} (h : LSt wb wr bp gc gs gb gf J M cl si be fr) (hl : cl.length = J) {j : Nat} (hj : j < J) :
    wr.cell? ⟨gc, j, none⟩ = some (.int .i64 (lget cl j)) ∧ wr.frozen? ⟨gc, j, none⟩ = false ∧ ∀ z : Int, LSt wb (wr.setCell ⟨gc, j, none⟩ (.int .i64 z)) bp gc gs gb gf J M (cl.set j z) si be fr := by
  obtain ⟨c1, c2, c3⟩ := h.lab.oc.slotL hl hj
  obtain ⟨n1, n2, n3, n4, n5, n6⟩ := h.lab.ne
  refine ⟨c1, c2, fun z => ?_⟩
  obtain ⟨o1, t1⟩ := c3 z
  have hb := (h.lab.oc.lt gc rfl).1
  exact ⟨⟨o1, h.lab.os.other t1 (Ne.symm n1), h.lab.ob.other t1 (Ne.symm n2), h.lab.of.other t1 (Ne.symm n3), h.lab.ne⟩, range_set h.rng h.bne.1 _, h.bne, h.kp.turn t1 (fun k e => by subst e; exact hb)⟩
theorem LSt.setS {wb wr : World} {bp gc gs gb gf J M : Nat} {cl si be fr : List Int} (h : LSt wb wr bp gc gs gb gf J M cl si be fr) (hl : si.length = M) {j : Nat} (hj : j < M) :
    wr.cell? ⟨gs, j, none⟩ = some (.int .i64 (lget si j)) ∧ wr.frozen? ⟨gs, j, none⟩ = false ∧ ∀ z : Int, LSt wb (wr.setCell ⟨gs, j, none⟩ (.int .i64 z)) bp gc gs gb gf J M cl (si.set j z) be fr := by
  obtain ⟨c1, c2, c3⟩ := h.lab.os.slotL hl hj
  obtain ⟨n1, n2, n3, n4, n5, n6⟩ := h.lab.ne
  refine ⟨c1, c2, fun z => ?_⟩
  obtain ⟨o1, t1⟩ := c3 z
  have hb := (h.lab.os.lt gs rfl).1
  exact ⟨⟨h.lab.oc.other t1 n1, o1, h.lab.ob.other t1 (Ne.symm n4), h.lab.of.other t1 (Ne.symm n5), h.lab.ne⟩, range_set h.rng h.bne.2.1 _, h.bne, h.kp.turn t1 (fun k e => by subst e; exact hb)⟩
theorem LSt.setB {wb wr : World} {bp gc gs gb gf J M : Nat} {cl si be fr : List Int} (h : LSt wb wr bp gc gs gb gf J M cl si be fr) (hl : be.length = J) {j : Nat} (hj : j < J) :
    wr.cell? ⟨gb, j, none⟩ = some (.int .i64 (lget be j)) ∧ wr.frozen? ⟨gb, j, none⟩ = false ∧ ∀ z : Int, LSt wb (wr.setCell ⟨gb, j, none⟩ (.int .i64 z)) bp gc gs gb gf J M cl si (be.set j z) fr := by
  obtain ⟨c1, c2, c3⟩ := h.lab.ob.slotL hl hj
  obtain ⟨n1, n2, n3, n4, n5, n6⟩ := h.lab.ne
  refine ⟨c1, c2, fun z => ?_⟩
  obtain ⟨o1, t1⟩ := c3 z
  have hb := (h.lab.ob.lt gb rfl).1
  exact ⟨⟨h.lab.oc.other t1 n2, h.lab.os.other t1 n4, o1, h.lab.of.other t1 (Ne.symm n6), h.lab.ne⟩, range_set h.rng h.bne.2.2.1 _, h.bne, h.kp.turn t1 (fun k e => by subst e; exact hb)⟩
theorem LSt.setF {wb wr : World} {bp gc gs gb gf J M : Nat} {cl si be fr : List Int} (h : LSt wb wr bp gc gs gb gf J M cl si be fr) (hl : fr.length = M) {j : Nat} (hj : j < M) :
    wr.cell? ⟨gf, j, none⟩ = some (.int .i64 (lget fr j)) ∧ wr.frozen? ⟨gf, j, none⟩ = false ∧ ∀ z : Int, LSt wb (wr.setCell ⟨gf, j, none⟩ (.int .i64 z)) bp gc gs gb gf J M cl si be (fr.set j z) := by
  obtain ⟨c1, c2, c3⟩ := h.lab.of.slotL hl hj
  obtain ⟨n1, n2, n3, n4, n5, n6⟩ := h.lab.ne
  refine ⟨c1, c2, fun z => ?_⟩
  obtain ⟨o1, t1⟩ := c3 z
  have hb := (h.lab.of.lt gf rfl).1
  exact ⟨⟨h.lab.oc.other t1 n3, h.lab.os.other t1 n5, h.lab.ob.other t1 n6, o1, h.lab.ne⟩, range_set h.rng h.bne.2.2.2 _, h.bne, h.kp.turn t1 (fun k e => by subst e; exact hb)⟩
theorem LSt.sum {wb wr : World} {bp gc gs gb gf J M : Nat} {cl si be fr : List Int} (h : LSt wb wr bp gc gs gb gf J M cl si be fr) (hc : cl.length = J) (hs : si.length = M) (hJ : J ≤ 1000) (hM : M ≤ 1000) : memSum wr gc J + memSum wr gs M = sumTo (lget cl) J + sumTo (lget si) M := by
  obtain ⟨A, c, e, hi⟩ := h.lab.oc.ints (by omega)
  simp only [Value.slice.injEq] at e
  obtain ⟨e, _, _⟩ := e
  rw [← e] at hi
  obtain ⟨A2, c2, e2, hi2⟩ := h.lab.os.ints (by omega)
  simp only [Value.slice.injEq] at e2
  obtain ⟨e2, _, _⟩ := e2
  rw [← e2] at hi2
  rw [memSum_ints hi hc, memSum_ints hi2 hs]
theorem LabM.mono {w : World} {base base' gc gs gb gf J M : Nat} {cl si be fr : List Int} (h : LabM w base gc gs gb gf J M cl si be fr) (hb : base' ≤ base) : LabM w base' gc gs gb gf J M cl si be fr :=
  ⟨h.oc.mono hb, h.os.mono hb, h.ob.mono hb, h.of.mono hb, h.ne⟩
theorem LabM.turn {w w' : World} {base gc gs gb gf J M : Nat} {cl si be fr : List Int} {b : Nat} (h : LabM w base gc gs gb gf J M cl si be fr) (ht : Turn (fun i => i = b) w w') (hb : ∀ k, base ≤ k → k ≠ b) : LabM w' base gc gs gb gf J M cl si be fr :=
  ⟨h.oc.other ht (hb _ (h.oc.lt gc rfl).1), h.os.other ht (hb _ (h.os.lt gs rfl).1), h.ob.other ht (hb _ (h.ob.lt gb rfl).1), h.of.other ht (hb _ (h.of.lt gf rfl).1), h.ne⟩
/-- One pass over all pairs, as far as it has come. -/
def PassS (J M : Nat) (d : Nat → Nat → Int) (may : Nat → Nat → Bool) (f : Nat → Nat → Int) (cl si : List Int) (ch : Bool) (j a : Nat) : Prop :=
  ch = false → ∀ j' a', j' < J → a' < M → (j' < j ∨ (j' = j ∧ a' < a)) → (may j' a' = true → lget cl j' < farN → lget si a' ≤ lget cl j' + d j' a') ∧ (0 < f j' a' → lget si a' < farN → lget cl j' ≤ lget si a' - d j' a')
/-- .. and the first half of the next one. -/
def PassH (J M : Nat) (d : Nat → Nat → Int) (may : Nat → Nat → Bool) (f : Nat → Nat → Int) (cl si : List Int) (ch : Bool) (j a : Nat) : Prop :=
  PassS J M d may f cl si ch j a ∧ (ch = false → may j a = true → lget cl j < farN → lget si a ≤ lget cl j + d j a)
theorem PassS.start {J M : Nat} {d : Nat → Nat → Int} {may : Nat → Nat → Bool} {f : Nat → Nat → Int} {cl si : List Int} : PassS J M d may f cl si false 0 0 := fun _ j a _ _ h => by omega
theorem PassS.yes {J M : Nat} {d : Nat → Nat → Int} {may : Nat → Nat → Bool} {f : Nat → Nat → Int} {cl si : List Int} {j a : Nat} : PassS J M d may f cl si true j a := fun h => by cases h
theorem PassH.yes {J M : Nat} {d : Nat → Nat → Int} {may : Nat → Nat → Bool} {f : Nat → Nat → Int} {cl si : List Int} {j a : Nat} : PassH J M d may f cl si true j a := ⟨PassS.yes, fun h => by cases h⟩
theorem PassS.done {J M : Nat} {d : Nat → Nat → Int} {may : Nat → Nat → Bool} {f : Nat → Nat → Int} {cl si : List Int} (h : PassS J M d may f cl si false J 0) : StopS J M d may f cl si :=
  ⟨fun j a hj ha hm hr => (h rfl j a hj ha (.inl hj)).1 hm hr, fun j a hj ha hf hr => (h rfl j a hj ha (.inl hj)).2 hf hr⟩
theorem PassS.row {J M : Nat} {d : Nat → Nat → Int} {may : Nat → Nat → Bool} {f : Nat → Nat → Int} {cl si : List Int} {ch : Bool} {j : Nat} (h : PassS J M d may f cl si ch j M) : PassS J M d may f cl si ch (j + 1) 0 :=
  fun hc j' a' h1 h2 h3 => h hc j' a' h1 h2 (by omega)
theorem PassS.half {J M : Nat} {d : Nat → Nat → Int} {may : Nat → Nat → Bool} {f : Nat → Nat → Int} {cl si : List Int} {ch : Bool} {j a : Nat} (h : PassS J M d may f cl si ch j a) (hs : may j a = true → lget cl j < farN → lget si a ≤ lget cl j + d j a) : PassH J M d may f cl si ch j a := ⟨h, fun _ => hs⟩
theorem PassH.full {J M : Nat} {d : Nat → Nat → Int} {may : Nat → Nat → Bool} {f : Nat → Nat → Int} {cl si : List Int} {ch : Bool} {j a : Nat} (h : PassH J M d may f cl si ch j a) (hs : 0 < f j a → lget si a < farN → lget cl j ≤ lget si a - d j a) : PassS J M d may f cl si ch j (a + 1) :=
  fun hc j' a' h1 h2 h3 => by
    by_cases e : j' = j ∧ a' = a
    · obtain ⟨rfl, rfl⟩ := e; exact ⟨h.2 hc, hs⟩
    · exact h.1 hc j' a' h1 h2 (by omega)
/-- The labels' sum since the pass began. -/
def FellS (J M : Nat) (s0 : Int) (cl si : List Int) (ch : Bool) : Prop := sumTo (lget cl) J + sumTo (lget si) M ≤ s0 ∧ (ch = true → sumTo (lget cl) J + sumTo (lget si) M < s0)
theorem sumTo_set {xs : List Int} {n j : Nat} (hl : xs.length = n) (hj : j < n) (z : Int) : sumTo (lget (xs.set j z)) n = sumTo (lget xs) n + (z - lget xs j) := by
  have e : sumTo (lget (xs.set j z)) n = sumTo (upd (lget xs) j z) n := sumTo_congr (fun i _ => by rw [lget_set (by omega)]; rfl)
  rw [e, sumTo_upd, if_pos hj]
theorem FellS.setS {J M : Nat} {s0 : Int} {cl si : List Int} {ch : Bool} (h : FellS J M s0 cl si ch) (hl : si.length = M) {a : Nat} (ha : a < M) {z : Int} (hz : z < lget si a) : FellS J M s0 cl (si.set a z) true := by
  unfold FellS
  rw [sumTo_set hl ha]
  have := h.1
  exact ⟨by omega, fun _ => by omega⟩
theorem FellS.setC {J M : Nat} {s0 : Int} {cl si : List Int} {ch : Bool} (h : FellS J M s0 cl si ch) (hl : cl.length = J) {j : Nat} (hj : j < J) {z : Int} (hz : z < lget cl j) : FellS J M s0 (cl.set j z) si true := by
  unfold FellS
  rw [sumTo_set hl hj]
  have := h.1
  exact ⟨by omega, fun _ => by omega⟩
theorem Turn.get {S : Nat → Prop} {w w' : World} (ht : Turn S w w') {p : Addr} {v : Value} (hp : w.cell? p = some v) (hs : ¬ S p.block) : w'.cell? p = some v := by
  rw [World.cell?_of_block (w := w) (ht.block _ (World.block_lt_of_cell? _ _ hp) hs)]; exact hp
theorem Turn.range {S : Nat → Prop} {w w' : World} (ht : Turn S w w') {b o : Nat} {cs : List Value} (h : w.rangeAt b o cs) (hs : ¬ S b) : w'.rangeAt b o cs := fun j v hv => ht.get (h j v hv) hs
theorem Turn.there {S : Nat → Prop} {w w' : World} (ht : Turn S w w') {b n : Nat} (h : w.there b 0 n) (hs : ¬ S b) : w'.there b 0 n := fun j hj => by
  obtain ⟨h1, h2⟩ := h j hj
  obtain ⟨v, hv⟩ := Option.isSome_iff_exists.1 h1
  exact ⟨by rw [ht.get hv hs]; rfl, by rw [World.frozen?_of_block (w := w) (ht.block _ (World.block_lt_of_cell? _ _ hv) hs)]; exact h2⟩
theorem LabM.turnS {S : Nat → Prop} {w w' : World} {base gc gs gb gf J M : Nat} {cl si be fr : List Int} (h : LabM w base gc gs gb gf J M cl si be fr) (ht : Turn S w w') (hb : ∀ k, base ≤ k → ¬ S k) : LabM w' base gc gs gb gf J M cl si be fr := by
  have one : ∀ {g n c : Nat} {xs : List Int}, Own w base (.slice (some ⟨g, 0, none⟩) n c) xs → Own w' base (.slice (some ⟨g, 0, none⟩) n c) xs := fun {g n c xs} o => o.turn ht (fun k hk => hb k (o.lt k hk).1)
  exact ⟨one h.oc, one h.os, one h.ob, one h.of, h.ne⟩
/-- All that a net writes lies below. -/
def NetLt (L : NetL) (J bl : Nat) : Prop := (0 < J → L.gn < bl) ∧ L.gr < bl ∧ ∀ j, j < J → L.Bk j < bl
theorem NetS.below {w : World} {base : Nat} {L : NetL} {J M : Nat} {nl lf : Nat → Int} {fl : Nat → Nat → Int} {may : Nat → Nat → Bool} (h : NetS w base L J M nl lf fl may) {bl : Nat} (hb : w.heap.size ≤ bl) : NetLt L J bl :=
  ⟨fun hj => Nat.lt_of_lt_of_le ((h.nd hj).lt L.gn rfl).2 hb, Nat.lt_of_lt_of_le (h.rm.lt L.gr rfl).2 hb, fun j hj => Nat.lt_of_lt_of_le ((h.fl (by omega)).lt hj).2 hb⟩
theorem low_sum' {n : Nat} {xs : List Int} (B : Int) (h : ∀ a, a < n → -B ≤ lget xs a) : -(n * B : Int) ≤ sumTo (lget xs) n := by
  have h1 : sumTo (fun _ => -B) n ≤ sumTo (lget xs) n := sumTo_mono' h
  have h2 : ∀ k : Nat, sumTo (fun _ => -B) k = -(k * B : Int) := fun k => by
    induction k with
    | zero => show (0 : Int) = _; simp
    | succ k ih => rw [sumTo_succ, ih]; push_cast; rw [Int.add_mul]; omega
  rw [h2] at h1; exact h1
end Go.Proofs.YtpiijhfjliolfaaGreat

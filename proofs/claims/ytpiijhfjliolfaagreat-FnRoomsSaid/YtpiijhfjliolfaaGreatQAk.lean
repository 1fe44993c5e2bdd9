/- Flows of least cost: the least cost, when there is a haul: plain words; A slice of the call's own: one slot read and written; one that was made; A table of numbers of the call's own, read and written; What stands in memory as a number; function values that tell which pairs may be; slices.Repeat of one number; One more unit of a client: the program's labels; The sum of a list: the reference's walk; slices.Clone, slices.Min over lists of integers; Flows: the reference's walks of a row, of a flow and of its cost; Flows: the reference's walks of a flow and of its cost; Flows: what a flow costs, by reference and program; the program's walk of a flow. No condition. -/
import Derived.Test.YtpiijhfjliolfaaGreatQAj
import Derived.Test.YtpiijhfjliolfaaGreatQAf
import Derived.Test.YtpiijhfjliolfaaGreatQAa
import Derived.Test.YtpiijhfjliolfaaGreatQAh
import Derived.Laws.CopyOwn
import Derived.Deep.RegionLaw
import Derived.Test.YtpiijhfjliolfaaGreatQAb
import Derived.WalkSpells
import Derived.Test.YtpiijhfjliolfaaGreatQAd
namespace Go.Proofs.YtpiijhfjliolfaaGreat
open Go.RowKit Go.Sort

structure IsLst (J M : Nat) (d : Nat → Nat → Int) (may : Nat → Nat → Bool) (nd rm : Nat → Int) (c : Int) : Prop where
  some_ : ∃ x, Haul J M may nd rm x ∧ costT J M d x = c
  all_ : ∀ x, Haul J M may nd rm x → c ≤ costT J M d x
theorem IsLst.uniq {J M : Nat} {d : Nat → Nat → Int} {may : Nat → Nat → Bool} {nd rm : Nat → Int} {c c' : Int} (h : IsLst J M d may nd rm c) (h' : IsLst J M d may nd rm c') : c = c' := by
  obtain ⟨x, hx, rfl⟩ := h.some_
  obtain ⟨y, hy, rfl⟩ := h'.some_
  have := h.all_ y hy; have := h'.all_ x hx
  omega
open Classical in
/-- The least cost, if there is one. -/
noncomputable def lstC (J M : Nat) (d : Nat → Nat → Int) (may : Nat → Nat → Bool) (nd rm : Nat → Int) : Int := if h : ∃ c, IsLst J M d may nd rm c then Classical.choose h else 0
theorem lst_eq {J M : Nat} {d : Nat → Nat → Int} {may : Nat → Nat → Bool} {nd rm : Nat → Int} {c : Int} (h : IsLst J M d may nd rm c) : lstC J M d may nd rm = c := by
  have he : ∃ c, IsLst J M d may nd rm c := ⟨c, h⟩
  rw [lstC, dif_pos he]
  exact (Classical.choose_spec he).uniq h
/-- Is there a haul. -/
def CanH (J M : Nat) (may : Nat → Nat → Bool) (nd rm : Nat → Int) : Prop := ∃ x, Haul J M may nd rm x
theorem haul_congr {J M : Nat} {may may' : Nat → Nat → Bool} {nd nd' rm rm' : Nat → Int} (hm : ∀ j a, j < J → a < M → may j a = may' j a) (hn : ∀ j, j < J → nd j = nd' j) (hr : ∀ a, a < M → (∀ j, j < J → may j a = false) ∨ rm a = rm' a) (h0 : ∀ a, a < M → 0 ≤ rm' a) {x : Nat → Nat → Int} (h : Haul J M may nd rm x) : Haul J M may' nd' rm' x := by
  refine ⟨h.nn, fun j a hj ha hp => by rw [← hm j a hj ha]; exact h.may j a hj ha hp, fun j hj => by rw [← hn j hj]; exact h.row j hj, fun a ha => ?_⟩
  rcases hr a ha with h1 | h1
  · have : colT J x a = 0 := by
      have e : colT J x a = sumTo (fun _ => 0) J := sumTo_congr (fun j hj => by
        have := h.nn j a hj ha
        by_cases hp : 0 < x j a
        · have := h.may j a hj ha hp; rw [h1 j hj] at this; cases this
        · omega)
      rw [e, sumTo_c0]
    rw [this]; exact h0 a ha
  · rw [← h1]; exact h.col a ha
theorem lst_congr {J M : Nat} {d d' : Nat → Nat → Int} {may may' : Nat → Nat → Bool} {nd nd' rm rm' : Nat → Int} (hd : ∀ j a, j < J → a < M → d j a = d' j a) (hm : ∀ j a, j < J → a < M → may j a = may' j a) (hn : ∀ j, j < J → nd j = nd' j) (hr : ∀ a, a < M → (∀ j, j < J → may j a = false) ∨ rm a = rm' a) (h0 : ∀ a, a < M → 0 ≤ rm a) (h0' : ∀ a, a < M → 0 ≤ rm' a) {c : Int} (h : IsLst J M d may nd rm c) : IsLst J M d' may' nd' rm' c := by
  have e : ∀ x, costT J M d x = costT J M d' x := fun x => sumTo_congr (fun j hj => sumTo_congr (fun a ha => by rw [hd j a hj ha]))
  have hb : ∀ a, a < M → (∀ j, j < J → may' j a = false) ∨ rm' a = rm a := fun a ha => by
    rcases hr a ha with h1 | h1
    · exact .inl fun j hj => by rw [← hm j a hj ha]; exact h1 j hj
    · exact .inr h1.symm
  constructor
  · obtain ⟨x, hx, h1⟩ := h.some_
    exact ⟨x, haul_congr hm hn hr h0' hx, by rw [← e]; exact h1⟩
  · intro x hx
    rw [← e]
    exact h.all_ x (haul_congr (fun j a hj ha => (hm j a hj ha).symm) (fun j hj => (hn j hj).symm) hb h0 hx)
/-- A haul needs room for all needs. -/
theorem haul_room {J M : Nat} {may : Nat → Nat → Bool} {nd rm : Nat → Int} {x : Nat → Nat → Int} (h : Haul J M may nd rm x) (sA : Nat → Bool) (hs : ∀ j a, j < J → a < M → may j a = true → sA a = true) : sumTo nd J ≤ sumTo (fun a => if sA a = true then rm a else 0) M := by
  have e1 : sumTo nd J = sumTo (colT J x) M := by rw [tot]; exact sumTo_congr (fun j hj => (h.row j hj).symm)
  rw [e1]
  refine sumTo_mono' (fun a ha => ?_)
  by_cases hA : sA a = true
  · rw [if_pos hA]; exact h.col a ha
  · rw [if_neg hA]
    have e : colT J x a = sumTo (fun _ => 0) J := sumTo_congr (fun j hj => by
      have := h.nn j a hj ha
      by_cases hp : 0 < x j a
      · exact absurd (hs j a hj ha (h.may j a hj ha hp)) hA
      · omega)
    rw [e, sumTo_c0]; exact Int.le_refl _
/-- Where every site of a set is full, no more than its rooms are sent. -/
theorem full_no {J M : Nat} {d : Nat → Nat → Int} {may : Nat → Nat → Bool} {rm lf nd : Nat → Int} {f : Nat → Nat → Int} {j0 : Nat} (hn : Net J M d may rm f lf) (sA : Nat → Bool) (hful : ∀ a, a < M → sA a = true → lf a = 0) (hr : ∀ j, j < J → rowS M f j ≤ nd j) (hj0 : j0 < J) (h0 : rowS M f j0 < nd j0) :
    sumTo (fun a => if sA a = true then rm a else 0) M < sumTo nd J := by
  have h1 : sumTo (fun a => if sA a = true then rm a else 0) M ≤ sumTo (colT J f) M := sumTo_mono' (fun a ha => by
    by_cases hA : sA a = true
    · rw [if_pos hA]; have := hn.col a ha; have := hful a ha hA; omega
    · rw [if_neg hA]; exact sumTo_nn (fun j hj => hn.nn j a hj ha))
  have h2 : sumTo (rowS M f) J < sumTo nd J := sumTo_lt hr hj0 h0
  rw [tot] at h1
  omega
end Go.Proofs.YtpiijhfjliolfaaGreat

namespace Go.Proofs.YtpiijhfjliolfaaGreat
open Go.RowKit Go.Sort

/-- A slot of a slice of the call's own: read and written. -/
theorem Own.slot {w : World} {base g n cap j : Nat} {xs : List Int} (h : Own w base (.slice (some ⟨g, 0, none⟩) n cap) xs) (hn : xs.length = n) (hj : j < n) :
    w.cell? ⟨g, j, none⟩ = some (.int .i64 (xs.getD j 0)) ∧ w.frozen? ⟨g, j, none⟩ = false ∧
    ∀ z : Int, Own (w.setCell ⟨g, j, none⟩ (.int .i64 z)) base (.slice (some ⟨g, 0, none⟩) n cap) (xs.set j z) ∧ Turn (fun i => i = g) w (w.setCell ⟨g, j, none⟩ (.int .i64 z)) := by
  have h' : w.ownsRow base 3 1 (.slice (some ⟨g, 0, none⟩) n cap) n (xs.map (Value.int .i64)) := by
    have := h; unfold Own at this; rw [hn] at this; exact this
  refine ⟨?_, h'.frozenAt j, fun z => ?_⟩
  · rw [h'.cellAt j (by omega), List.getElem?_map]
    have : j < xs.length := by omega
    simp [List.getD, this]
  · have hs := h'.stored j (.int .i64 z)
    refine ⟨?_, (Turn.of_grown hs.2).mono (fun i hi => by simpa using hi.symm)⟩
    have h2 := hs.1
    rw [← List.map_set] at h2
    unfold Own
    rw [List.length_set, hn]; exact h2
/-- A slot of a slice of the call's own: read, written, and written while another such slice stays. -/
theorem Own.slotL {w : World} {base g n cap j : Nat} {xs : List Int} (h : Own w base (.slice (some ⟨g, 0, none⟩) n cap) xs) (hn : xs.length = n) (hj : j < n) :
    w.cell? ⟨g, j, none⟩ = some (.int .i64 (lget xs j)) ∧ w.frozen? ⟨g, j, none⟩ = false ∧
    ∀ z : Int, Own (w.setCell ⟨g, j, none⟩ (.int .i64 z)) base (.slice (some ⟨g, 0, none⟩) n cap) (xs.set j z) ∧ Turn (fun i => i = g) w (w.setCell ⟨g, j, none⟩ (.int .i64 z)) := h.slot hn hj
theorem Own.not_block {w w' : World} {base g n cap : Nat} {v : Value} {xs : List Int} (h : Own w base v xs) (ha : Apart v (.slice (some ⟨g, 0, none⟩) n cap)) (ht : Turn (fun i => i = g) w w') : Own w' base v xs :=
  h.turn ht (fun k hk e => ha k hk (by subst e; rfl))
theorem Own.at0 {w : World} {base n : Nat} {v : Value} {xs : List Int} (h : Own w base v xs) (hn : xs.length = n) (hp : 0 < n) : ∃ g cap, v = .slice (some ⟨g, 0, none⟩) n cap := by
  rcases h.2 with ⟨_, h0⟩ | ⟨g, cap, cur, e, _⟩
  · omega
  · exact ⟨g, cap, by rw [e, hn]⟩
def sLen : Value → Nat
  | .slice _ n _ => n
  | _ => 0
theorem own_made (w : World) (base n : Nat) (hb : base ≤ w.heap.size) (hn : n ≤ 1048576) : Own (w.alloc (.cells (madeCells #[.int .i64 0] n) 3)) base (.slice (some ⟨w.heap.size, 0, none⟩) n n) (List.replicate n 0) := by
  have hr : IntRow (w.alloc (.cells (madeCells #[.int .i64 0] n) 3)) w.heap.size (List.replicate n 0) := by
    unfold IntRow
    rw [List.length_replicate]
    exact (World.rowIs_made w (.int .i64 0) n 3).congr (fun i hi => by simp [List.getD, hi])
  have := Own.of_row hr hb (by simp; omega)
  rw [List.length_replicate] at this
  exact this
end Go.Proofs.YtpiijhfjliolfaaGreat

namespace Go.Proofs.YtpiijhfjliolfaaGreat
open Go.RowKit Go.Sort

/-- Block g holds J headers; row j lies in block B j and reads as f j. -/
structure Mat (w : World) (base g cap J M : Nat) (B Cp : Nat → Nat) (f : Nat → Nat → Int) : Prop where
  hd : w.ownsRow base 24 1 (.slice (some ⟨g, 0, none⟩) J cap) J ((List.range J).map fun j => Value.slice (some ⟨B j, 0, none⟩) M (Cp j))
  row : ∀ j, j < J → Own w base (.slice (some ⟨B j, 0, none⟩) M (Cp j)) (mapTo (f j) M)
  apart : ∀ i j, i < J → j < J → i ≠ j → B i ≠ B j
theorem Mat.kp {w w' : World} {base g cap J M : Nat} {B Cp : Nat → Nat} {f : Nat → Nat → Int} (h : Mat w base g cap J M B Cp f) (hk : Kp w w') : Mat w' base g cap J M B Cp f :=
  ⟨hk.own h.hd, fun j hj => (h.row j hj).kp hk, h.apart⟩
theorem Mat.turn {S : Nat → Prop} {w w' : World} {base g cap J M : Nat} {B Cp : Nat → Nat} {f : Nat → Nat → Int} (h : Mat w base g cap J M B Cp f) (ht : Turn S w w') (h1 : ¬ S g) (h2 : ∀ j, j < J → ¬ S (B j)) : Mat w' base g cap J M B Cp f :=
  ⟨own_turn h.hd ht (fun k hk hs => by have : g = k := by simpa [Value.ownBlock] using hk
                                       subst this; exact h1 hs),
   fun j hj => (h.row j hj).turn ht (fun k hk hs => by have : B j = k := by simpa [Value.ownBlock] using hk
                                                       subst this; exact h2 j hj hs), h.apart⟩
theorem Mat.congr {w : World} {base g cap J M : Nat} {B Cp : Nat → Nat} {f f' : Nat → Nat → Int} (h : Mat w base g cap J M B Cp f) (e : ∀ j a, j < J → a < M → f j a = f' j a) : Mat w base g cap J M B Cp f' :=
  ⟨h.hd, fun j hj => by
    have : mapTo (f j) M = mapTo (f' j) M := by unfold mapTo; exact List.map_congr_left (fun a ha => e j a hj (List.mem_range.1 ha))
    rw [← this]; exact h.row j hj, h.apart⟩
theorem Mat.lt {w : World} {base g cap J M : Nat} {B Cp : Nat → Nat} {f : Nat → Nat → Int} (h : Mat w base g cap J M B Cp f) {j : Nat} (hj : j < J) : base ≤ B j ∧ B j < w.heap.size := (h.row j hj).lt (B j) rfl
theorem Mat.glt {w : World} {base g cap J M : Nat} {B Cp : Nat → Nat} {f : Nat → Nat → Int} (h : Mat w base g cap J M B Cp f) : base ≤ g ∧ g < w.heap.size := World.ownsRow.lt h.hd g rfl
theorem Mat.gne {w : World} {base g cap J M : Nat} {B Cp : Nat → Nat} {f : Nat → Nat → Int} (h : Mat w base g cap J M B Cp f) {j : Nat} (hj : j < J) : B j ≠ g := fun e =>
  own_blocks_ne (h.row j hj) h.hd (by decide) (g := B j) rfl (by rw [e]; rfl)
theorem own_ne_hd {w : World} {base base' g n cap J : Nat} {A : Value} {xs : List Int} {hs : List Value} (h : Own w base A xs) (h2 : w.ownsRow base' 24 1 (.slice (some ⟨g, 0, none⟩) n cap) J hs) {k : Nat} (hk : A.ownBlock = some k) : k ≠ g := fun e =>
  own_blocks_ne h h2 (by decide) hk (by subst e; rfl)
theorem Mat.hcell {w : World} {base g cap J M : Nat} {B Cp : Nat → Nat} {f : Nat → Nat → Int} (h : Mat w base g cap J M B Cp f) {j : Nat} (hj : j < J) : w.cell? ⟨g, j, none⟩ = some (.slice (some ⟨B j, 0, none⟩) M (Cp j)) := by
  have := World.ownsRow.cells h.hd (g := g) rfl j (Value.slice (some ⟨B j, 0, none⟩) M (Cp j)) (by simp [hj])
  rwa [add0] at this
theorem mapTo_lget {g : Nat → Int} {M a : Nat} (h : a < M) : lget (mapTo g M) a = g a := by
  rw [lget_at (by rw [mapTo_len]; exact h), mapTo_get h]
theorem mapTo_set {g : Nat → Int} {M a : Nat} {z : Int} : (mapTo g M).set a z = mapTo (upd g a z) M := by
  unfold mapTo
  apply List.ext_getElem
  · simp
  · intro i h1 h2
    rw [List.getElem_set]
    by_cases e : a = i
    · subst e; simp [upd]
    · have e2 : ¬ i = a := fun h => e h.symm
      simp [e, upd, e2]
theorem Mat.cell {w : World} {base g cap J M : Nat} {B Cp : Nat → Nat} {f : Nat → Nat → Int} (h : Mat w base g cap J M B Cp f) {j a : Nat} (hj : j < J) (ha : a < M) :
    w.cell? ⟨B j, a, none⟩ = some (.int .i64 (f j a)) ∧ w.frozen? ⟨B j, a, none⟩ = false ∧
    ∀ z : Int, Mat (w.setCell ⟨B j, a, none⟩ (.int .i64 z)) base g cap J M B Cp (upd2 f j a z) ∧ Turn (fun i => i = B j) w (w.setCell ⟨B j, a, none⟩ (.int .i64 z)) := by
  obtain ⟨c1, c2, c3⟩ := (h.row j hj).slotL (mapTo_len _ _) ha
  rw [mapTo_lget ha] at c1
  refine ⟨c1, c2, fun z => ?_⟩
  obtain ⟨o1, t1⟩ := c3 z
  refine ⟨⟨own_turn h.hd t1 (fun k hk hs => ?_), fun i hi => ?_, h.apart⟩, t1⟩
  · have e : g = k := by simpa [Value.ownBlock] using hk
    subst e; exact h.gne hj hs.symm
  · by_cases e : i = j
    · subst e
      rw [mapTo_set] at o1
      have : upd2 f i a z i = upd (f i) a z := by funext b; unfold upd2; rw [if_pos rfl]
      rw [this]; exact o1
    · have : upd2 f j a z i = f i := by funext b; unfold upd2; rw [if_neg e]
      rw [this]
      exact (h.row i hi).turn t1 (fun k hk hs => by
        have e2 : B i = k := by simpa [Value.ownBlock] using hk
        subst e2; exact h.apart i j hi hj e hs)
theorem Mat.ints {w : World} {base g cap J M : Nat} {B Cp : Nat → Nat} {f : Nat → Nat → Int} (h : Mat w base g cap J M B Cp f) (hM : M ≤ 1048576) {j : Nat} (hj : j < J) : IntsAt w (some ⟨B j, 0, none⟩) (mapTo (f j) M) := by
  obtain ⟨A, c, e, hi⟩ := (h.row j hj).ints (by rw [mapTo_len]; omega)
  rw [mapTo_len] at e
  simp only [Value.slice.injEq] at e
  rw [e.1]; exact hi
/-- The rows of it. -/
def matL (J M : Nat) (f : Nat → Nat → Int) : List (List Int) := (List.range J).map fun j => mapTo (f j) M
theorem matL_len (J M : Nat) (f : Nat → Nat → Int) : (matL J M f).length = J := by simp [matL]
theorem matL_at {J M : Nat} {f : Nat → Nat → Int} {j : Nat} (hj : j < J) : (matL J M f).getD j [] = mapTo (f j) M := by simp [matL, List.getD, hj]
theorem Mat.grid {w : World} {base g cap J M : Nat} {B Cp : Nat → Nat} {f : Nat → Nat → Int} (h : Mat w base g cap J M B Cp f) (hJ : J ≤ 1048576) (hM : M ≤ 1048576) : GridAt w (some ⟨g, 0, none⟩) (matL J M f) :=
  ⟨by rw [matL_len]; omega, fun k hk => by
    rw [matL_len] at hk
    rw [matL_at hk]
    exact ⟨_, _, _, rfl, by rw [add0, mapTo_len]; exact h.hcell hk, h.ints hM hk⟩⟩
theorem Mat.ownGrid {w : World} {base g cap J M : Nat} {B Cp : Nat → Nat} {f : Nat → Nat → Int} (h : Mat w base g cap J M B Cp f) : OwnGrid w base (.slice (some ⟨g, 0, none⟩) J cap) J (fun j => mapTo (f j) M) :=
  ⟨fun j => Value.slice (some ⟨B j, 0, none⟩) M (Cp j), h.hd, h.row, fun i j k hij hj e1 e2 => by
    have e3 : B i = k := by simpa [Value.ownBlock] using e1
    have e4 : B j = k := by simpa [Value.ownBlock] using e2
    exact h.apart i j (by omega) hj (by omega) (by omega)⟩
end Go.Proofs.YtpiijhfjliolfaaGreat

namespace Go.Proofs.YtpiijhfjliolfaaGreat
open Go.RowKit Go.Sort

theorem matL_fl {J M : Nat} {f : Nat → Nat → Int} {j a : Nat} (hj : j < J) (ha : a < M) : flAt (matL J M f) j a = f j a := by
  unfold flAt; rw [matL_at hj, mapTo_lget ha]
/-- What stands in memory, read as a number. -/
def cellI (w : World) (a : Addr) : Int := match w.cell? a with
  | some (.int _ x) => x
  | _ => 0
def memSum (w : World) (g n : Nat) : Int := sumTo (fun k => cellI w ⟨g, k, none⟩) n
theorem memSum_ints {w : World} {g n : Nat} {xs : List Int} (h : IntsAt w (some ⟨g, 0, none⟩) xs) (hn : xs.length = n) : memSum w g n = sumTo (lget xs) n := by
  refine sumTo_congr (fun k hk => ?_)
  have := h.some_ (k := k) (by omega)
  rw [add0] at this
  unfold cellI
  rw [this, lget_at (by omega)]
theorem sum_set {xs : List Int} {n k : Nat} {z : Int} (hn : xs.length = n) (hk : k < n) : sumTo (lget (xs.set k z)) n = sumTo (lget xs) n + (z - lget xs k) := by
  have e : lget (xs.set k z) = upd (lget xs) k z := by funext i; rw [lget_set (by omega)]; rfl
  rw [e, sumTo_upd, if_pos hk]
def dF (F : Fld) (j a : Nat) : Int := dAt F j (a : Int)
theorem dF_bd {F : Fld} (hg : goodF F = true) (j a : Nat) : 0 ≤ dF F j a ∧ dF F j a ≤ 99 := by
  by_cases hj : j < F.di.length
  · exact dAt_bd hg hj _
  · unfold dF dAt
    rw [List.getD_eq_getElem?_getD (l := F.di), List.getElem?_eq_none (by omega)]; simp
/-- A function value that tells which pairs may be. -/
def Can (FN : FuncId) (caps : Array Value) (J M : Nat) (may : Nat → Nat → Bool) (w : World) : Prop :=
  (∀ (args : Array Value) (w : World), Sem.run Tryz.prog (callFunc FN args) w = .ok (.enter FN args) w) ∧
  ∀ (i a : Nat) (w' : World), Kp w w' → i < J → a < M → Calls Tryz.prog FN (#[.int .i64 (i : Int), .int .i64 (a : Int)] ++ caps) w' fun e w'' => e = .returned (.bool (may i a)) ∧ Dr w' w''
theorem Can.kp {FN : FuncId} {caps : Array Value} {J M : Nat} {may : Nat → Nat → Bool} {w w' : World} (h : Can FN caps J M may w) (hk : Kp w w') : Can FN caps J M may w' :=
  ⟨h.1, fun i a w2 h2 => h.2 i a w2 (hk.trans h2)⟩
theorem Can.run {FN : FuncId} {caps : Array Value} {J M : Nat} {may : Nat → Nat → Bool} {w : World} (h : Can FN caps J M may w) : ∀ (args : Array Value) (w : World), Sem.run Tryz.prog (callFunc FN args) w = .ok (.enter FN args) w := h.1
theorem Can.at_ {FN : FuncId} {caps : Array Value} {J M : Nat} {may : Nat → Nat → Bool} {w : World} (h : Can FN caps J M may w) (i a : Nat) (w' : World) (hk : Kp w w') (hi : i < J) (ha : a < M) :
    Calls Tryz.prog FN (#[.int .i64 (i : Int), .int .i64 (a : Int)] ++ caps) w' fun e w'' => e = .returned (.bool (may i a)) ∧ Dr w' w'' := h.2 i a w' hk hi ha
end Go.Proofs.YtpiijhfjliolfaaGreat

namespace Go.Proofs.YtpiijhfjliolfaaGreat
open Go.RowKit

theorem u64_low (m : Nat) (h : m < 4294967296) : bits .and .u64 (m : Int) 4294967295 = (m : Int) := by
  have h0 : bits .and .u64 (m : Int) ((4294967295 : Nat) : Int) = ((m &&& 4294967295 : Nat) : Int) := by
    show IntKind.u64.wrap ((BitVec.ofInt 64 (m : Int) &&& BitVec.ofInt 64 ((4294967295 : Nat) : Int)).toNat : Int) = _
    rw [BitVec.toNat_and, ofInt_u64 m (by omega), ofInt_u64 4294967295 (by omega), IntKind.wrap_u64]
    have : m &&& 4294967295 ≤ m := Nat.and_le_left
    omega
  rw [show ((4294967295 : Int)) = ((4294967295 : Nat) : Int) from rfl, h0, show (4294967295 : Nat) = 2 ^ 32 - 1 from rfl, Nat.and_two_pow_sub_one_eq_mod, Nat.mod_eq_of_lt (by omega)]
theorem mul64_one (m : Nat) (w : World) (h : m < 4294967296) :
    Calls Tryz.prog 155 #[.int .u64 1, .int .u64 (m : Int)] w fun e w' => e = .returned (.tuple #[.int .u64 0, .int .u64 (m : Int)]) ∧ w = w' := by
  have h1 := u64_low m h
  have h2 : bits .and .u64 1 4294967295 = 1 := by decide
  have h3 : (m : Int) / 4294967296 = 0 := by omega
  have h4 : bits .and .u64 0 4294967295 = 0 := by decide
  go_enter Tryz.func155, Tryz.ntmps155
  go_wp2_with fail
  go_ret2
  exact ⟨rfl, rfl⟩
theorem mul_one (m : Nat) (w : World) (h : m < 4294967296) :
    Calls Tryz.prog 144 #[.int .u64 1, .int .u64 (m : Int)] w fun e w' => e = .returned (.tuple #[.int .u64 0, .int .u64 (m : Int)]) ∧ w = w' := by
  go_enter Tryz.func144, Tryz.ntmps144
  go_wp2_with fail
  with_reducible refine Calls.mono (mul64_one m _ h) ?_
  rintro e w' ⟨rfl, hw⟩
  obtain rfl := hw
  go_wp2_with fail
  go_ret2
  exact ⟨rfl, rfl⟩
/-- A row that is filled from its head on. -/
def repL (m k : Nat) (v : Int) : List Int := List.replicate k v ++ List.replicate (m - k) 0
theorem repL_len {m k : Nat} {v : Int} (h : k ≤ m) : (repL m k v).length = m := by simp [repL]; omega
theorem repL_full (m : Nat) (v : Int) : repL m m v = List.replicate m v := by simp [repL]
theorem repL_splice {m k c : Nat} {v : Int} (h : k + c ≤ m) : splice ((repL m k v).map (Value.int .i64)) k (List.replicate c (Value.int .i64 v)) = (repL m (k + c) v).map (Value.int .i64) := by
  unfold splice repL
  rw [List.length_replicate, ← List.map_take, ← List.map_drop, List.take_append_of_le_length (by simp), List.take_of_length_le (by simp)]
  rw [List.drop_append, List.drop_eq_nil_of_le (by simp), List.length_replicate, List.drop_replicate]
  rw [List.map_append, show m - k - (k + c - k) = m - (k + c) from by omega]
  simp only [List.map_append, List.map_replicate, List.map_nil, List.nil_append]
  rw [← List.replicate_append_replicate, List.append_assoc]
set_option maxHeartbeats 1000000 in
set_option maxRecDepth 100000 in
theorem rep_any (v : Int) (m b0 : Nat) (w : World) (hv : w.cell? ⟨b0, 0, none⟩ = some (.int .i64 v)) (h0 : 1 ≤ m) (h : m ≤ 1000) :
    Calls Tryz.prog 119 #[.slice (some ⟨b0, 0, none⟩) 1 1, .int .i64 (m : Int)] w fun e w' => ∃ g, e = .returned (.slice (some ⟨g, 0, none⟩) m m) ∧ w.heap.size ≤ g ∧ Own w' w.heap.size (.slice (some ⟨g, 0, none⟩) m m) (List.replicate m v) ∧ Kp w w' := by
  have hmk := run_make_row' (P := Tryz.prog) 24 3 (.int .i64 0) 8 Tryz.underlying24 infoInt rfl .i64 .i64 m (by omega) (by omega)
  go_enter Tryz.func119, Tryz.ntmps119
  go_wp2_with fail
  with_reducible refine Calls.mono (mul_one m _ (by omega)) ?_
  rintro e w' ⟨rfl, hw⟩
  obtain rfl := hw
  have hk0 := (Kp.refl w).alloc (.cells (madeCells #[.int .i64 0] m) 3)
  have hr : Hid ((w.alloc (.cells (madeCells #[.int .i64 0] m) 3)).heap[w.heap.size]? = some (.cells ((repL m 0 v).map (Value.int .i64)).toArray 3 (0, 0))) := by
    show _ = _
    obtain ⟨c, hg, hs, hc⟩ := World.rowIs_made w (.int .i64 0) m 3
    rw [hg]
    congr 2
    apply Array.ext
    · simp [hs, repL]
    · intro i h1 h2
      have := hc i (by omega)
      rw [Array.getElem?_eq_getElem h1] at this
      simp only [Option.some.injEq] at this
      rw [this]; simp [repL]
  have hv1 : Hid ((w.alloc (.cells (madeCells #[.int .i64 0] m) 3)).cell? ⟨b0, 0, none⟩ = some (.int .i64 v)) := hk0.get hv
  have h1m : Nat.min 1 m = 1 := Nat.min_eq_left h0
  have hsrc : Hid (∀ (j : Nat) (x : Value), [Value.int .i64 v][j]? = some x → (w.alloc (.cells (madeCells #[.int .i64 0] m) 3)).cell? ((⟨b0, 0, none⟩ : Addr).add j) = some x) := by
    intro j x hx
    cases j with
    | zero => simp at hx; subst hx; exact hv1.out
    | succ j => simp at hx
  have hfit : 0 + [Value.int .i64 v].length ≤ ((repL m 0 v).map (Value.int .i64)).length := by simp [repL]; omega
  have h11 : ∀ x ∈ [Value.int .i64 v], x.oneCell' = true := by intro x hx; simp at hx; subst hx; rfl
  go_wp2_with (refine wpList_copy_splice (o := ⟨some 33, _, _, _, _, _⟩) rfl (.tmp 31) (.tmp 32) 24 24 (by rfl) 3 Tryz.underlying24 (by kernel_rfl) (some ⟨w.heap.size, 0, none⟩) (some ⟨b0, 0, none⟩) m m 1 1 (by rfl) (by rfl) w.heap.size 0 ((repL m 0 v).map (Value.int .i64)) 3 hr.out [.int .i64 v] (by rw [h1m]; rfl) (fun _ => ⟨rfl, _, rfl, hsrc.out⟩) hfit h11 w.heap.size w hk0 (Nat.le_refl _) ?_; intro w2 hg2 hb2)
  have hk2 : Kp w w2 := hb2
  replace hg2 : Hid (w2.heap[w.heap.size]? = some (.cells ((repL m 1 v).map (Value.int .i64)).toArray 3 (0, 0))) := by
    show _ = _
    have e := repL_splice (m := m) (k := 0) (c := 1) (v := v) (by omega)
    rw [← e]; exact hg2.out
  clear hb2 hr hv1 hsrc hfit h11 hv hk0
  go_loopw [8] (fun nv wr => ∃ k : Nat, 1 ≤ k ∧ k ≤ m ∧ nv = .int .i64 k ∧ Hid (wr.heap[w.heap.size]? = some (.cells ((repL m k v).map (Value.int .i64)).toArray 3 (0, 0))) ∧ Kp w wr) (fun nv _ => m - (intOf nv).toNat)
  case atStart => exact ⟨1, by omega, by omega, rfl, hg2, hk2⟩
  case round =>
    clear hg2 hk2
    obtain ⟨k, hk1, hkm, rfl, hg, hkr⟩ := hrel
    by_cases hlt : k < m
    · obtain ⟨c, hc⟩ : ∃ c, c = Nat.min k (m - k) := ⟨_, rfl⟩
      have hc1 : 1 ≤ c := by rw [hc]; exact Nat.le_min.2 ⟨hk1, by omega⟩
      have h9 : c ≤ m - k := hc ▸ Nat.min_le_right k (m - k)
      have hc2 : k + c ≤ m := by omega
      have hc3 : c ≤ k := by rw [hc]; exact Nat.min_le_left _ _
      have Hc : Hid ((List.replicate c (Value.int .i64 v)).length = Nat.min k (m - k)) := by show _ = _; rw [List.length_replicate]; exact hc
      clear hc
      have hfit : k + (List.replicate c (Value.int .i64 v)).length ≤ ((repL m k v).map (Value.int .i64)).length := by simp [repL]; omega
      have h11 : ∀ x ∈ List.replicate c (Value.int .i64 v), x.oneCell' = true := by intro x hx; rw [(List.mem_replicate.1 hx).2]; rfl
      have hcc : Hid (∀ (j : Nat) (x : Value), (List.replicate c (Value.int .i64 v))[j]? = some x → wr.cell? ((⟨w.heap.size, 0, none⟩ : Addr).add j) = some x) := by
        intro j x hx
        have hj : j < c := by
          rcases Nat.lt_or_ge j c with h | h
          · exact h
          · rw [List.getElem?_eq_none (by simp; omega)] at hx; cases hx
        rw [List.getElem?_replicate, if_pos hj] at hx
        rw [add0]
        unfold World.cell?
        rw [hg.out]
        have hjk : j < k := by omega
        have hx' := Option.some.inj hx
        subst hx'
        have he : ((repL m k v).map (Value.int .i64)).toArray[j]? = some (Value.int .i64 v) := by
          rw [List.getElem?_toArray, List.getElem?_map, repL, List.getElem?_append_left (by simpa using hjk), List.getElem?_replicate, if_pos hjk]; rfl
        simp only [Option.bind_some, he]
        rfl
      have hkI : (k : Int) ≤ (m : Int) := by omega
      have hadd : (⟨w.heap.size, 0, none⟩ : Addr).add k = ⟨w.heap.size, k, none⟩ := add0 _ _
      have hmk' : ¬ m = k := by omega
      have hrun := run_copy_row (P := Tryz.prog) wr.drew 24 24 3 3 w.heap.size k (m - k) (m - k) ⟨w.heap.size, 0, none⟩ k m ((repL m k v).map (Value.int .i64)).toArray 3 (List.replicate c (Value.int .i64 v)) Tryz.underlying24 (by kernel_rfl) hg.out Hc.out hcc.out (by simpa using hfit) h11
      have hkd := below_setRow (g := w.heap.size) (show RowKit.Below w.heap.size w wr.drew from hkr.drew) (Nat.le_refl _) (((repL m k v).map (Value.int .i64)).toArray.toList.take k ++ List.replicate c (Value.int .i64 v) ++ ((repL m k v).map (Value.int .i64)).toArray.toList.drop (k + (List.replicate c (Value.int .i64 v)).length)).toArray
      have hgd := setRow_heap wr.drew w.heap.size ((repL m k v).map (Value.int .i64)).toArray (((repL m k v).map (Value.int .i64)).toArray.toList.take k ++ List.replicate c (Value.int .i64 v) ++ ((repL m k v).map (Value.int .i64)).toArray.toList.drop (k + (List.replicate c (Value.int .i64 v)).length)).toArray 3 (0, 0) hg.out
      rw [List.length_replicate] at hrun hkd hgd
      have hsp := repL_splice (v := v) hc2
      unfold splice at hsp
      rw [List.length_replicate] at hsp
      rw [List.append_assoc, List.toList_toArray, hsp] at hrun hkd hgd
      obtain ⟨w4, hw4⟩ : ∃ w4, w4 = wr.drew.setRow w.heap.size ((repL m (k + c) v).map (Value.int .i64)).toArray := ⟨_, rfl⟩
      rw [← hw4] at hrun hkd hgd
      have Hg4 := Lib.hid hgd
      have hk4 : Kp w w4 := hkd
      clear hsp hw4 hgd hkd hcc Hc hfit h11 hg
      go_wp2_with fail
      go_region
      all_goals
        (try go_wp2_with fail)
        go_roundw
        case rel => exact ⟨k + c, by omega, hc2, by simp, Hg4, hk4⟩
        case measure => simp [intOf]; omega
    · obtain rfl : k = m := by omega
      have hfin : Hid (Own wr w.heap.size (.slice (some ⟨w.heap.size, 0, none⟩) k k) (List.replicate k v)) := by
        refine ⟨by simp, .inr ⟨w.heap.size, k, _, by rw [List.length_replicate], Nat.le_refl _, hg.out, by simp, by unfold maxLen; omega, by simp [repL], ?_⟩⟩
        simp [repL]
      go_wp2_with fail
      go_ret
      exact ⟨_, rfl, Nat.le_refl _, hfin.out, hkr⟩
end Go.Proofs.YtpiijhfjliolfaaGreat

namespace Go.Proofs.YtpiijhfjliolfaaGreat
open Go.RowKit Go.Sort

/-- Labels in memory. -/
structure PSt (w0 wr : World) (gc gf gb J M : Nat) (d : Nat → Nat → Int) (may : Nat → Nat → Bool) (f : Nat → Nat → Int) (ps : Nat → Int) (first : Nat) (co fr b : List Int) : Prop where
  oc : Own wr w0.heap.size (.slice (some ⟨gc, 0, none⟩) M M) co
  of : Own wr w0.heap.size (.slice (some ⟨gf, 0, none⟩) M M) fr
  ob : Own wr w0.heap.size (.slice (some ⟨gb, 0, none⟩) M M) b
  ne : gc ≠ gf ∧ gc ≠ gb ∧ gf ≠ gb
  bf : Bfs J M d may f ps first co fr b
  kp : Kp w0 wr
theorem Own.other {w w' : World} {base g g' n cap : Nat} {xs : List Int} (h : Own w base (.slice (some ⟨g, 0, none⟩) n cap) xs) (ht : Turn (fun i => i = g') w w') (hne : g ≠ g') : Own w' base (.slice (some ⟨g, 0, none⟩) n cap) xs :=
  h.turn ht (fun k hk e => hne (by have : g = k := by simpa [Value.ownBlock] using hk
                                   omega))
theorem PSt.go {w0 wr wr' : World} {gc gf gb J M : Nat} {d : Nat → Nat → Int} {may : Nat → Nat → Bool} {f : Nat → Nat → Int} {ps : Nat → Int} {first : Nat} {co fr b : List Int} (h : PSt w0 wr gc gf gb J M d may f ps first co fr b) (hk : Kp wr wr') : PSt w0 wr' gc gf gb J M d may f ps first co fr b :=
  ⟨h.oc.kp hk, h.of.kp hk, h.ob.kp hk, h.ne, h.bf, h.kp.trans hk⟩
theorem PSt.cells {w0 wr : World} {gc gf gb J M : Nat} {d : Nat → Nat → Int} {may : Nat → Nat → Bool} {f : Nat → Nat → Int} {ps : Nat → Int} {first : Nat} {co fr b : List Int} (h : PSt w0 wr gc gf gb J M d may f ps first co fr b) {a : Nat} (ha : a < M) :
    wr.cell? ⟨gc, a, none⟩ = some (.int .i64 (lget co a)) ∧ wr.cell? ⟨gf, a, none⟩ = some (.int .i64 (lget fr a)) ∧ wr.cell? ⟨gb, a, none⟩ = some (.int .i64 (lget b a)) :=
  ⟨(h.oc.slotL h.bf.lc ha).1, (h.of.slotL h.bf.lfr ha).1, (h.ob.slotL h.bf.lb ha).1⟩
theorem PSt.sum {w0 wr : World} {gc gf gb J M : Nat} {d : Nat → Nat → Int} {may : Nat → Nat → Bool} {f : Nat → Nat → Int} {ps : Nat → Int} {first : Nat} {co fr b : List Int} (h : PSt w0 wr gc gf gb J M d may f ps first co fr b) (hM : M ≤ 1000) : memSum wr gc M = sumTo (lget co) M := by
  obtain ⟨A, c, e, hi⟩ := h.oc.ints (by rw [h.bf.lc]; omega)
  simp only [Value.slice.injEq] at e
  obtain ⟨e, _, _⟩ := e
  rw [← e] at hi
  exact memSum_ints hi h.bf.lc
/-- A label falls: three numbers are written. -/
theorem PSt.relax {w0 wr : World} {gc gf gb J M : Nat} {d : Nat → Nat → Int} {may : Nat → Nat → Bool} {f : Nat → Nat → Int} {lf pc ps : Nat → Int} {T : Int} {first : Nat} {co fr b : List Int} (h : PSt w0 wr gc gf gb J M d may f ps first co fr b) (hp : Pot J M d may f lf pc ps T)
    {i a x : Nat} (hi : i < J) (ha : a < M) (hx : x < M) (hf : 0 < f i a) (hm : may i x = true) (hr : lget co a < farN) (hlt : lget co a - d i a + d i x < lget co x) :
    PSt w0 (((wr.setCell ⟨gc, x, none⟩ (.int .i64 (lget co a - d i a + d i x))).setCell ⟨gf, x, none⟩ (.int .i64 (a : Int))).setCell ⟨gb, x, none⟩ (.int .i64 (i : Int))) gc gf gb J M d may f ps first
      (co.set x (lget co a - d i a + d i x)) (fr.set x (a : Int)) (b.set x (i : Int)) ∧
    wr.frozen? ⟨gc, x, none⟩ = false ∧ (wr.setCell ⟨gc, x, none⟩ (.int .i64 (lget co a - d i a + d i x))).frozen? ⟨gf, x, none⟩ = false ∧ (wr.setCell ⟨gc, x, none⟩ (.int .i64 (lget co a - d i a + d i x))).cell? ⟨gf, x, none⟩ = some (.int .i64 (lget fr x)) ∧
    ((wr.setCell ⟨gc, x, none⟩ (.int .i64 (lget co a - d i a + d i x))).setCell ⟨gf, x, none⟩ (.int .i64 (a : Int))).frozen? ⟨gb, x, none⟩ = false ∧ ((wr.setCell ⟨gc, x, none⟩ (.int .i64 (lget co a - d i a + d i x))).setCell ⟨gf, x, none⟩ (.int .i64 (a : Int))).cell? ⟨gb, x, none⟩ = some (.int .i64 (lget b x)) := by
  obtain ⟨n1, n2, n3⟩ := h.ne
  obtain ⟨c1, c2, c3⟩ := h.oc.slotL h.bf.lc hx
  obtain ⟨o1, t1⟩ := c3 (lget co a - d i a + d i x)
  have f1 := h.of.other t1 (Ne.symm n1)
  have b1 := h.ob.other t1 (Ne.symm n2)
  obtain ⟨e1, e2, e3⟩ := f1.slotL h.bf.lfr hx
  obtain ⟨o2, t2⟩ := e3 (a : Int)
  have o12 := o1.other t2 n1
  have b2 := b1.other t2 (Ne.symm n3)
  obtain ⟨g1, g2, g3⟩ := b2.slotL h.bf.lb hx
  obtain ⟨o3, t3⟩ := g3 (i : Int)
  have hc := (h.oc.lt gc rfl).1; have hf' := (h.of.lt gf rfl).1; have hb' := (h.ob.lt gb rfl).1
  exact ⟨⟨o12.other t3 n2, o2.other t3 n3, o3, h.ne, h.bf.relax hp hi ha hx hf hm hr hlt,
    ((h.kp.turn t1 (fun k e => by subst e; exact hc)).turn t2 (fun k e => by subst e; exact hf')).turn t3 (fun k e => by subst e; exact hb')⟩, c2, e2, e1, g2, g1⟩
/-- One pass over all steps, as far as it has come. -/
def PassI (J M : Nat) (d : Nat → Nat → Int) (may : Nat → Nat → Bool) (f : Nat → Nat → Int) (co : List Int) (ch : Bool) (i a x : Nat) : Prop :=
  ch = false → ∀ i' a' x', i' < J → a' < M → x' < M → (i' < i ∨ (i' = i ∧ (a' < a ∨ (a' = a ∧ x' < x)))) → 0 < f i' a' → lget co a' < farN → may i' x' = true → lget co x' ≤ lget co a' - d i' a' + d i' x'
theorem PassI.done {J M : Nat} {d : Nat → Nat → Int} {may : Nat → Nat → Bool} {f : Nat → Nat → Int} {co : List Int} (h : PassI J M d may f co false J 0 0) : StopI J M d may f co :=
  fun i a x hi ha hx hf hr hm => h rfl i a x hi ha hx (.inl hi) hf hr hm
theorem PassI.start {J M : Nat} {d : Nat → Nat → Int} {may : Nat → Nat → Bool} {f : Nat → Nat → Int} {co : List Int} : PassI J M d may f co false 0 0 0 := fun _ i' a' x' _ _ _ h => by omega
theorem PassI.yes {J M : Nat} {d : Nat → Nat → Int} {may : Nat → Nat → Bool} {f : Nat → Nat → Int} {co : List Int} {i a x : Nat} : PassI J M d may f co true i a x := fun h => by cases h
theorem PassI.next {J M : Nat} {d : Nat → Nat → Int} {may : Nat → Nat → Bool} {f : Nat → Nat → Int} {co : List Int} {ch : Bool} {i a x : Nat} (h : PassI J M d may f co ch i a x) (hs : may i x = true → lget co x ≤ lget co a - d i a + d i x) : PassI J M d may f co ch i a (x + 1) :=
  fun hc i' a' x' h1 h2 h3 h4 h5 h6 h7 => by
    by_cases e : i' = i ∧ a' = a ∧ x' = x
    · obtain ⟨rfl, rfl, rfl⟩ := e; exact hs h7
    · exact h hc i' a' x' h1 h2 h3 (by omega) h5 h6 h7
theorem PassI.site {J M : Nat} {d : Nat → Nat → Int} {may : Nat → Nat → Bool} {f : Nat → Nat → Int} {co : List Int} {ch : Bool} {i a : Nat} (h : PassI J M d may f co ch i a M) : PassI J M d may f co ch i (a + 1) 0 :=
  fun hc i' a' x' h1 h2 h3 h4 h5 h6 h7 => h hc i' a' x' h1 h2 h3 (by omega) h5 h6 h7
theorem PassI.skip {J M : Nat} {d : Nat → Nat → Int} {may : Nat → Nat → Bool} {f : Nat → Nat → Int} {co : List Int} {ch : Bool} {i a : Nat} (h : PassI J M d may f co ch i a 0) (hs : ¬ (0 < f i a ∧ lget co a < farN)) : PassI J M d may f co ch i (a + 1) 0 :=
  fun hc i' a' x' h1 h2 h3 h4 h5 h6 h7 => by
    by_cases e : i' = i ∧ a' = a
    · obtain ⟨rfl, rfl⟩ := e; exact absurd ⟨h5, h6⟩ hs
    · exact h hc i' a' x' h1 h2 h3 (by omega) h5 h6 h7
theorem PassI.row {J M : Nat} {d : Nat → Nat → Int} {may : Nat → Nat → Bool} {f : Nat → Nat → Int} {co : List Int} {ch : Bool} {i : Nat} (h : PassI J M d may f co ch i M 0) : PassI J M d may f co ch (i + 1) 0 0 :=
  fun hc i' a' x' h1 h2 h3 h4 h5 h6 h7 => h hc i' a' x' h1 h2 h3 (by omega) h5 h6 h7
/-- The labels' sum since the pass began. -/
def Fell (M : Nat) (s0 : Int) (co : List Int) (ch : Bool) : Prop := sumTo (lget co) M ≤ s0 ∧ (ch = true → sumTo (lget co) M < s0)
end Go.Proofs.YtpiijhfjliolfaaGreat

namespace Go.Proofs.YtpiijhfjliolfaaGreat
open Go.RowKit Go.Sort

set_option maxHeartbeats 400000 in
theorem l3Sum_any (A0 : Option Addr) (L : List Int) (n c0 : Nat) (w : World) (hL : IntsAt w A0 L) (hn : L.length = n) (hb : ∀ k, k ≤ n → -1000000000 ≤ (L.take k).sum ∧ (L.take k).sum ≤ 1000000000) (he : ∀ x ∈ L, -1000000000 ≤ x ∧ x ≤ 1000000000) :
    Calls Tryz.prog 67 #[.slice A0 n c0] w fun e w' => e = .returned (.int .i64 L.sum) ∧ w = w' := by
  have hm : n ≤ 9223372036854775807 := hn ▸ hL.1
  have Hn := Lib.hid hn; have Hb := Lib.hid hb; have He := Lib.hid he
  clear hn hb he
  go_enter Tryz.func67, Tryz.ntmps67
  go_wp2_with fail
  go_loop [3, 4] (fun sv iv => ∃ k : Nat, k ≤ n ∧ iv = .int .i64 k ∧ sv = .int .i64 (L.take k).sum) (fun _ iv => n - (intOf iv).toNat)
  case atStart => exact ⟨0, by omega, rfl, rfl⟩
  case round =>
    obtain ⟨k, hk, rfl, rfl⟩ := hrel
    by_cases hlt : k < n
    · have lx : k < L.length := by rw [Hn.out]; exact hlt
      obtain ⟨ad, rfl, hc⟩ := hL.at_ lx
      obtain ⟨b1, b2⟩ := Hb.out k hk
      obtain ⟨b3, b4⟩ := He.out _ (List.getElem_mem lx)
      have hsu : Hid ((L.take (k + 1)).sum = (L.take k).sum + L[k]) := by show _ = _; rw [List.take_succ_eq_append_getElem lx, List.sum_append]; simp
      generalize (L.take k).sum = q at *
      go_wp2_with fail
      go_round
      case rel => exact ⟨k + 1, by omega, by go_num, by rw [hsu.out]⟩
      case measure => simp [intOf]; omega
    · have htk := Lib.hid (show (L.take k).sum = L.sum from by rw [List.take_of_length_le (by rw [Hn.out]; omega)])
      go_wp2_with fail
      go_ret
      exact ⟨ret_int htk.out, rfl⟩
end Go.Proofs.YtpiijhfjliolfaaGreat

namespace Go.Proofs.YtpiijhfjliolfaaGreat
open Go.RowKit Go.Sort

/-- append of a whole list of numbers to a slice of the call's own. -/
theorem wpl_appAll {ops : Array Oper} {rest : List Oper} {o : Oper} {a : Act} {Q : Exit → Act → World → Prop} {W : World} (hgd : o.guard = none) (s x : Operand)
    (ho : o.op = .call { callee := .builtin .append, args := #[s, x], argTypes := #[24, 24] }) (base : Nat) (v : Value) (xs ys : List Int) (ad : Addr) (m c : Nat)
    (hs : a.eval s = v) (hx : a.eval x = .slice (some ad) m c) (hown : Own W base v xs) (hy : IntsAt W (some ad) ys) (hym : ys.length = m) (hbase : base ≤ W.heap.size) (hlen : xs.length + ys.length ≤ 4194304)
    (h : ∀ v' w', Own w' base v' (xs ++ ys) → Turn (fun i => v.ownBlock = some i) W w' → (v'.ownBlock = v.ownBlock ∨ ∀ g, v'.ownBlock = some g → W.heap.size ≤ g) → wpList Tryz.prog ops Q rest (a.put o.dst v') w') :
    wpList Tryz.prog ops Q (o :: rest) a W := by
  obtain ⟨i0, hi, hz0, hz1, hz2⟩ := info_parts infoInt
  refine wpList_append_own_at _ hgd s x 24 ho base 3 i0 (.int .i64 0) 1 8 Tryz.underlying24 hi hz0 hz1 hz2 rfl (by decide) v xs.length (xs.map (Value.int .i64)) hs hown ad m c (ys.map (Value.int .i64)) hx (by simp [hym]) ?_ (ints_oneCell _ _) ?_ ?_ hbase ?_
  · intro j u hj
    by_cases hlt : j < ys.length
    · rw [List.getElem?_map, List.getElem?_eq_getElem hlt] at hj
      have e : u = .int .i64 ys[j] := by simpa using hj.symm
      rw [e]; exact hy.some_ hlt
    · rw [List.getElem?_eq_none (by simpa using hlt)] at hj; cases hj
  · unfold maxLen; omega
  · omega
  · intro v' w' h2 h3 _ h4
    refine h v' w' ?_ (Turn.of_grown h3) ?_
    · unfold Own
      rw [List.length_append, List.map_append, hym]
      exact h2
    · rcases h4 with e | e
      · exact .inl e
      · exact .inr (fun g hg => by rw [e] at hg; simp at hg; omega)

theorem clone_some (ad : Addr) (xs : List Int) (n c : Nat) (w : World) (hx : IntsAt w (some ad) xs) (hn : xs.length = n) (hb : n ≤ 1048576) :
    Calls Tryz.prog 96 #[.slice (some ad) n c] w fun e w' => ∃ v, e = .returned v ∧ Own w' w.heap.size v xs ∧ Kp w w' := by
  have Hn := Lib.hid hn; clear hn
  have hq := fun (w : World) (a : Option Addr) (n c : Nat) => Lib.run_eql_slice_nil (P := Tryz.prog) w 24 3 a n c 0 0 Tryz.underlying24
  have hlen : ([] : List Int).length + xs.length ≤ 4194304 := by rw [Hn.out]; simp; omega
  have ho0 := own_new0 w w.heap.size (Nat.le_refl _)
  have hk0 := (Kp.refl w).alloc (.cells #[] 3)
  go_enter Tryz.func96, Tryz.ntmps96
  go_wp2_with (at_builtin; refine wpl_appAll rfl (.tmp 5) (.tmp 6) rfl w.heap.size _ [] xs ad n c rfl rfl ho0 (hx.kp hk0) Hn.out hk0.le hlen ?_; intro v' w' ho' ht' _; have hk4 := ho0.kp_turn hk0 (Nat.le_refl _) ht')
  go_ret
  exact ⟨_, rfl, by simpa using ho', hk4⟩

end Go.Proofs.YtpiijhfjliolfaaGreat

namespace Go.Proofs.YtpiijhfjliolfaaGreat
open Go.RowKit Go.Sort

theorem flRow_cell {n : Nat} {need : Int} {S row : List Int} {k : Nat} (hk : k < row.length) (h : flCell need S row[k] k = false) : flRow n need S row = false := by
  have e : flCells need S row row.length = false := by
    cases hc : flCells need S row row.length
    · rfl
    · have := flCell_iff.2 (flCells_iff.1 hc k hk)
      rw [lget_at hk, h] at this; exact absurd this (by simp)
  rw [flRow, e]; rfl
theorem flRow_end {n : Nat} {need : Int} {S row : List Int} {k : Nat} (hk : row.length ≤ k) (hk2 : k ≤ row.length) (h : flCells need S row k = true) : flRow n need S row = (decide (row.length = n) && decide (row.sum = need)) := by
  obtain rfl : k = row.length := by omega
  rw [flRow, h]; rfl
theorem flCells_mem {need : Int} {S row : List Int} (h : flCells need S row row.length = true) : ∀ x ∈ row, 0 ≤ x ∧ x ≤ need := by
  intro x hx
  obtain ⟨i, hi, rfl⟩ := List.mem_iff_getElem.1 hx
  have := flCells_iff.1 h i hi
  rw [lget_at hi] at this
  exact ⟨this.1, this.2.1⟩
theorem flCells_next {need : Int} {S row : List Int} {k : Nat} (hp : flCells need S row k = true) (hk : k < row.length) (h : flCell need S row[k] k = true) : flCells need S row (k + 1) = true := by
  rw [flCells_succ, hp, lget_at hk, h]; rfl
end Go.Proofs.YtpiijhfjliolfaaGreat

namespace Go.Proofs.YtpiijhfjliolfaaGreat
open Go.RowKit Go.Sort

theorem flow_getD {flow : List (List Int)} {j : Nat} (h : j < flow.length) : flow.getD j [] = flow[j] := by simp [List.getD, h]
theorem flAt_at {flow : List (List Int)} {j a : Nat} (h : j < flow.length) (ha : a < flow[j].length) : flow[j][a] = flAt flow j a := by
  rw [flAt, flow_getD h, lget_at ha]
end Go.Proofs.YtpiijhfjliolfaaGreat

namespace Go.Proofs.YtpiijhfjliolfaaGreat
open Go.RowKit Go.Sort

theorem dAt_at {F : Fld} {j a : Nat} (h : j < F.di.length) (ha : a < F.di[j].length) : F.di[j][a] = dAt F j (a : Int) := by
  simp [dAt, List.getD, h, ha]
theorem costRow_succ (F : Fld) (flow : List (List Int)) (j a : Nat) : costRow F flow j (a + 1) = costRow F flow j a + flAt flow j a * dAt F j (a : Int) := sumTo_succ _ _
theorem costFl_succ (F : Fld) (flow : List (List Int)) (j : Nat) : costFl F flow (j + 1) = costFl F flow j + costRow F flow j F.op.length := sumTo_succ _ _
theorem costRow_zero (F : Fld) (flow : List (List Int)) (j : Nat) : costRow F flow j 0 = 0 := rfl
set_option maxRecDepth 100000 in
set_option maxHeartbeats 2000000 in
theorem l7Cost_any (f : Value) (F : Fld) (rooms needs S : List Int) (P0 : Option Addr) (flow : List (List Int)) (m cm : Nat) (w : World) (hf : FldAt w f F) (hP : GridAt w P0 flow) (hm : flow.length = m) (hh : haulB F rooms needs S = true) (hfl : flowB F rooms needs S flow = true) :
    Calls Tryz.prog 87 #[f, .slice P0 m cm] w fun e w' => e = .returned (.int .i64 (costFl F flow F.di.length)) ∧ Kp w w' := by
  obtain ⟨A, c, B, d, rfl, hA, hB⟩ := hf
  have hk0 : Kp w (w.alloc (.cells #[.slice A F.op.length c, .slice B F.di.length d] 27)) := (Kp.refl w).alloc _
  obtain ⟨d0, d1⟩ := box2 w (.slice A F.op.length c) (.slice B F.di.length d) 27
  have hFA := FldAt.kp (show FldAt w (.agg #[.slice A F.op.length c, .slice B F.di.length d]) F from ⟨A, c, B, d, rfl, hA, hB⟩) hk0
  replace hP := hP.kp hk0
  replace hB := hB.kp hk0
  have HH := Lib.hid (haulB_iff.1 hh)
  have HG := Lib.hid (openedB_parts HH.out.1).1
  have HF := Lib.hid (goodF_iff.1 HG.out)
  have h1n := HF.out.1.1
  have h7n := HF.out.1.2
  have h7d := HF.out.2.2.1
  have HN5 := Lib.hid (fun j => (lget_all (M := 5) (by omega) HH.out.2.2.1 j).2)
  have HP := Lib.hid (flow_parts hfl)
  have Hm := Lib.hid hm
  have hmd : m = F.di.length := by rw [← hm]; exact HP.out.1
  have HR : Hid (∀ j, j < m → flRow F.op.length (lget needs j) S (flow.getD j []) = true) := fun j hj => HP.out.2.1 j (by rw [Hm.out]; exact hj)
  have HC := Lib.hid (costFl_bd HG.out HN5.out (S := S) (flow := flow) (fun j hj => HR.out j (by omega)))
  have HD := Lib.hid (fun j (hj : j < m) => costRow_bd HG.out (show j < F.di.length by omega) HN5.out (HR.out j hj))
  have Hmd := Lib.hid hmd
  have hm7 : m ≤ 7 := by omega
  clear hA hm hh hfl hmd
  go_enter Tryz.func87, Tryz.ntmps87
  go_wp2_with fail
  have hsz : Hid ((w.alloc (.cells #[.slice A F.op.length c, .slice B F.di.length d] 27)).heap.size = w.heap.size + 1) := by show _ = _; simp
  generalize w.alloc (.cells #[.slice A F.op.length c, .slice B F.di.length d] 27) = wb at *
  have hkb : Kp wb wb := Kp.refl _
  have hkw := hk0
  have q_d0 := hkb.get d0
  have q_d1 := hkb.get d1
  go_wp2_with fail
  go_loopw [5, 6] (fun sv iv wr => ∃ j : Nat, j ≤ m ∧ iv = .int .i64 j ∧ sv = .int .i64 (costFl F flow j) ∧ Kp wb wr) (fun _ iv _ => m - (intOf iv).toNat)
  case atStart => exact ⟨0, by omega, rfl, rfl, hkb⟩
  case round =>
    clear hkb
    obtain ⟨j, hj, rfl, rfl, hkb⟩ := hrel
    obtain ⟨wo, rfl⟩ : ∃ wo : World, wo = wr := ⟨_, rfl⟩
    obtain ⟨p1, p2⟩ := HC.out j (by rw [← Hmd.out]; exact hj)
    by_cases hlt : j < m
    · have lx : j < flow.length := by rw [Hm.out]; exact hlt
      have ld : j < F.di.length := by rw [← Hmd.out]; exact hlt
      obtain ⟨pd, A4, ca, hPe, hcp, hrp⟩ := hP.at_ lx
      obtain ⟨bd, A5, cb, hBe, hcr, hrr⟩ := hB.at_ ld
      subst hPe hBe
      have HRj := Lib.hid (flRow_iff.1 (HR.out j hlt))
      have Hrl : Hid (flow[j].length = F.op.length) := by show _ = _; rw [← flow_getD lx]; exact HRj.out.1
      have Hdl := Lib.hid (goodRow HG.out ld)
      have hs2 := costFl_succ F flow j
      have hz := costRow_zero F flow j
      have q_2 := hkb.get hcp
      clear q_d0 q_d1
      have q_d0 := hkb.get d0
      have q_d1 := hkb.get d1
      go_wp2_with fail
      go_loopw [5, 7] (fun sv iv wr => ∃ a : Nat, a ≤ F.op.length ∧ iv = .int .i64 a ∧ sv = .int .i64 (costFl F flow j + costRow F flow j a) ∧ Kp wb wr) (fun _ iv _ => F.op.length - (intOf iv).toNat)
      case atStart => exact ⟨0, by omega, rfl, by rw [hz]; go_num, hkb⟩
      case round =>
        clear hkb q_2
        obtain ⟨a, ha, rfl, rfl, hkb⟩ := hrel
        obtain ⟨p3, p4⟩ := HD.out j hlt a ha
        have q_2 := hkb.get hcp
        have hl9 : flow[j].length = F.op.length := Hrl.out
        by_cases hla : a < F.op.length
        · have lr : a < flow[j].length := by rw [Hrl.out]; exact hla
          have lr2 : a < F.di[j].length := by rw [Hdl.out]; exact hla
          obtain ⟨rd, rfl, hrc⟩ := hrp.at_ lr
          obtain ⟨ed, rfl, hec⟩ := hrr.at_ lr2
          rw [flAt_at lx lr] at hrc
          rw [dAt_at ld lr2] at hec
          obtain ⟨z1, z2⟩ := HRj.out.2.1 a hla
          rw [show lget (flow.getD j []) a = flAt flow j a from rfl] at z1 z2
          obtain ⟨z3, z4⟩ := dAt_bd HG.out ld (a : Int)
          have z5 := HN5.out j
          obtain ⟨z6, z7⟩ := prod_bd z1 (by omega) z3 z4
          have hsu := Lib.hid (costRow_succ F flow j a)
          clear z2 hs2 hz
          have q_3 := hkb.get hrc
          have q_4 := hkb.get hcr
          have q_5 := hkb.get hec
          clear q_d0 q_d1
          have q_d0 := hkb.get d0
          have q_d1 := hkb.get d1
          go_wp2_with fail
          go_quiet (fail)
          go_wp2_with fail
          go_roundw
          case rel => exact ⟨a + 1, by omega, by go_num, by rw [hsu.out]; go_num, hkb.drewN _⟩
          case measure => simp [intOf]; omega
        · obtain rfl : a = F.op.length := by omega
          clear q_d0 q_d1
          have q_d0 := hkb.get d0
          have q_d1 := hkb.get d1
          go_wp2_with fail
          go_roundw
          case rel => exact ⟨j + 1, by omega, by go_num, by rw [hs2], hkb⟩
          case measure => simp [intOf]; omega
    · obtain rfl : j = m := by omega
      clear q_d0 q_d1
      have q_d0 := hkb.get d0
      have q_d1 := hkb.get d1
      go_wp2_with fail
      go_ret
      exact ⟨ret_int (by rw [← Hmd.out]), hkw.trans hkb⟩
set_option maxRecDepth 100000 in
set_option maxHeartbeats 2000000 in
theorem flowCost_any (f : Value) (F : Fld) (rooms needs S : List Int) (P0 : Option Addr) (flow : List (List Int)) (m cm : Nat) (w : World) (hf : FldAt w f F) (hP : GridAt w P0 flow) (hm : flow.length = m) (hh : haulB F rooms needs S = true) (hfl : flowB F rooms needs S flow = true) :
    Calls Tryz.prog 58 #[f, .slice P0 m cm] w fun e w' => e = .returned (.int .i64 (costFl F flow F.di.length)) ∧ Kp w w' := by
  obtain ⟨A, c, B, d, rfl, hA, hB⟩ := hf
  have hk0 : Kp w (w.alloc (.cells #[.slice A F.op.length c, .slice B F.di.length d] 27)) := (Kp.refl w).alloc _
  obtain ⟨d0, d1⟩ := box2 w (.slice A F.op.length c) (.slice B F.di.length d) 27
  have hFA := FldAt.kp (show FldAt w (.agg #[.slice A F.op.length c, .slice B F.di.length d]) F from ⟨A, c, B, d, rfl, hA, hB⟩) hk0
  replace hP := hP.kp hk0
  replace hB := hB.kp hk0
  have HH := Lib.hid (haulB_iff.1 hh)
  have HG := Lib.hid (openedB_parts HH.out.1).1
  have HF := Lib.hid (goodF_iff.1 HG.out)
  have h1n := HF.out.1.1
  have h7n := HF.out.1.2
  have h7d := HF.out.2.2.1
  have HN5 := Lib.hid (fun j => (lget_all (M := 5) (by omega) HH.out.2.2.1 j).2)
  have HP := Lib.hid (flow_parts hfl)
  have Hm := Lib.hid hm
  have hmd : m = F.di.length := by rw [← hm]; exact HP.out.1
  have HR : Hid (∀ j, j < m → flRow F.op.length (lget needs j) S (flow.getD j []) = true) := fun j hj => HP.out.2.1 j (by rw [Hm.out]; exact hj)
  have HC := Lib.hid (costFl_bd HG.out HN5.out (S := S) (flow := flow) (fun j hj => HR.out j (by omega)))
  have HD := Lib.hid (fun j (hj : j < m) => costRow_bd HG.out (show j < F.di.length by omega) HN5.out (HR.out j hj))
  have Hmd := Lib.hid hmd
  have hm7 : m ≤ 7 := by omega
  clear hA hm hh hfl hmd
  go_enter Tryz.func58, Tryz.ntmps58
  go_wp2_with fail
  have hsz : Hid ((w.alloc (.cells #[.slice A F.op.length c, .slice B F.di.length d] 27)).heap.size = w.heap.size + 1) := by show _ = _; simp
  generalize w.alloc (.cells #[.slice A F.op.length c, .slice B F.di.length d] 27) = wb at *
  have hkb : Kp wb wb := Kp.refl _
  have hkw := hk0
  have q_d0 := hkb.get d0
  have q_d1 := hkb.get d1
  go_wp2_with fail
  go_loopw [5, 12] (fun sv iv wr => ∃ j : Nat, j ≤ m ∧ iv = .int .i64 j ∧ sv = .int .i64 (costFl F flow j) ∧ Kp wb wr) (fun _ iv _ => m - (intOf iv).toNat)
  case atStart => exact ⟨0, by omega, rfl, rfl, hkb⟩
  case round =>
    clear hkb
    obtain ⟨j, hj, rfl, rfl, hkb⟩ := hrel
    obtain ⟨wo, rfl⟩ : ∃ wo : World, wo = wr := ⟨_, rfl⟩
    obtain ⟨p1, p2⟩ := HC.out j (by rw [← Hmd.out]; exact hj)
    by_cases hlt : j < m
    · have lx : j < flow.length := by rw [Hm.out]; exact hlt
      have ld : j < F.di.length := by rw [← Hmd.out]; exact hlt
      obtain ⟨pd, A4, ca, hPe, hcp, hrp⟩ := hP.at_ lx
      obtain ⟨bd, A5, cb, hBe, hcr, hrr⟩ := hB.at_ ld
      subst hPe hBe
      have HRj := Lib.hid (flRow_iff.1 (HR.out j hlt))
      have Hrl : Hid (flow[j].length = F.op.length) := by show _ = _; rw [← flow_getD lx]; exact HRj.out.1
      have Hdl := Lib.hid (goodRow HG.out ld)
      have hs2 := costFl_succ F flow j
      have hz := costRow_zero F flow j
      have q_2 := hkb.get hcp
      clear q_d0 q_d1
      have q_d0 := hkb.get d0
      have q_d1 := hkb.get d1
      go_wp2_with fail
      go_loopw [5, 19] (fun sv iv wr => ∃ a : Nat, a ≤ F.op.length ∧ iv = .int .i64 a ∧ sv = .int .i64 (costFl F flow j + costRow F flow j a) ∧ Kp wb wr) (fun _ iv _ => F.op.length - (intOf iv).toNat)
      case atStart => exact ⟨0, by omega, rfl, by rw [hz]; go_num, hkb⟩
      case round =>
        clear hkb q_2
        obtain ⟨a, ha, rfl, rfl, hkb⟩ := hrel
        obtain ⟨p3, p4⟩ := HD.out j hlt a ha
        have q_2 := hkb.get hcp
        have hl9 : flow[j].length = F.op.length := Hrl.out
        by_cases hla : a < F.op.length
        · have lr : a < flow[j].length := by rw [Hrl.out]; exact hla
          have lr2 : a < F.di[j].length := by rw [Hdl.out]; exact hla
          obtain ⟨rd, rfl, hrc⟩ := hrp.at_ lr
          obtain ⟨ed, rfl, hec⟩ := hrr.at_ lr2
          rw [flAt_at lx lr] at hrc
          rw [dAt_at ld lr2] at hec
          obtain ⟨z1, z2⟩ := HRj.out.2.1 a hla
          rw [show lget (flow.getD j []) a = flAt flow j a from rfl] at z1 z2
          obtain ⟨z3, z4⟩ := dAt_bd HG.out ld (a : Int)
          have z5 := HN5.out j
          obtain ⟨z6, z7⟩ := prod_bd z1 (by omega) z3 z4
          have hsu := Lib.hid (costRow_succ F flow j a)
          clear z2 hs2 hz
          have q_3 := hkb.get hrc
          have q_4 := hkb.get hcr
          have q_5 := hkb.get hec
          clear q_d0 q_d1
          have q_d0 := hkb.get d0
          have q_d1 := hkb.get d1
          go_wp2_with fail
          go_roundw
          case rel => exact ⟨a + 1, by omega, by go_num, by rw [hsu.out]; go_num, hkb⟩
          case measure => simp [intOf]; omega
        · obtain rfl : a = F.op.length := by omega
          clear q_d0 q_d1
          have q_d0 := hkb.get d0
          have q_d1 := hkb.get d1
          go_wp2_with fail
          go_roundw
          case rel => exact ⟨j + 1, by omega, by go_num, by rw [hs2], hkb⟩
          case measure => simp [intOf]; omega
    · obtain rfl : j = m := by omega
      clear q_d0 q_d1
      have q_d0 := hkb.get d0
      have q_d1 := hkb.get d1
      go_wp2_with fail
      go_ret
      exact ⟨ret_int (by rw [← Hmd.out]), hkw.trans hkb⟩
theorem fl_bag {S : List Int} (h : ∀ y ∈ S, 0 ≤ y) (a : Nat) : (bagN S).testBit a = flHas S a := by
  rw [bagN_bit h, Bool.eq_iff_iff, decide_eq_true_eq, flHas, List.any_eq_true]
  constructor
  · intro hx; exact ⟨_, hx, by simp⟩
  · rintro ⟨y, hy, e⟩
    have : y = (a : Int) := by simpa using e
    exact this ▸ hy
end Go.Proofs.YtpiijhfjliolfaaGreat

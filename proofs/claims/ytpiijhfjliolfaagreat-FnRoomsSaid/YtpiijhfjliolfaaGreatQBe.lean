/- l1Least; The drawing of arguments: a field is made metric. No condition. -/
import Derived.Test.YtpiijhfjliolfaaGreatQAa
import Derived.Test.YtpiijhfjliolfaaGreatQBd
namespace Go.Proofs.YtpiijhfjliolfaaGreat
open Go.RowKit Go.Sort

set_option maxHeartbeats 400000 in
theorem l1Least_any (a b : Int) (w : World) :
    Calls Tryz.prog 90 #[.int .i64 a, .int .i64 b] w fun e w' => e = .returned (.int .i64 (min a b)) ∧ w = w' := by
  go_enter Tryz.func90, Tryz.ntmps90
  go_wp2
  all_goals go_ret
  all_goals refine ⟨ret_int ?_, rfl⟩
  all_goals omega
end Go.Proofs.YtpiijhfjliolfaaGreat

namespace Go.Proofs.YtpiijhfjliolfaaGreat
open Go.RowKit Go.Sort

def cellD (w : World) (a : Addr) : Int := match w.cell? a with
  | some (.int _ x) => x
  | _ => 0
/-- The sum of all numbers of the table, read from memory. -/
def totW (w : World) (B : Nat → Nat) (J M : Nat) : Int := sumTo (fun j => sumTo (fun a => cellD w ⟨B j, a, none⟩) M) J
def tblF (f : Nat → Nat → Int) (J M : Nat) : Int := sumTo (fun j => sumTo (fun a => f j a) M) J
theorem sumTo_eqD {g g' : Nat → Int} : ∀ k, (∀ i, i < k → g i = g' i) → sumTo g k = sumTo g' k
  | 0, _ => rfl
  | k + 1, h => by rw [sumTo_succ, sumTo_succ, sumTo_eqD k (fun i hi => h i (by omega)), h k (by omega)]
theorem sumTo_leD {g g' : Nat → Int} : ∀ k, (∀ i, i < k → g i ≤ g' i) → sumTo g k ≤ sumTo g' k
  | 0, _ => by simp [sumTo, mapTo]
  | k + 1, h => by
    rw [sumTo_succ, sumTo_succ]
    have := sumTo_leD k (fun i hi => h i (by omega))
    have := h k (by omega)
    omega
theorem sumTo_ltD {g g' : Nat → Int} : ∀ k, (∀ i, i < k → g i ≤ g' i) → (∃ i, i < k ∧ g i < g' i) → sumTo g k < sumTo g' k
  | 0, _, h => by obtain ⟨i, hi, _⟩ := h; omega
  | k + 1, h, ⟨i, hi, hlt⟩ => by
    rw [sumTo_succ, sumTo_succ]
    by_cases e : i = k
    · subst e
      have := sumTo_leD i (fun j hj => h j (by omega))
      omega
    · have := sumTo_ltD k (fun j hj => h j (by omega)) ⟨i, by omega, hlt⟩
      have := h k (by omega)
      omega
theorem tblF_ge {f : Nat → Nat → Int} {J M : Nat} (h : ∀ j b, j < J → b < M → 0 ≤ f j b) : 0 ≤ tblF f J M := by
  have h1 : sumTo (fun _ : Nat => (0 : Int)) J = 0 := by
    induction J with
    | zero => rfl
    | succ k ih => rw [sumTo_succ, ih (fun j b hj hb => h j b (by omega) hb)]; rfl
  have h0 : sumTo (fun _ : Nat => (0 : Int)) M = 0 := by
    clear h h1
    induction M with
    | zero => rfl
    | succ k ih => rw [sumTo_succ, ih]; rfl
  have := sumTo_leD (g := fun _ => 0) (g' := fun j => sumTo (fun a => f j a) M) J (fun j hj => by
    have := sumTo_leD (g := fun _ => 0) (g' := fun a => f j a) M (fun b hb => h j b hj hb)
    rw [h0] at this; exact this)
  rw [h1] at this
  exact this
theorem tblF_lt {f f' : Nat → Nat → Int} {J M : Nat} (h : ∀ j b, j < J → b < M → f' j b ≤ f j b) (hd : ∃ j b, j < J ∧ b < M ∧ f' j b < f j b) : tblF f' J M < tblF f J M := by
  obtain ⟨j, b, hj, hb, hlt⟩ := hd
  exact sumTo_ltD J (fun i hi => sumTo_leD M (fun c hc => h i c hi hc)) ⟨j, hj, sumTo_ltD M (fun c hc => h j c hj hc) ⟨b, hb, hlt⟩⟩
/-- While the table of the copy in the variable of block bf is lowered. -/
structure CS (w0 wr : World) (bf : Nat) (ov dv : Value) (xs : List Int) (J : Nat) (B Cp : Nat → Nat) (f : Nat → Nat → Int) : Prop where
  c0 : wr.cell? ⟨bf, 0, none⟩ = some ov
  c1 : wr.cell? ⟨bf, 1, none⟩ = some dv
  rt : wr.there (w0.heap.size + 1) 0 2
  rf : RF wr (w0.heap.size + 2) ov dv xs J B Cp f
  nb : ∀ j, j < J → B j ≠ bf
  kp : Kp w0 wr
section
variable {w0 wr wr' : World} {bf J : Nat} {ov dv : Value} {xs : List Int} {B Cp : Nat → Nat} {f : Nat → Nat → Int}
theorem CS.go (h : CS w0 wr bf ov dv xs J B Cp f) (hk : Kp wr wr') : CS w0 wr' bf ov dv xs J B Cp f :=
  ⟨hk.get h.c0, hk.get h.c1, turn_thereD (Turn.of_kp (S := fun _ => False) hk) h.rt (fun h => h), h.rf.kp hk, h.nb, h.kp.trans hk⟩
theorem CS.cell (h : CS w0 wr bf ov dv xs J B Cp f) {i j a b M : Nat} (hM : xs.length = M) (hi : i < J) (hj : j < J) (ha : a < M) (hb : b < M) : ∃ g cap, dv = .slice (some ⟨g, 0, none⟩) J cap ∧
    (wr.cell? ⟨g, i, none⟩ = some (.slice (some ⟨B i, 0, none⟩) M (Cp i)) ∧ wr.cell? ⟨g, j, none⟩ = some (.slice (some ⟨B j, 0, none⟩) M (Cp j)) ∧ wr.cell? ⟨B i, a, none⟩ = some (.int .i64 (f i a)) ∧ wr.cell? ⟨B i, b, none⟩ = some (.int .i64 (f i b)) ∧ wr.cell? ⟨B j, b, none⟩ = some (.int .i64 (f j b)) ∧ wr.cell? ⟨B j, a, none⟩ = some (.int .i64 (f j a))) ∧
    wr.frozen? ⟨B i, a, none⟩ = false ∧ ∀ z : Int, CS w0 (wr.setCell ⟨B i, a, none⟩ (.int .i64 z)) bf ov dv xs J B Cp (upd2 f i a z) := by
  obtain ⟨g, cap, rfl, hm⟩ := h.rf.di.mat (by omega)
  rw [hM] at hm
  obtain ⟨c1, c2, c3⟩ := hm.cell hi ha
  refine ⟨g, cap, rfl, hm.four hi hj ha hb, c2, fun z => ?_⟩
  obtain ⟨m2, t2⟩ := c3 z
  have hb0 := (hm.lt hi).1
  exact ⟨turn_cellD t2 h.c0 (by show bf ≠ B i; exact (h.nb i hi).symm), turn_cellD t2 h.c1 (by show bf ≠ B i; exact (h.nb i hi).symm), turn_thereD t2 h.rt (by show _ ≠ B i; omega),
    ⟨h.rf.op.turn t2 (fun g hg e => h.rf.ap i hi (e ▸ hg)), by rw [hM]; exact m2.dmat, h.rf.ap⟩, h.nb, h.kp.turn t2 (fun k hk => by omega)⟩
theorem CS.tot (h : CS w0 wr bf ov dv xs J B Cp f) {M : Nat} (hM : xs.length = M) : totW wr B J M = tblF f J M := by
  refine sumTo_eqD J (fun j hj => sumTo_eqD M (fun a ha => ?_))
  obtain ⟨_, _, _, ⟨_, _, c3, _⟩, _⟩ := h.cell hM hj hj ha ha
  unfold cellD
  rw [c3]
end
/-- How far a pass has gone: something has become less, or nothing has turned and the bend lies ahead. -/
def Far (J M : Nat) (f0 f : Nat → Nat → Int) (ahead : Prop) : Prop := (∃ j b, j < J ∧ b < M ∧ f j b < f0 j b) ∨ ((∀ j b, j < J → b < M → f j b = f0 j b) ∧ ahead)
/-- One step of a pass. -/
theorem far_step {J M : Nat} {f0 f : Nat → Nat → Int} {i j a b i0 j0 a0 b0 : Nat} {P Q : Prop} (hle : ∀ j b, j < J → b < M → f j b ≤ f0 j b) (h : Far J M f0 f P) (hi : i < J) (hj : j < J) (ha : a < M) (hb : b < M)
    (hbent : f0 i0 b0 + f0 j0 b0 + f0 j0 a0 < f0 i0 a0) (hP : P → (i = i0 ∧ j = j0 ∧ a = a0 ∧ b = b0) ∨ Q) :
    (∀ j' b', j' < J → b' < M → upd2 f i a (min (f i a) (f i b + f j b + f j a)) j' b' ≤ f0 j' b') ∧ Far J M f0 (upd2 f i a (min (f i a) (f i b + f j b + f j a))) Q := by
  have hstep : ∀ j' b', upd2 f i a (min (f i a) (f i b + f j b + f j a)) j' b' ≤ f j' b' := fun j' b' => by
    by_cases e : j' = i ∧ b' = a
    · obtain ⟨rfl, rfl⟩ := e; rw [upd2_at]; omega
    · rw [upd2_ne (by omega)]; exact Int.le_refl _
  refine ⟨fun j' b' h1 h2 => Int.le_trans (hstep j' b') (hle j' b' h1 h2), ?_⟩
  rcases h with ⟨j', b', h1, h2, h3⟩ | ⟨heq, hp⟩
  · exact .inl ⟨j', b', h1, h2, Int.lt_of_le_of_lt (hstep j' b') h3⟩
  · by_cases hmin : min (f i a) (f i b + f j b + f j a) < f i a
    · refine .inl ⟨i, a, hi, ha, ?_⟩
      rw [upd2_at, ← heq i a hi ha]; exact hmin
    · rcases hP hp with ⟨rfl, rfl, rfl, rfl⟩ | hq
      · exfalso
        rw [← heq i b hi hb, ← heq j b hj hb, ← heq j a hj ha, ← heq i a hi ha] at hbent
        omega
      · refine .inr ⟨fun j' b' h1 h2 => ?_, hq⟩
        by_cases e : j' = i ∧ b' = a
        · obtain ⟨rfl, rfl⟩ := e
          rw [upd2_at, ← heq _ _ h1 h2]; omega
        · rw [upd2_ne (by omega)]; exact heq j' b' h1 h2
theorem Far.imp {J M : Nat} {f0 f : Nat → Nat → Int} {P Q : Prop} (h : Far J M f0 f P) (hp : P → Q) : Far J M f0 f Q := by
  rcases h with h | ⟨h1, h2⟩
  · exact .inl h
  · exact .inr ⟨h1, hp h2⟩
theorem Far.done {J M : Nat} {f0 f : Nat → Nat → Int} {P : Prop} (h : Far J M f0 f P) (hp : ¬ P) (hle : ∀ j b, j < J → b < M → f j b ≤ f0 j b) : tblF f J M < tblF f0 J M := by
  rcases h with h | ⟨_, h2⟩
  · exact tblF_lt hle h
  · exact absurd h2 hp
end Go.Proofs.YtpiijhfjliolfaaGreat

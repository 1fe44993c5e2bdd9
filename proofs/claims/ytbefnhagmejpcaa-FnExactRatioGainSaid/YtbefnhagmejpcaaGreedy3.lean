/- GreedyAllowed: reference and program. No condition. -/
import Derived.Test.YtbefnhagmejpcaaGreedy
import Derived.Test.YtbefnhagmejpcaaAllow
namespace Go.Proofs.Ytbefnhagmejpcaa
open Go.RowKit Go.Sort

def galOk (F : Fld) (worth : Int) (cl li : List Int) : Bool := goodF F && worthB worth && clsB F cl li
def galL (F : Fld) (worth : Int) (cl li : List Int) : List Int := if galOk F worth cl li = true then grd F worth (allowB cl li) F.op.length [] [] else []
theorem galL_yes {F : Fld} {worth : Int} {cl li : List Int} (h : galOk F worth cl li = true) : galL F worth cl li = grd F worth (allowB cl li) F.op.length [] [] := if_pos h
theorem galL_no {F : Fld} {worth : Int} {cl li : List Int} (h : galOk F worth cl li = false) : galL F worth cl li = [] := if_neg (by simp [h])
theorem galOk_parts {F : Fld} {worth : Int} {cl li : List Int} (h : galOk F worth cl li = true) : goodF F = true ∧ (0 ≤ worth ∧ worth ≤ 999) ∧ clsB F cl li = true := by
  simp only [galOk, Bool.and_eq_true, worthB, inB_iff] at h
  exact ⟨h.1.1, h.1.2, h.2⟩
theorem galL_len (F : Fld) (worth : Int) (cl li : List Int) : (galL F worth cl li).length ≤ 1048576 := by
  by_cases h : galOk F worth cl li = true
  · rw [galL_yes h]
    have h1 := grd_len (F := F) (worth := worth) (may := allowB cl li) F.op.length [] []
    have h2 := (goodF_iff.1 (galOk_parts h).1).1.2
    simp at h1; omega
  · rw [galL_no (by simpa using h)]; simp
theorem cls_mem {F : Fld} {cl li S : List Int} (h : clsB F cl li = true) (hs : setB F S = true) : ∀ x ∈ S, 0 ≤ x ∧ x < cl.length := fun x hx => by
  have h1 := (clsB_iff.1 h).1
  have h2 := set_mem hs x hx
  omega
theorem allows_may {F : Fld} {A1 A2 : Option Addr} {cl li : List Int} {n1 c1 n2 c2 : Nat} (w : World) (h1 : IntsAt w A1 cl) (hn1 : cl.length = n1) (h2 : IntsAt w A2 li) (hn2 : li.length = n2) (hc : clsB F cl li = true) :
    Calls Try.prog 49 #[.slice A1 n1 c1, .slice A2 n2 c2] w fun e w' => ∃ caps, e = .returned (.func (.func 78) #[] caps) ∧ May F 78 caps (allowB cl li) w' ∧ Kp w w' := by
  have hi := clsB_iff.1 hc
  have h7 : n2 = 7 := by omega
  obtain ⟨ld, rfl⟩ : ∃ ld, A2 = some ld := by
    obtain ⟨ad, e, _⟩ := h2.at_ (k := 0) (by omega)
    exact ⟨ad, e⟩
  refine (allows_any w).mono ?_
  rintro e w' ⟨rfl, rfl⟩
  have hk : Kp w ((w.alloc (.cells #[.slice A1 n1 c1] 22)).alloc (.cells #[.slice (some ld) n2 c2] 22)) := ((Kp.refl w).alloc _).alloc _
  have g1 : ((w.alloc (.cells #[.slice A1 n1 c1] 22)).alloc (.cells #[.slice (some ld) n2 c2] 22)).cell? ⟨w.heap.size, 0, none⟩ = some (.slice A1 n1 c1) := by
    rw [World.cell?_alloc_past _ _ _ (by simp), World.cell?_alloc_at _ _ _ _ rfl]; rfl
  have g2 : ((w.alloc (.cells #[.slice A1 n1 c1] 22)).alloc (.cells #[.slice (some ld) n2 c2] 22)).cell? ⟨w.heap.size + 1, 0, none⟩ = some (.slice (some ld) n2 c2) := by
    rw [World.cell?_alloc_at _ _ _ _ (by simp)]; rfl
  refine ⟨_, rfl, ⟨callFunc_of Try.func78 (by kernel_rfl) (by kernel_rfl), fun S Av cv w2 hk2 hs hv => ?_⟩, hk⟩
  exact allowsClo_any Av S S.length cv _ _ ld li n2 c2 A1 cl n1 c1 w2 (hk2.get g2) (hk2.get g1) (h1.kp (hk.trans hk2)) hn1 (h2.kp (hk.trans hk2)) hn2 hv rfl (cls_mem hc hs) (fun x hx => by have := hi.2.1 x hx; omega) hi.2.2.2 (by omega) (by omega)
end Go.Proofs.Ytbefnhagmejpcaa

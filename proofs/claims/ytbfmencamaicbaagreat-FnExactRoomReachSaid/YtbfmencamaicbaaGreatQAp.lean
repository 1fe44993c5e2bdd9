/- A copy of a list: the reference's; FlowCost: reference and program; LeastFlowCost: the program. No condition. -/
import Derived.Test.YtbfmencamaicbaaGreatQAg
import Derived.Test.YtbfmencamaicbaaGreatQAj
namespace Go.Proofs.YtbfmencamaicbaaGreat
open Go.RowKit Go.Sort

set_option maxHeartbeats 400000 in
/-- A copy of the call's own. -/
theorem l1Own_any (ad : Addr) (xs : List Int) (n c : Nat) (w : World) (hx : IntsAt w (some ad) xs) (hn : xs.length = n) (hb : n ≤ 1048576) :
    Calls Tryz.prog 54 #[.slice (some ad) n c] w fun e w' => ∃ v, e = .returned v ∧ Own w' w.heap.size v xs ∧ Kp w w' := by
  have Hn := Lib.hid hn; clear hn
  have hlen : ([] : List Int).length + xs.length ≤ 4194304 := by rw [Hn.out]; simp; omega
  have ho0 := own_new0 w w.heap.size (Nat.le_refl _)
  have hk0 := (Kp.refl w).alloc (.cells #[] 3)
  go_enter Tryz.func54, Tryz.ntmps54
  go_wp2_with (at_builtin; refine wpl_appAll rfl (.tmp 3) (.tmp 4) rfl w.heap.size _ [] xs ad n c rfl rfl ho0 (hx.kp hk0) Hn.out hk0.le hlen ?_; intro v' w' ho' ht' _; have hk4 := ho0.kp_turn hk0 (Nat.le_refl _) ht')
  go_ret
  exact ⟨_, rfl, by simpa using ho', hk4⟩
end Go.Proofs.YtbfmencamaicbaaGreat

namespace Go.Proofs.YtbfmencamaicbaaGreat
open Go.RowKit Go.Sort

theorem fc_no {F : Fld} {rooms needs S : List Int} {flow : List (List Int)} (h : fcIn F rooms needs S flow = false) : Ending.returned (.tuple #[.int .i64 0, .bool false]) = .returned (.tuple #[.int .i64 (fcV F rooms needs S flow), .bool (fcIn F rooms needs S flow)]) := by simp [fcV, h]
theorem fc_yes {F : Fld} {rooms needs S : List Int} {flow : List (List Int)} (h : fcIn F rooms needs S flow = true) : Ending.returned (.tuple #[.int .i64 (costFl F flow F.di.length), .bool true]) = .returned (.tuple #[.int .i64 (fcV F rooms needs S flow), .bool (fcIn F rooms needs S flow)]) := by simp [fcV, h]
theorem fc_haul {F : Fld} {rooms needs S : List Int} {flow : List (List Int)} (h : haulB F rooms needs S = false) : fcIn F rooms needs S flow = false := by rw [fcIn, h]; rfl
theorem fc_flow {F : Fld} {rooms needs S : List Int} {flow : List (List Int)} (h : haulB F rooms needs S = true) : fcIn F rooms needs S flow = flowB F rooms needs S flow := by rw [fcIn, h]; rfl
theorem isf_no {F : Fld} {rooms needs S : List Int} {flow : List (List Int)} (h : haulB F rooms needs S = false) : Ending.returned (.tuple #[.bool false, .bool false]) = .returned (.tuple #[.bool (fcIn F rooms needs S flow), .bool (haulB F rooms needs S)]) := by simp [fcIn, h]
theorem isf_yes {F : Fld} {rooms needs S : List Int} {flow : List (List Int)} (h : haulB F rooms needs S = true) : Ending.returned (.tuple #[.bool (flowB F rooms needs S flow), .bool true]) = .returned (.tuple #[.bool (fcIn F rooms needs S flow), .bool (haulB F rooms needs S)]) := by simp [fcIn, h]
theorem fc_parts {F : Fld} {rooms needs S : List Int} {flow : List (List Int)} (h : fcIn F rooms needs S flow = true) : haulB F rooms needs S = true ∧ flowB F rooms needs S flow = true := by simpa [fcIn] using h
end Go.Proofs.YtbfmencamaicbaaGreat

namespace Go.Proofs.YtbfmencamaicbaaGreat
open Go.RowKit Go.Sort

/-- Sites of a set, whatever the client. -/
def openM (S : List Int) (_ a : Nat) : Bool := flHas S a
theorem flHas_iff {S : List Int} {a : Nat} : flHas S a = true ↔ (a : Int) ∈ S := by
  unfold flHas
  rw [List.any_eq_true]
  constructor
  · rintro ⟨x, hx, he⟩; have : x = (a : Int) := by simpa using he
    exact this ▸ hx
  · intro h; exact ⟨_, h, by simp⟩
theorem bag_has {S : List Int} (h : ∀ y ∈ S, 0 ≤ y) (a : Nat) : (bagN S).testBit a = flHas S a := by
  rw [bagN_bit h]
  cases hh : flHas S a
  · rw [decide_eq_false]; intro h2; rw [flHas_iff.2 h2] at hh; cases hh
  · exact decide_eq_true (flHas_iff.1 hh)
theorem room_bits (rooms : List Int) (b : Nat) : ∀ n, roomS rooms (bitsL n b) = sumTo (fun a => if b.testBit a = true then lget rooms a else 0) n
  | 0 => rfl
  | n + 1 => by
    rw [sumTo_succ, ← room_bits rooms b n]
    cases h : b.testBit n
    · rw [bitsL_no h]; simp
    · rw [bitsL_yes h]
      unfold roomS
      rw [List.map_append, List.sum_append]
      simp [numAt, lget]
theorem room_set {F : Fld} {S : List Int} (h : setB F S = true) (rooms : List Int) : roomS rooms S = sumTo (fun a => if flHas S a = true then lget rooms a else 0) F.op.length := by
  have h1 := room_bits rooms (bagN S) F.op.length
  rw [set_bits h] at h1
  rw [h1]
  exact sumTo_congr (fun a _ => by rw [bag_has (fun y hy => (set_mem h y hy).1)])
/-- Hauls are flows. -/
theorem haul_flow {F : Fld} {rooms needs S : List Int} {may : Nat → Nat → Bool} {fl : Nat → Nat → Int} (hm : ∀ j a, j < F.di.length → a < F.op.length → may j a = true → flHas S a = true) (h : Haul F.di.length F.op.length may (lget needs) (lget rooms) fl) : flowB F rooms needs S (matL F.di.length F.op.length fl) = true := by
  refine flow_yes (matL_len _ _ _) (flRows_iff.2 fun j hj => ?_) (flCols_iff.2 fun a ha => ?_)
  · rw [matL_len] at hj
    have hs : ∀ a, a < F.op.length → lget ((matL F.di.length F.op.length fl).getD j []) a = fl j a := fun a ha => by rw [matL_at hj, mapTo_lget ha]
    refine flRow_iff.2 ⟨by rw [matL_at hj, mapTo_len], fun a ha => ?_, ?_⟩
    · rw [hs a ha]
      have h1 := h.row j hj
      have h2 : fl j a ≤ rowS F.op.length fl j := sumTo_ge (g := fl j) (fun a ha => h.nn j a hj ha) ha
      exact ⟨h.nn j a hj ha, by omega, fun hp => hm j a hj ha (h.may j a hj ha hp)⟩
    · rw [← h.row j hj]
      exact sumTo_congr hs
  · rw [matL_len]
    have e : colS (matL F.di.length F.op.length fl) a F.di.length = colT F.di.length fl a := sumTo_congr (fun j hj => matL_fl hj ha)
    rw [e]; exact h.col a ha
theorem cost_mat {F : Fld} (fl : Nat → Nat → Int) : costFl F (matL F.di.length F.op.length fl) F.di.length = costT F.di.length F.op.length (dF F) fl :=
  sumTo_congr (fun j hj => sumTo_congr (fun a ha => by rw [matL_fl hj ha]; rfl))
theorem flow_yes' {w w' : World} {J M : Nat} {d : Nat → Nat → Int} {may : Nat → Nat → Bool} {nd rm : Nat → Int} {e : Ending} (h : FlowPost w J M d may nd rm e w') (hs : ∀ j, j < J → ¬ sumTo (fun a => if may j a = true then rm a else 0) M < sumTo nd J) :
    ∃ (g cap : Nat) (Bk Ck : Nat → Nat) (fl : Nat → Nat → Int) (lf : Nat → Int), e = .returned (.tuple #[.slice (some ⟨g, 0, none⟩) J cap, .bool true]) ∧ Mat w' w.heap.size g cap J M Bk Ck fl ∧ Net J M d may rm fl lf ∧ (∀ i, i < J → rowS M fl i = nd i) ∧ Kp w w' := by
  rcases h with h | ⟨_, _, _, j, hj, hlt⟩
  · exact h
  · exact absurd hlt (hs j hj)
theorem flow_no' {w w' : World} {J M : Nat} {d : Nat → Nat → Int} {may : Nat → Nat → Bool} {nd rm : Nat → Int} {e : Ending} (h : FlowPost w J M d may nd rm e w') (hs : ∀ x, ¬ Haul J M may nd rm x) :
    e = .returned (.tuple #[.slice none 0 0, .bool false]) ∧ Kp w w' := by
  rcases h with ⟨g, cap, Bk, Ck, fl, lf, _, _, hN, hR, _⟩ | ⟨he, hk, _⟩
  · exact absurd (hN.least hR).1 (hs fl)
  · exact ⟨he, hk⟩
def lfOk (F : Fld) (rooms needs S : List Int) : Bool := haulB F rooms needs S && decide (needs.sum ≤ roomS rooms S)
noncomputable def lfV (F : Fld) (rooms needs S : List Int) : Int := if lfOk F rooms needs S = true then lstC F.di.length F.op.length (dF F) (openM S) (lget needs) (lget rooms) else 0
theorem lfV_no {F : Fld} {rooms needs S : List Int} (h : lfOk F rooms needs S = false) : lfV F rooms needs S = 0 := if_neg (by simp [h])
theorem lfV_yes {F : Fld} {rooms needs S : List Int} (h : lfOk F rooms needs S = true) {c : Int} (hc : IsLst F.di.length F.op.length (dF F) (openM S) (lget needs) (lget rooms) c) : lfV F rooms needs S = c := by rw [lfV, if_pos h, lst_eq hc]
/-- What is needed of what is given. -/
structure HaulP (F : Fld) (rooms needs S : List Int) : Prop where
  good : goodF F = true
  set_ : setB F S = true
  ne : S ≠ []
  mem : ∀ x ∈ S, 0 ≤ x ∧ x < 7
  rl : rooms.length = F.op.length
  nl : needs.length = F.di.length
  rb : ∀ x, 0 ≤ lget rooms x ∧ lget rooms x ≤ 20
  nb : ∀ x, 0 ≤ lget needs x ∧ lget needs x ≤ 5
  ns : sumTo (lget needs) F.di.length = needs.sum
  rs : sumTo (fun a => if flHas S a = true then lget rooms a else 0) F.op.length = roomS rooms S
theorem haul_p {F : Fld} {rooms needs S : List Int} (h : haulB F rooms needs S = true) : HaulP F rooms needs S := by
  obtain ⟨h1, ⟨h2, h3⟩, h4, h5⟩ := haulB_iff.1 h
  obtain ⟨g1, g2, g3⟩ := openedB_parts h1
  have h7 := (goodF_iff.1 g1).1
  exact ⟨g1, g2, g3, fun x hx => by have := set_mem g2 x hx; omega, h3, h5, lget_all (by omega) h2, lget_all (by omega) h4, by rw [← h5, sumTo_lget], (room_set g2 rooms).symm⟩
end Go.Proofs.YtbfmencamaicbaaGreat

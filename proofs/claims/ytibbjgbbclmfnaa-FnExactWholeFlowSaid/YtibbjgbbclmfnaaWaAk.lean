/- FlowCost: reference and program; LeastFlowCost: the program; WholeFlow: plain words; The reference's nets and labels in memory; A region that draws, by an invariant: each operation once, whatever has come up before; Four new rows and a new struct in one region, in whatever order they come up. No condition. -/
import Derived.Test.YtibbjgbbclmfnaaWaAg
import Derived.Test.YtibbjgbbclmfnaaWaAj
import Derived.Deep.MidRow
namespace Go.Proofs.Ytibbjgbbclmfnaa
open Go.RowKit Go.Sort

theorem fc_no {F : Fld} {rooms needs S : List Int} {flow : List (List Int)} (h : fcIn F rooms needs S flow = false) : Ending.returned (.tuple #[.int .i64 0, .bool false]) = .returned (.tuple #[.int .i64 (fcV F rooms needs S flow), .bool (fcIn F rooms needs S flow)]) := by simp [fcV, h]
theorem fc_yes {F : Fld} {rooms needs S : List Int} {flow : List (List Int)} (h : fcIn F rooms needs S flow = true) : Ending.returned (.tuple #[.int .i64 (costFl F flow F.di.length), .bool true]) = .returned (.tuple #[.int .i64 (fcV F rooms needs S flow), .bool (fcIn F rooms needs S flow)]) := by simp [fcV, h]
theorem fc_haul {F : Fld} {rooms needs S : List Int} {flow : List (List Int)} (h : haulB F rooms needs S = false) : fcIn F rooms needs S flow = false := by rw [fcIn, h]; rfl
theorem fc_flow {F : Fld} {rooms needs S : List Int} {flow : List (List Int)} (h : haulB F rooms needs S = true) : fcIn F rooms needs S flow = flowB F rooms needs S flow := by rw [fcIn, h]; rfl
theorem isf_no {F : Fld} {rooms needs S : List Int} {flow : List (List Int)} (h : haulB F rooms needs S = false) : Ending.returned (.tuple #[.bool false, .bool false]) = .returned (.tuple #[.bool (fcIn F rooms needs S flow), .bool (haulB F rooms needs S)]) := by simp [fcIn, h]
theorem isf_yes {F : Fld} {rooms needs S : List Int} {flow : List (List Int)} (h : haulB F rooms needs S = true) : Ending.returned (.tuple #[.bool (flowB F rooms needs S flow), .bool true]) = .returned (.tuple #[.bool (fcIn F rooms needs S flow), .bool (haulB F rooms needs S)]) := by simp [fcIn, h]
theorem fc_parts {F : Fld} {rooms needs S : List Int} {flow : List (List Int)} (h : fcIn F rooms needs S flow = true) : haulB F rooms needs S = true ∧ flowB F rooms needs S flow = true := by simpa [fcIn] using h
end Go.Proofs.Ytibbjgbbclmfnaa

namespace Go.Proofs.Ytibbjgbbclmfnaa
open Go.RowKit Go.Sort

/-- Sites of a set, whatever the client. -/
def openM (S : List Int) (_ a : Nat) : Bool := flHas S a
theorem flHas_iff {S : List Int} {a : Nat} : flHas S a = true ↔ (a : Int) ∈ S := by
  unfold flHas
  rw [List.any_eq_true]
  constructor
  · rintro ⟨x, hx, he⟩; have : x = (a : Int) := by simpa using he
    exact this ▸ hx
  · intro h; exact ⟨_, h, by simp⟩
theorem bag_has {S : List Int} (h : ∀ y ∈ S, 0 ≤ y) (a : Nat) : (bagN S).testBit a = flHas S a := by
  rw [bagN_bit h]
  cases hh : flHas S a
  · rw [decide_eq_false]; intro h2; rw [flHas_iff.2 h2] at hh; cases hh
  · exact decide_eq_true (flHas_iff.1 hh)
theorem room_bits (rooms : List Int) (b : Nat) : ∀ n, roomS rooms (bitsL n b) = sumTo (fun a => if b.testBit a = true then lget rooms a else 0) n
  | 0 => rfl
  | n + 1 => by
    rw [sumTo_succ, ← room_bits rooms b n]
    cases h : b.testBit n
    · rw [bitsL_no h]; simp
    · rw [bitsL_yes h]
      unfold roomS
      rw [List.map_append, List.sum_append]
      simp [numAt, lget]
theorem room_set {F : Fld} {S : List Int} (h : setB F S = true) (rooms : List Int) : roomS rooms S = sumTo (fun a => if flHas S a = true then lget rooms a else 0) F.op.length := by
  have h1 := room_bits rooms (bagN S) F.op.length
  rw [set_bits h] at h1
  rw [h1]
  exact sumTo_congr (fun a _ => by rw [bag_has (fun y hy => (set_mem h y hy).1)])
/-- Hauls are flows. -/
theorem haul_flow {F : Fld} {rooms needs S : List Int} {may : Nat → Nat → Bool} {fl : Nat → Nat → Int} (hm : ∀ j a, j < F.di.length → a < F.op.length → may j a = true → flHas S a = true) (h : Haul F.di.length F.op.length may (lget needs) (lget rooms) fl) : flowB F rooms needs S (matL F.di.length F.op.length fl) = true := by
  refine flow_yes (matL_len _ _ _) (flRows_iff.2 fun j hj => ?_) (flCols_iff.2 fun a ha => ?_)
  · rw [matL_len] at hj
    have hs : ∀ a, a < F.op.length → lget ((matL F.di.length F.op.length fl).getD j []) a = fl j a := fun a ha => by rw [matL_at hj, mapTo_lget ha]
    refine flRow_iff.2 ⟨by rw [matL_at hj, mapTo_len], fun a ha => ?_, ?_⟩
    · rw [hs a ha]
      have h1 := h.row j hj
      have h2 : fl j a ≤ rowS F.op.length fl j := sumTo_ge (g := fl j) (fun a ha => h.nn j a hj ha) ha
      exact ⟨h.nn j a hj ha, by omega, fun hp => hm j a hj ha (h.may j a hj ha hp)⟩
    · rw [← h.row j hj]
      exact sumTo_congr hs
  · rw [matL_len]
    have e : colS (matL F.di.length F.op.length fl) a F.di.length = colT F.di.length fl a := sumTo_congr (fun j hj => matL_fl hj ha)
    rw [e]; exact h.col a ha
theorem cost_mat {F : Fld} (fl : Nat → Nat → Int) : costFl F (matL F.di.length F.op.length fl) F.di.length = costT F.di.length F.op.length (dF F) fl :=
  sumTo_congr (fun j hj => sumTo_congr (fun a ha => by rw [matL_fl hj ha]; rfl))
set_option maxHeartbeats 400000 in
theorem isOpenClo_any (S : List Int) (p : Nat) (w : World) (hS : ∀ x ∈ S, 0 ≤ x ∧ x < 7) (x0 : w.cell? ⟨p, 0, none⟩ = some (.int .u64 (bagN S))) (i a : Nat) (ha : a < 7) :
    Calls Try.prog 44 #[.int .i64 (i : Int), .int .i64 (a : Int), .pointer (some ⟨p, 0, none⟩)] w fun e w' => e = .returned (.bool (openM S i a)) ∧ Dr w w' := by
  have hb := bagN_lt (n := 7) hS
  have HB := Lib.hid (bag_has (fun y hy => (hS y hy).1) a)
  go_enter Try.func44, Try.ntmps44
  go_wp2_with fail
  with_reducible refine Calls.mono (has_any (bagN S) a _ (by omega) (by omega)) ?_
  rintro e w' ⟨rfl, hw⟩
  obtain rfl := hw
  go_wp2_with fail
  go_ret
  exact ⟨ret_bool HB.out, Dr.refl _⟩
set_option maxHeartbeats 400000 in
theorem isOpen_any (A0 : Option Addr) (S : List Int) (n c0 : Nat) (J M : Nat) (w : World) (hx : IntsAt w A0 S) (hn : S.length = n) (hS : ∀ x ∈ S, 0 ≤ x ∧ x < 7) (hM : M ≤ 7) :
    Calls Try.prog 30 #[.slice A0 n c0] w fun e w' => ∃ caps, e = .returned (.func (.func 44) #[] caps) ∧ Can 44 caps J M (openM S) w' ∧ Kp w w' := by
  have HS := Lib.hid hS
  have CC := Lib.hid (bagOf_any A0 S n c0 w hx hn (fun x hx => by have := hS x hx; omega))
  have hk0 : Kp w (w.alloc (.cells #[.int .u64 (bagN S)] 60)) := (Kp.refl w).alloc _
  have hcell : (w.alloc (.cells #[.int .u64 (bagN S)] 60)).cell? ⟨w.heap.size, 0, none⟩ = some (.int .u64 (bagN S)) := by rw [World.cell?_alloc_at _ _ _ _ rfl]; rfl
  have HC := Lib.hid (show Can 44 #[.pointer (some ⟨w.heap.size, 0, none⟩)] J M (openM S) (w.alloc (.cells #[.int .u64 (bagN S)] 60)) from
    ⟨callFunc_of Try.func44 (by kernel_rfl) (by kernel_rfl), fun i a w' hk hi ha => isOpenClo_any S w.heap.size w' HS.out (hk.get hcell) i a (by omega)⟩)
  clear hcell hS hx hn
  go_enter Try.func30, Try.ntmps30
  go_wp2_with fail
  with_reducible refine Calls.mono CC.out ?_
  rintro e w' ⟨rfl, hw⟩
  obtain rfl := hw
  clear CC
  go_wp2_with fail
  go_ret
  exact ⟨_, rfl, HC.out, hk0⟩
theorem flow_yes' {w w' : World} {J M : Nat} {d : Nat → Nat → Int} {may : Nat → Nat → Bool} {nd rm : Nat → Int} {e : Ending} (h : FlowPost w J M d may nd rm e w') (hs : ∀ j, j < J → ¬ sumTo (fun a => if may j a = true then rm a else 0) M < sumTo nd J) :
    ∃ (g cap : Nat) (Bk Ck : Nat → Nat) (fl : Nat → Nat → Int) (lf : Nat → Int), e = .returned (.tuple #[.slice (some ⟨g, 0, none⟩) J cap, .bool true]) ∧ Mat w' w.heap.size g cap J M Bk Ck fl ∧ Net J M d may rm fl lf ∧ (∀ i, i < J → rowS M fl i = nd i) ∧ Kp w w' := by
  rcases h with h | ⟨_, _, _, j, hj, hlt⟩
  · exact h
  · exact absurd hlt (hs j hj)
theorem flow_no' {w w' : World} {J M : Nat} {d : Nat → Nat → Int} {may : Nat → Nat → Bool} {nd rm : Nat → Int} {e : Ending} (h : FlowPost w J M d may nd rm e w') (hs : ∀ x, ¬ Haul J M may nd rm x) :
    e = .returned (.tuple #[.slice none 0 0, .bool false]) ∧ Kp w w' := by
  rcases h with ⟨g, cap, Bk, Ck, fl, lf, _, _, hN, hR, _⟩ | ⟨he, hk, _⟩
  · exact absurd (hN.least hR).1 (hs fl)
  · exact ⟨he, hk⟩
def lfOk (F : Fld) (rooms needs S : List Int) : Bool := haulB F rooms needs S && decide (needs.sum ≤ roomS rooms S)
noncomputable def lfV (F : Fld) (rooms needs S : List Int) : Int := if lfOk F rooms needs S = true then lstC F.di.length F.op.length (dF F) (openM S) (lget needs) (lget rooms) else 0
theorem lfV_no {F : Fld} {rooms needs S : List Int} (h : lfOk F rooms needs S = false) : lfV F rooms needs S = 0 := if_neg (by simp [h])
theorem lfV_yes {F : Fld} {rooms needs S : List Int} (h : lfOk F rooms needs S = true) {c : Int} (hc : IsLst F.di.length F.op.length (dF F) (openM S) (lget needs) (lget rooms) c) : lfV F rooms needs S = c := by rw [lfV, if_pos h, lst_eq hc]
/-- What is needed of what is given. -/
structure HaulP (F : Fld) (rooms needs S : List Int) : Prop where
  good : goodF F = true
  set_ : setB F S = true
  ne : S ≠ []
  mem : ∀ x ∈ S, 0 ≤ x ∧ x < 7
  rl : rooms.length = F.op.length
  nl : needs.length = F.di.length
  rb : ∀ x, 0 ≤ lget rooms x ∧ lget rooms x ≤ 20
  nb : ∀ x, 0 ≤ lget needs x ∧ lget needs x ≤ 5
  ns : sumTo (lget needs) F.di.length = needs.sum
  rs : sumTo (fun a => if flHas S a = true then lget rooms a else 0) F.op.length = roomS rooms S
theorem haul_p {F : Fld} {rooms needs S : List Int} (h : haulB F rooms needs S = true) : HaulP F rooms needs S := by
  obtain ⟨h1, ⟨h2, h3⟩, h4, h5⟩ := haulB_iff.1 h
  obtain ⟨g1, g2, g3⟩ := openedB_parts h1
  have h7 := (goodF_iff.1 g1).1
  exact ⟨g1, g2, g3, fun x hx => by have := set_mem g2 x hx; omega, h3, h5, lget_all (by omega) h2, lget_all (by omega) h4, by rw [← h5, sumTo_lget], (room_set g2 rooms).symm⟩
set_option maxRecDepth 100000 in
set_option maxHeartbeats 1000000 in
theorem implLf_any (f : Value) (F : Fld) (A1 : Option Addr) (rooms : List Int) (n1 c1 : Nat) (A2 : Option Addr) (needs : List Int) (n2 c2 : Nat) (A3 : Option Addr) (S : List Int) (n3 c3 : Nat) (w : World) (hf : FldAt w f F) (h1 : IntsAt w A1 rooms) (hn1 : rooms.length = n1) (h2 : IntsAt w A2 needs) (hn2 : needs.length = n2) (h3 : IntsAt w A3 S) (hn3 : S.length = n3) :
    Calls Try.prog 29 #[f, .slice A1 n1 c1, .slice A2 n2 c2, .slice A3 n3 c3] w fun e w' => e = .returned (.tuple #[.int .i64 (lfV F rooms needs S), .bool (lfOk F rooms needs S)]) ∧ Kp w w' := by
  obtain ⟨A, c, B, d, rfl, hA, hB⟩ := hf
  have hk0 : Kp w (w.alloc (.cells #[.slice A F.op.length c, .slice B F.di.length d] 29)) := (Kp.refl w).alloc _
  obtain ⟨d0, d1⟩ := box2 w (.slice A F.op.length c) (.slice B F.di.length d) 29
  have hFA := FldAt.kp (show FldAt w (.agg #[.slice A F.op.length c, .slice B F.di.length d]) F from ⟨A, c, B, d, rfl, hA, hB⟩) hk0
  replace h1 := h1.kp hk0
  replace h2 := h2.kp hk0
  replace h3 := h3.kp hk0
  have Hn1 := Lib.hid hn1; have Hn2 := Lib.hid hn2; have Hn3 := Lib.hid hn3
  clear hA hB hn1 hn2 hn3
  go_enter Try.func29, Try.ntmps29
  go_wp2_with fail
  have hsz : Hid ((w.alloc (.cells #[.slice A F.op.length c, .slice B F.di.length d] 29)).heap.size = w.heap.size + 1) := by show _ = _; simp
  generalize w.alloc (.cells #[.slice A F.op.length c, .slice B F.di.length d] 29) = wb at *
  have hkb : Kp wb wb := Kp.refl _
  have hkw := hk0
  have CC := Lib.hid (isHaul_any _ F A1 rooms n1 c1 A2 needs n2 c2 A3 S n3 c3 _ (hFA.kp hkb) (h1.kp hkb) Hn1.out (h2.kp hkb) Hn2.out (h3.kp hkb) Hn3.out)
  with_reducible refine Calls.mono CC.out ?_
  rintro e w1 ⟨rfl, hk1⟩
  clear CC
  replace hkb := hkb.trans hk1
  cases hh_ : haulB F rooms needs S
  · have Hno : Hid (lfOk F rooms needs S = false) := by show _ = _; rw [lfOk, hh_]; rfl
    clear hh_
    have q_d0 := hkb.get d0
    have q_d1 := hkb.get d1
    go_wp2_with fail
    go_ret2
    exact ⟨by rw [lfV_no Hno.out, Hno.out]; rfl, hkw.trans hkb⟩
  have HH := Lib.hid hh_
  have HP := Lib.hid (haul_p hh_)
  clear hh_
  have h7 := (goodF_iff.1 HP.out.good).1.2
  have C0 := Lib.hid (fun (wx : World) (hx : Kp w1 wx) => isOpen_any A3 S n3 c3 F.di.length F.op.length wx (h3.kp (hkb.trans hx)) Hn3.out HP.out.mem h7)
  have C1 := Lib.hid (fun (wx : World) (hx : Kp w1 wx) (caps : Array Value) (hc : Can 44 caps F.di.length F.op.length (openM S) wx) => flow_any _ F A1 rooms n1 c1 A2 needs n2 c2 44 caps (openM S) wx (hFA.kp (hkb.trans hx)) HP.out.good (h1.kp (hkb.trans hx)) Hn1.out (h2.kp (hkb.trans hx)) Hn2.out (by rw [← Hn1.out, HP.out.rl]) (by rw [← Hn2.out, HP.out.nl]) hc (fun x => by have := HP.out.rb x; omega) (fun x => by have := HP.out.nb x; omega))
  by_cases hs : needs.sum ≤ roomS rooms S
  · have Hok : Hid (lfOk F rooms needs S = true) := by show _ = _; rw [lfOk, HH.out]; simp [hs]
    have C2 := Lib.hid (fun (wx : World) (hx : Kp w1 wx) (caps : Array Value) (hc : Can 44 caps F.di.length F.op.length (openM S) wx) => (C1.out wx hx caps hc).mono (fun e w' hp => flow_yes' hp (fun j _ => by
      show ¬ sumTo (fun a => if flHas S a = true then lget rooms a else 0) F.op.length < sumTo (lget needs) F.di.length
      rw [HP.out.rs, HP.out.ns]; omega)))
    clear C1
    have q0 := hkb.get d0
    have q1 := hkb.get d1
    have hkz : Kp w1 w1 := Kp.refl _
    have q_q0 := hkz.get q0
    have q_q1 := hkz.get q1
    go_wp2_with fail
    clear q_q0 q_q1
    have q_q0 := hkz.get q0
    have q_q1 := hkz.get q1
    have tok1 : True := trivial
    go_wp2_with fail
    go_region_held3 (fun w' => w'.cell? ⟨w.heap.size, 0, none⟩ = some (.slice A F.op.length c) ∧ w'.cell? ⟨w.heap.size, 1, none⟩ = some (.slice B F.di.length d) ∧ Kp w1 w')
      (first | (refine keepc2 q0 q1 ?_; exact (by repeat (first | with_reducible assumption | with_reducible exact Kp.refl _ | with_reducible refine Kp.drew ?_ | with_reducible refine Kp.alloc ?_ _ | with_reducible refine Kp.drewN ?_ _ | refine Kp.setCell ?_ (by dsimp only; omega) _))) | fail)
      (first
        | (have _t := tok1; go_at_call 30; with_reducible refine Calls.mono (C0.out _ (by repeat (first | with_reducible assumption | with_reducible exact Kp.refl _ | with_reducible refine Kp.drew ?_ | with_reducible refine Kp.alloc ?_ _ | with_reducible refine Kp.drewN ?_ _ | refine Kp.setCell ?_ (by dsimp only; omega) _))) ?_; rintro e wr1 ⟨caps, rfl, hcan, hka⟩; have hr1 : Kp w1 wr1 := Kp.trans (by repeat (first | with_reducible assumption | with_reducible exact Kp.refl _ | with_reducible refine Kp.drew ?_ | with_reducible refine Kp.alloc ?_ _ | with_reducible refine Kp.drewN ?_ _ | refine Kp.setCell ?_ (by dsimp only; omega) _)) hka; have tok2 : True := trivial; clear tok1 _t)
        | (have _t := tok2; go_at_call 32; with_reducible refine Calls.mono (C2.out _ hr1 caps hcan) ?_; rintro e wr2 ⟨g, cap, Bk, Ck, fl, lf, rfl, hm, hN, hR, hka⟩; have hr2 : Kp w1 wr2 := Kp.trans (by repeat (first | with_reducible assumption | with_reducible exact Kp.refl _ | with_reducible refine Kp.drew ?_ | with_reducible refine Kp.alloc ?_ _ | with_reducible refine Kp.drewN ?_ _ | refine Kp.setCell ?_ (by dsimp only; omega) _)) hka; have tok3 : True := trivial; clear tok2 _t)
        | fail)
    all_goals
      have hL := Lib.hid (hN.least hR)
      have hfb := Lib.hid (haul_flow (S := S) (fun j a _ _ h => h) hL.out.1)
      have CF := Lib.hid (flowCost_any _ F rooms needs S (some ⟨g, 0, none⟩) (matL F.di.length F.op.length fl) F.di.length cap wr2 (hFA.kp (hkb.trans hr2)) (hm.grid (by have := (goodF_iff.1 HP.out.good).2.2.1; omega) (by omega)) (matL_len _ _ _) HH.out hfb.out)
      have z0 := hr2.get q0
      have z1 := hr2.get q1
      have hkf := (hkw.trans hkb).trans hr2
      have hval : Hid (lfV F rooms needs S = costFl F (matL F.di.length F.op.length fl) F.di.length) := by
        show _ = _
        rw [cost_mat]; exact lfV_yes Hok.out ⟨⟨fl, hL.out.1, rfl⟩, hL.out.2⟩
      clear hN hR hm C0 C2
      go_wp2_with fail
      with_reducible refine Calls.mono CF.out ?_
      rintro e wz ⟨rfl, hkzz⟩
      clear CF z0 z1
      go_wp2_with fail
      go_ret2
      exact ⟨by rw [hval.out, Hok.out]; rfl, hkf.trans hkzz⟩
  · have Hno : Hid (lfOk F rooms needs S = false) := by show _ = _; rw [lfOk, HH.out]; simp; omega
    have C2 := Lib.hid (fun (wx : World) (hx : Kp w1 wx) (caps : Array Value) (hc : Can 44 caps F.di.length F.op.length (openM S) wx) => (C1.out wx hx caps hc).mono (fun e w' hp => flow_no' hp (fun fl hL => by
      have h1 := haul_room hL (fun a => flHas S a) (fun j a _ _ h => h)
      rw [HP.out.rs, HP.out.ns] at h1; omega)))
    clear C1
    have q0 := hkb.get d0
    have q1 := hkb.get d1
    have hkz : Kp w1 w1 := Kp.refl _
    have q_q0 := hkz.get q0
    have q_q1 := hkz.get q1
    go_wp2_with fail
    clear q_q0 q_q1
    have q_q0 := hkz.get q0
    have q_q1 := hkz.get q1
    have tok1 : True := trivial
    go_wp2_with fail
    go_region_held3 (fun w' => w'.cell? ⟨w.heap.size, 0, none⟩ = some (.slice A F.op.length c) ∧ w'.cell? ⟨w.heap.size, 1, none⟩ = some (.slice B F.di.length d) ∧ Kp w1 w')
      (first | (refine keepc2 q0 q1 ?_; exact (by repeat (first | with_reducible assumption | with_reducible exact Kp.refl _ | with_reducible refine Kp.drew ?_ | with_reducible refine Kp.alloc ?_ _ | with_reducible refine Kp.drewN ?_ _ | refine Kp.setCell ?_ (by dsimp only; omega) _))) | fail)
      (first
        | (have _t := tok1; go_at_call 30; with_reducible refine Calls.mono (C0.out _ (by repeat (first | with_reducible assumption | with_reducible exact Kp.refl _ | with_reducible refine Kp.drew ?_ | with_reducible refine Kp.alloc ?_ _ | with_reducible refine Kp.drewN ?_ _ | refine Kp.setCell ?_ (by dsimp only; omega) _))) ?_; rintro e wr1 ⟨caps, rfl, hcan, hka⟩; have hr1 : Kp w1 wr1 := Kp.trans (by repeat (first | with_reducible assumption | with_reducible exact Kp.refl _ | with_reducible refine Kp.drew ?_ | with_reducible refine Kp.alloc ?_ _ | with_reducible refine Kp.drewN ?_ _ | refine Kp.setCell ?_ (by dsimp only; omega) _)) hka; have tok2 : True := trivial; clear tok1 _t)
        | (have _t := tok2; go_at_call 32; with_reducible refine Calls.mono (C2.out _ hr1 caps hcan) ?_; rintro e wr2 ⟨rfl, hka⟩; have hr2 : Kp w1 wr2 := Kp.trans (by repeat (first | with_reducible assumption | with_reducible exact Kp.refl _ | with_reducible refine Kp.drew ?_ | with_reducible refine Kp.alloc ?_ _ | with_reducible refine Kp.drewN ?_ _ | refine Kp.setCell ?_ (by dsimp only; omega) _)) hka; have tok3 : True := trivial; clear tok2 _t)
        | fail)
    all_goals
      go_wp2_with fail
      go_ret2
      exact ⟨by rw [lfV_no Hno.out, Hno.out]; rfl, (hkw.trans hkb).trans hr2⟩
end Go.Proofs.Ytibbjgbbclmfnaa

namespace Go.Proofs.Ytibbjgbbclmfnaa
open Go.RowKit Go.Sort

/-- What one site adds to a client's list. -/
def whAdd (F : Fld) (needs : List Int) (j : Nat) (a : Int) : Int := lget needs j * dAt F j a
/-- The best list of those that begin so; pr: a list that costs no less than the best one is given up at once. -/
def whGo (F : Fld) (needs S : List Int) (pr : Bool) : Nat → (Nat → Int) → List Int → Int → Option (List Int × Int) → Option (List Int × Int)
  | 0, _, begun, cost, best => match best with
    | none => some (begun, cost)
    | some (l, c) => if c ≤ cost then some (l, c) else some (begun, cost)
  | n + 1, left, begun, cost, best =>
    let go := S.foldl (fun b a => if left a.toNat < lget needs begun.length then b else whGo F needs S pr n (upd left a.toNat (left a.toNat - lget needs begun.length)) (begun ++ [a]) (cost + whAdd F needs begun.length a) b) best
    if pr = true then match best with
      | none => go
      | some (l, c) => if c ≤ cost then some (l, c) else go
    else go
/-- The best so far, with the first k sites of the set tried. -/
def whTo (F : Fld) (needs S : List Int) (pr : Bool) (n : Nat) (left : Nat → Int) (begun : List Int) (cost : Int) (best : Option (List Int × Int)) (k : Nat) : Option (List Int × Int) :=
  (S.take k).foldl (fun b a => if left a.toNat < lget needs begun.length then b else whGo F needs S pr n (upd left a.toNat (left a.toNat - lget needs begun.length)) (begun ++ [a]) (cost + whAdd F needs begun.length a) b) best
theorem whTo_zero {F : Fld} {needs S : List Int} {pr : Bool} {n : Nat} {left : Nat → Int} {begun : List Int} {cost : Int} {best : Option (List Int × Int)} : whTo F needs S pr n left begun cost best 0 = best := rfl
theorem whTo_succ {F : Fld} {needs S : List Int} {pr : Bool} {n : Nat} {left : Nat → Int} {begun : List Int} {cost : Int} {best : Option (List Int × Int)} {k : Nat} (hk : k < S.length) :
    whTo F needs S pr n left begun cost best (k + 1) = if left S[k].toNat < lget needs begun.length then whTo F needs S pr n left begun cost best k else whGo F needs S pr n (upd left S[k].toNat (left S[k].toNat - lget needs begun.length)) (begun ++ [S[k]]) (cost + whAdd F needs begun.length S[k]) (whTo F needs S pr n left begun cost best k) := by
  unfold whTo
  rw [List.take_succ_eq_append_getElem hk, List.foldl_append]
  rfl
theorem whGo_no {F : Fld} {needs S : List Int} {n : Nat} {left : Nat → Int} {begun : List Int} {cost : Int} {best : Option (List Int × Int)} : whGo F needs S false (n + 1) left begun cost best = whTo F needs S false n left begun cost best S.length := by
  unfold whTo; rw [List.take_length]; rfl
theorem whGo_some {F : Fld} {needs S : List Int} {n : Nat} {left : Nat → Int} {begun : List Int} {cost : Int} {l : List Int} {c : Int} : whGo F needs S true (n + 1) left begun cost (some (l, c)) = if c ≤ cost then some (l, c) else whTo F needs S true n left begun cost (some (l, c)) S.length := by
  unfold whTo; rw [List.take_length]; rfl
theorem whGo_yes {F : Fld} {needs S : List Int} {n : Nat} {left : Nat → Int} {begun : List Int} {cost : Int} {best : Option (List Int × Int)} (h : ∀ l c, best = some (l, c) → cost < c) : whGo F needs S true (n + 1) left begun cost best = whTo F needs S true n left begun cost best S.length := by
  cases best with
  | none => unfold whTo; rw [List.take_length]; rfl
  | some p =>
    obtain ⟨l, c⟩ := p
    have := h l c rfl
    rw [whGo_some, if_neg (by omega)]
theorem whGo_cut {F : Fld} {needs S : List Int} {n : Nat} {left : Nat → Int} {begun : List Int} {cost : Int} {l : List Int} {c : Int} (h : c ≤ cost) : whGo F needs S true n left begun cost (some (l, c)) = some (l, c) := by
  cases n with
  | zero => show (if c ≤ cost then some (l, c) else some (begun, cost)) = _; rw [if_pos h]
  | succ n => rw [whGo_some, if_pos h]
/-- Costs never fall: what costs no less than the best one gives nothing better. -/
theorem wh_keep {F : Fld} {needs S : List Int} (h0 : ∀ j a, 0 ≤ whAdd F needs j a) : ∀ (n : Nat) (left : Nat → Int) (begun : List Int) (cost : Int) (l : List Int) (c : Int), c ≤ cost → whGo F needs S false n left begun cost (some (l, c)) = some (l, c)
  | 0, _, begun, cost, l, c, h => by show (if c ≤ cost then some (l, c) else some (begun, cost)) = _; rw [if_pos h]
  | n + 1, left, begun, cost, l, c, h => by
    rw [whGo_no]
    have key : ∀ k, k ≤ S.length → whTo F needs S false n left begun cost (some (l, c)) k = some (l, c) := by
      intro k
      induction k with
      | zero => intro _; rfl
      | succ k ih =>
        intro hk
        rw [whTo_succ (by omega), ih (by omega)]
        split
        · rfl
        · exact wh_keep h0 n _ _ _ _ _ (by have := h0 begun.length S[k]; omega)
    exact key _ (Nat.le_refl _)
/-- To give up early makes no difference. -/
theorem wh_same {F : Fld} {needs S : List Int} (h0 : ∀ j a, 0 ≤ whAdd F needs j a) : ∀ (n : Nat) (left : Nat → Int) (begun : List Int) (cost : Int) (best : Option (List Int × Int)), whGo F needs S true n left begun cost best = whGo F needs S false n left begun cost best
  | 0, _, _, _, _ => rfl
  | n + 1, left, begun, cost, best => by
    have key : ∀ k, k ≤ S.length → whTo F needs S true n left begun cost best k = whTo F needs S false n left begun cost best k := by
      intro k
      induction k with
      | zero => intro _; rfl
      | succ k ih =>
        intro hk
        rw [whTo_succ (by omega), whTo_succ (by omega), ih (by omega), wh_same h0 n]
    by_cases hc : ∃ l c, best = some (l, c) ∧ c ≤ cost
    · obtain ⟨l, c, rfl, hle⟩ := hc
      rw [whGo_cut hle, wh_keep h0 (n + 1) left begun cost l c hle]
    · rw [whGo_yes (fun l c e => Int.not_le.1 (fun hle => hc ⟨l, c, e, hle⟩)), whGo_no]
      exact key _ (Nat.le_refl _)
/-- The whole. -/
def whR (F : Fld) (rooms needs S : List Int) : Option (List Int × Int) := whGo F needs S true F.di.length (lget rooms) [] 0 none
def whF (F : Fld) (rooms needs S : List Int) : Bool := lfOk F rooms needs S && (whR F rooms needs S).isSome
def whL (F : Fld) (rooms needs S : List Int) : List Int := if lfOk F rooms needs S = true then (match whR F rooms needs S with | none => [] | some (l, _) => l) else []
def whC (F : Fld) (rooms needs S : List Int) : Int := if lfOk F rooms needs S = true then (match whR F rooms needs S with | none => 0 | some (_, c) => c) else 0
/-- Lists that come out are as long as there are clients, and small. -/
structure WhOk (J : Nat) (best : Option (List Int × Int)) : Prop where
  len : ∀ l c, best = some (l, c) → l.length = J
  cost : ∀ l c, best = some (l, c) → 0 ≤ c ∧ c ≤ 1000000
theorem wh_ok {F : Fld} {needs S : List Int} {pr : Bool} (h0 : ∀ j a, 0 ≤ whAdd F needs j a ∧ whAdd F needs j a ≤ 495) : ∀ (n : Nat) (left : Nat → Int) (begun : List Int) (cost : Int) (best : Option (List Int × Int)) (J : Nat), begun.length + n = J → 0 ≤ cost → cost + 495 * (n : Int) ≤ 1000000 → WhOk J best → WhOk J (whGo F needs S pr n left begun cost best)
  | 0, left, begun, cost, best, J, hn, hc0, hc, hb => by
    cases best with
    | none =>
      show WhOk J (some (begun, cost))
      exact ⟨fun l c e => by cases e; omega, fun l c e => by cases e; omega⟩
    | some p =>
      obtain ⟨l, c⟩ := p
      show WhOk J (if c ≤ cost then some (l, c) else some (begun, cost))
      split
      · exact hb
      · exact ⟨fun l c e => by cases e; omega, fun l c e => by cases e; omega⟩
  | n + 1, left, begun, cost, best, J, hn, hc0, hc, hb => by
    have key : ∀ k, k ≤ S.length → WhOk J (whTo F needs S pr n left begun cost best k) := by
      intro k
      induction k with
      | zero => intro _; exact hb
      | succ k ih =>
        intro hk
        rw [whTo_succ (by omega)]
        split
        · exact ih (by omega)
        · have := h0 begun.length S[k]
          exact wh_ok h0 n _ _ _ _ J (by rw [List.length_append]; simp; omega) (by omega) (by push_cast at hc; omega) (ih (by omega))
    cases pr with
    | false => rw [whGo_no]; exact key _ (Nat.le_refl _)
    | true =>
      by_cases hcc : ∃ l c, best = some (l, c) ∧ c ≤ cost
      · obtain ⟨l, c, rfl, hle⟩ := hcc
        rw [whGo_cut hle]; exact hb
      · rw [whGo_yes (fun l c e => Int.not_le.1 (fun hle => hcc ⟨l, c, e, hle⟩))]
        exact key _ (Nat.le_refl _)
end Go.Proofs.Ytibbjgbbclmfnaa

namespace Go.Proofs.Ytibbjgbbclmfnaa
open Go.RowKit Go.Sort

/-- Where a net lies. -/
structure NetL where
  nA : Option Addr
  fA : Option Addr
  mA : Option Addr
  gn : Nat
  gr : Nat
  g : Nat
  gm : Nat
  cn : Nat
  cr : Nat
  cf : Nat
  cm : Nat
  Bk : Nat → Nat
  Ck : Nat → Nat
  Bm : Nat → Nat
  Cm : Nat → Nat
def boolRow (M : Nat) (p : Nat → Bool) : List Value := (List.range M).map fun a => Value.bool (p a)
/-- A net in memory: needs and rooms that are left, what is sent, and where more may be sent. -/
structure NetS (w : World) (base : Nat) (L : NetL) (J M : Nat) (nl lf : Nat → Int) (fl : Nat → Nat → Int) (may : Nat → Nat → Bool) : Prop where
  nd : 0 < J → Own w base (.slice (some ⟨L.gn, 0, none⟩) J L.cn) (mapTo nl J)
  na : 0 < J → L.nA = some ⟨L.gn, 0, none⟩
  rm : Own w base (.slice (some ⟨L.gr, 0, none⟩) M L.cr) (mapTo lf M)
  fa : 0 < J → L.fA = some ⟨L.g, 0, none⟩
  fl : 0 < J → Mat w base L.g L.cf J M L.Bk L.Ck fl
  ma : 0 < J → L.mA = some ⟨L.gm, 0, none⟩
  mh : 0 < J → w.ownsRow base 73 1 (.slice (some ⟨L.gm, 0, none⟩) J L.cm) J ((List.range J).map fun j => Value.slice (some ⟨L.Bm j, 0, none⟩) M (L.Cm j))
  mr : ∀ j, j < J → w.ownsRow base 4 1 (.slice (some ⟨L.Bm j, 0, none⟩) M (L.Cm j)) M (boolRow M (may j))
  a1 : 0 < J → L.gn ≠ L.gr
  a2 : ∀ j, j < J → L.Bk j ≠ L.gn ∧ L.Bk j ≠ L.gr
theorem own_eq {w : World} {base n c : Nat} {A B : Option Addr} {xs : List Int} (h : Own w base (.slice A n c) xs) (e : A = B) : Own w base (.slice B n c) xs := e ▸ h
theorem slb {b n c k : Nat} (h : (Value.slice (some ⟨b, 0, none⟩) n c).ownBlock = some k) : b = k := by simpa [Value.ownBlock] using h
theorem NetS.kp {w w' : World} {base : Nat} {L : NetL} {J M : Nat} {nl lf : Nat → Int} {fl : Nat → Nat → Int} {may : Nat → Nat → Bool} (h : NetS w base L J M nl lf fl may) (hk : Kp w w') : NetS w' base L J M nl lf fl may :=
  ⟨fun hj => (h.nd hj).kp hk, h.na, h.rm.kp hk, h.fa, fun hj => (h.fl hj).kp hk, h.ma, fun hj => hk.own (h.mh hj), fun j hj => hk.own (h.mr j hj), h.a1, h.a2⟩
theorem NetS.hcell {w : World} {base : Nat} {L : NetL} {J M : Nat} {nl lf : Nat → Int} {fl : Nat → Nat → Int} {may : Nat → Nat → Bool} (h : NetS w base L J M nl lf fl may) {j : Nat} (hj : j < J) :
    w.cell? ⟨L.gm, j, none⟩ = some (.slice (some ⟨L.Bm j, 0, none⟩) M (L.Cm j)) ∧ ∀ a, a < M → w.cell? ⟨L.Bm j, a, none⟩ = some (.bool (may j a)) := by
  constructor
  · have := World.ownsRow.cells (h.mh (by omega)) (g := L.gm) rfl j (Value.slice (some ⟨L.Bm j, 0, none⟩) M (L.Cm j)) (by simp [hj])
    rwa [add0] at this
  · intro a ha
    have := World.ownsRow.cells (h.mr j hj) (g := L.Bm j) rfl a (.bool (may j a)) (by simp [boolRow, ha])
    rwa [add0] at this
/-- A need is written. -/
theorem NetS.setNeed {w : World} {base : Nat} {L : NetL} {J M : Nat} {nl lf : Nat → Int} {fl : Nat → Nat → Int} {may : Nat → Nat → Bool} (h : NetS w base L J M nl lf fl may) {j : Nat} (hj : j < J) :
    w.cell? ⟨L.gn, j, none⟩ = some (.int .i64 (nl j)) ∧ w.frozen? ⟨L.gn, j, none⟩ = false ∧ base ≤ L.gn ∧
    ∀ z : Int, NetS (w.setCell ⟨L.gn, j, none⟩ (.int .i64 z)) base L J M (upd nl j z) lf fl may ∧ Turn (fun i => i = L.gn) w (w.setCell ⟨L.gn, j, none⟩ (.int .i64 z)) := by
  have hJ : 0 < J := by omega
  have ho := h.nd hJ
  obtain ⟨c1, c2, c3⟩ := ho.slotL (mapTo_len _ _) hj
  rw [mapTo_lget hj] at c1
  have hne : ∀ {e : TypeId} {v : Value} {n : Nat} {hs : List Value} {b : Nat}, w.ownsRow base e 1 v n hs → 3 ≠ e → v.ownBlock = some b → b ≠ L.gn := fun h2 h3 h4 e => own_blocks_ne ho h2 h3 (g := L.gn) rfl (by rw [h4, e])
  refine ⟨c1, c2, (ho.lt L.gn rfl).1, fun z => ?_⟩
  obtain ⟨o1, t1⟩ := c3 z
  rw [mapTo_set] at o1
  have hf := h.fl hJ
  refine ⟨⟨fun _ => o1, h.na, h.rm.other t1 (Ne.symm (h.a1 hJ)), h.fa, fun _ => hf.turn t1 (hne hf.hd (by decide) rfl) (fun i hi => (h.a2 i hi).1), h.ma,
    fun _ => own_turn (h.mh hJ) t1 (fun b hb => hne (h.mh hJ) (by decide) hb), fun i hi => own_turn (h.mr i hi) t1 (fun b hb => hne (h.mr i hi) (by decide) hb), h.a1, h.a2⟩, t1⟩
/-- A room is written. -/
theorem NetS.setRoom {w : World} {base : Nat} {L : NetL} {J M : Nat} {nl lf : Nat → Int} {fl : Nat → Nat → Int} {may : Nat → Nat → Bool} (h : NetS w base L J M nl lf fl may) {a : Nat} (ha : a < M) :
    w.cell? ⟨L.gr, a, none⟩ = some (.int .i64 (lf a)) ∧ w.frozen? ⟨L.gr, a, none⟩ = false ∧ base ≤ L.gr ∧
    ∀ z : Int, NetS (w.setCell ⟨L.gr, a, none⟩ (.int .i64 z)) base L J M nl (upd lf a z) fl may ∧ Turn (fun i => i = L.gr) w (w.setCell ⟨L.gr, a, none⟩ (.int .i64 z)) := by
  obtain ⟨c1, c2, c3⟩ := h.rm.slotL (mapTo_len _ _) ha
  rw [mapTo_lget ha] at c1
  have hne : ∀ {e : TypeId} {v : Value} {n : Nat} {hs : List Value} {b : Nat}, w.ownsRow base e 1 v n hs → 3 ≠ e → v.ownBlock = some b → b ≠ L.gr := fun h2 h3 h4 e => own_blocks_ne h.rm h2 h3 (g := L.gr) rfl (by rw [h4, e])
  refine ⟨c1, c2, (h.rm.lt L.gr rfl).1, fun z => ?_⟩
  obtain ⟨o1, t1⟩ := c3 z
  rw [mapTo_set] at o1
  exact ⟨⟨fun hJ => (h.nd hJ).other t1 (h.a1 hJ), h.na, o1, h.fa, fun hJ => (h.fl hJ).turn t1 (hne (h.fl hJ).hd (by decide) rfl) (fun i hi => (h.a2 i hi).2), h.ma,
    fun hJ => own_turn (h.mh hJ) t1 (fun b hb => hne (h.mh hJ) (by decide) hb), fun i hi => own_turn (h.mr i hi) t1 (fun b hb => hne (h.mr i hi) (by decide) hb), h.a1, h.a2⟩, t1⟩
/-- A number of the flow is written. -/
theorem NetS.setFlow {w : World} {base : Nat} {L : NetL} {J M : Nat} {nl lf : Nat → Int} {fl : Nat → Nat → Int} {may : Nat → Nat → Bool} (h : NetS w base L J M nl lf fl may) {j a : Nat} (hj : j < J) (ha : a < M) :
    w.cell? ⟨L.g, j, none⟩ = some (.slice (some ⟨L.Bk j, 0, none⟩) M (L.Ck j)) ∧ w.cell? ⟨L.Bk j, a, none⟩ = some (.int .i64 (fl j a)) ∧ w.frozen? ⟨L.Bk j, a, none⟩ = false ∧ base ≤ L.Bk j ∧
    ∀ z : Int, NetS (w.setCell ⟨L.Bk j, a, none⟩ (.int .i64 z)) base L J M nl lf (upd2 fl j a z) may ∧ Turn (fun i => i = L.Bk j) w (w.setCell ⟨L.Bk j, a, none⟩ (.int .i64 z)) := by
  have hJ : 0 < J := by omega
  obtain ⟨c1, c2, c3⟩ := (h.fl hJ).cell hj ha
  have ho := (h.fl hJ).row j hj
  have hne : ∀ {e : TypeId} {v : Value} {n : Nat} {hs : List Value} {b : Nat}, w.ownsRow base e 1 v n hs → 3 ≠ e → v.ownBlock = some b → b ≠ L.Bk j := fun h2 h3 h4 e => own_blocks_ne ho h2 h3 (g := L.Bk j) rfl (by rw [h4, e])
  refine ⟨(h.fl hJ).hcell hj, c1, c2, ((h.fl hJ).lt hj).1, fun z => ?_⟩
  obtain ⟨m1, t1⟩ := c3 z
  exact ⟨⟨fun _ => (h.nd hJ).other t1 (Ne.symm (h.a2 j hj).1), h.na, h.rm.other t1 (Ne.symm (h.a2 j hj).2), h.fa, fun _ => m1, h.ma,
    fun _ => own_turn (h.mh hJ) t1 (fun b hb => hne (h.mh hJ) (by decide) hb), fun i hi => own_turn (h.mr i hi) t1 (fun b hb => hne (h.mr i hi) (by decide) hb), h.a1, h.a2⟩, t1⟩
def NetL.val (L : NetL) (J M : Nat) : Value := .agg #[.slice L.nA J L.cn, .slice (some ⟨L.gr, 0, none⟩) M L.cr, .slice L.fA J L.cf, .slice L.mA J L.cm]
/-- The reference's labels in memory. -/
structure LabM (w : World) (base gc gs gb gf J M : Nat) (cl si be fr : List Int) : Prop where
  oc : Own w base (.slice (some ⟨gc, 0, none⟩) J J) cl
  os : Own w base (.slice (some ⟨gs, 0, none⟩) M M) si
  ob : Own w base (.slice (some ⟨gb, 0, none⟩) J J) be
  of : Own w base (.slice (some ⟨gf, 0, none⟩) M M) fr
  ne : gc ≠ gs ∧ gc ≠ gb ∧ gc ≠ gf ∧ gs ≠ gb ∧ gs ≠ gf ∧ gb ≠ gf
theorem LabM.kp {w w' : World} {base gc gs gb gf J M : Nat} {cl si be fr : List Int} (h : LabM w base gc gs gb gf J M cl si be fr) (hk : Kp w w') : LabM w' base gc gs gb gf J M cl si be fr :=
  ⟨h.oc.kp hk, h.os.kp hk, h.ob.kp hk, h.of.kp hk, h.ne⟩
theorem own_made' {w : World} (base n k : Nat) (hk : w.heap.size = k) (hb : base ≤ k) (hn : n ≤ 1000) : Own (w.alloc (.cells (madeCells #[.int .i64 0] n) 3)) base (.slice (some ⟨k, 0, none⟩) n n) (List.replicate n 0) := by
  subst hk; exact own_made w base n hb (by omega)
end Go.Proofs.Ytibbjgbbclmfnaa

namespace Go.Proofs.Ytibbjgbbclmfnaa
open Go.RowKit Go.Sort

section
variable {P : Program} {md : Region.Mode} {ops : Array Oper} {Q : Exit → Act → World → Prop} {S : World → Prop}
theorem unl_lt {listed : Array Bool} {i : Nat} (h : listed.getD i true = false) : (listed.setIfInBounds i true).toList.count false < listed.toList.count false := by
  obtain ⟨l⟩ := listed
  have hi : i < l.length := by
    rcases Nat.lt_or_ge i l.length with h' | h'
    · exact h'
    · exfalso
      have : (⟨l⟩ : Array Bool).getD i true = true := by
        rw [Array.getD, dif_neg (by simpa using h')]
      rw [this] at h; cases h
  have hv : l[i] = false := by simpa [Array.getD, hi] using h
  have hc : 0 < l.count false := List.count_pos_iff.2 (hv ▸ List.getElem_mem hi)
  simp only [List.setIfInBounds_toArray]
  rw [List.count_set hi]
  simp [hv]
  omega
/-- An invariant of what is listed, of the frame and of the world, kept by each operation that may come up. -/
theorem wpAnyH_inv {I : Array Bool → Act → World → Prop}
    (step : ∀ (i : Nat) (o : Oper) (listed : Array Bool) (a : Act) (w : World), ops[i]? = some o → listed.getD i true = false → (∀ e ∈ o.after, Region.binds md e = true → listed.getD e.on false = true) → I listed a w →
      ∀ K : Act → World → Prop, Shut (∀ a' w', S w' → I (listed.setIfInBounds i true) a' w' → K a' w') → if Region.wanted o (yielded ops a.tmps) = true then Oper.wp P o a w K Q else K (a.put o.dst undef) w)
    (done : ∀ listed a w, Region.ready md ops listed = [] → I listed a w → Q .normal a w) :
    ∀ (fuel : Nat) (listed : Array Bool) (a : Act) (w : World), listed.toList.count false ≤ fuel → I listed a w → wpAnyH P md ops Q S fuel listed a w := by
  intro fuel
  induction fuel with
  | zero =>
    intro listed a w hc hI
    have hr : Region.ready md ops listed = [] := by
      rw [List.eq_nil_iff_forall_not_mem]
      intro i hi
      have := unl_lt (mem_ready.1 hi).1
      omega
    exact ⟨hr, done _ _ _ hr hI⟩
  | succ fuel ih =>
    intro listed a w hc hI
    refine ⟨fun hr => done _ _ _ hr hI, fun i hi => ?_⟩
    obtain ⟨h0, o, ho, hall⟩ := mem_ready.1 hi
    have hlt := unl_lt h0
    exact wpOp_step ho (fun K' hK => step i o listed a w ho h0 hall hI K' (fun a' w' hS hI' => hK a' w' ⟨hS, ih _ a' w' (by omega) hI'⟩))
/-- The frame at hand gets a name. -/
theorem wpAnyH_act {fuel : Nat} {listed : Array Bool} {a : Act} {w : World} (h : ∀ a0, a0 = a → wpAnyH P md ops Q S fuel listed a0 w) : wpAnyH P md ops Q S fuel listed a w := h a rfl
end
/-- a is as a0 but for the slots ds. -/
def SameBut (ds : List Nat) (a0 a : Act) : Prop := a.defers = a0.defers ∧ a.tmps.size = a0.tmps.size ∧ ∀ k, k ∉ ds → a.tmps.getD k undef = a0.tmps.getD k undef
theorem SameBut.refl (ds : List Nat) (a : Act) : SameBut ds a a := ⟨rfl, rfl, fun _ _ => rfl⟩
theorem put_slot (a : Act) (d k : Nat) (v : Value) : (a.put (some d) v).tmps.getD k undef = if d = k ∧ d < a.tmps.size then v else a.tmps.getD k undef := by
  unfold Act.put
  by_cases h : d = k
  · subst h
    by_cases h2 : d < a.tmps.size
    · simp [h2]
    · simp [h2]
  · simp [h, Array.getElem?_setIfInBounds_ne h]
theorem SameBut.put {ds : List Nat} {a0 a : Act} {d : Nat} {v : Value} (h : SameBut ds a0 a) (hd : d ∈ ds) : SameBut ds a0 (a.put (some d) v) :=
  ⟨h.1, by simpa [Act.put] using h.2.1, fun k hk => by
    have e : d ≠ k := fun e => hk (e ▸ hd)
    rw [put_slot, if_neg (fun x => e x.1)]; exact h.2.2 k hk⟩
theorem act_ext {a b : Act} (hd : a.defers = b.defers) (hs : a.tmps.size = b.tmps.size) (h : ∀ k, a.tmps.getD k undef = b.tmps.getD k undef) : a = b := by
  obtain ⟨x, _⟩ := a; obtain ⟨y, _⟩ := b
  simp only at hd hs h
  subst hd
  congr 1
  apply Array.ext hs
  intro i h1 h2
  simpa [Array.getD, h1, h2] using h i
/-- The frame anew, out of what its slots hold. -/
theorem SameBut.eq {ds : List Nat} {a0 a : Act} (h : SameBut ds a0 a) (hl : ∀ d ∈ ds, d < a0.tmps.size) : a = ds.foldl (fun b d => b.put (some d) (a.tmps.getD d undef)) a0 := by
  have key : ∀ (l : List Nat) (b : Act), (∀ d ∈ l, d < b.tmps.size) → b.defers = a.defers → b.tmps.size = a.tmps.size → (∀ k, k ∉ l → b.tmps.getD k undef = a.tmps.getD k undef) →
      a = l.foldl (fun b d => b.put (some d) (a.tmps.getD d undef)) b := by
    intro l
    induction l with
    | nil => intro b _ h1 h2 h3; exact act_ext h1.symm h2.symm (fun k => (h3 k (by simp)).symm)
    | cons d l ih =>
      intro b hb h1 h2 h3
      rw [List.foldl_cons]
      have hbs : (b.put (some d) (a.tmps.getD d undef)).tmps.size = b.tmps.size := by simp [Act.put]
      refine ih _ (fun e he => by rw [hbs]; exact hb e (List.mem_cons_of_mem _ he)) h1 (by rw [hbs]; exact h2) (fun k hk => ?_)
      rw [put_slot]
      split
      · rename_i e; rw [e.1]
      · rename_i e
        refine h3 k (fun hm => ?_)
        rcases List.mem_cons.1 hm with rfl | hm
        · exact e ⟨rfl, hb k (by simp)⟩
        · exact hk hm
  exact key ds a0 hl h.1.symm h.2.1.symm (fun k hk => (h.2.2 k hk).symm)
end Go.Proofs.Ytibbjgbbclmfnaa

namespace Go.Proofs.Ytibbjgbbclmfnaa
open Go.RowKit Go.Sort

def blkV : Value → Nat
  | .slice (some x) _ _ => x.block
  | .pointer (some x) => x.block
  | _ => 0
def onL (listed : Array Bool) (k : Nat) : Prop := listed.getD k false = true
theorem onL_set {listed : Array Bool} {i k : Nat} (h : onL (listed.setIfInBounds i true) k) : k = i ∨ onL listed k := by
  by_cases e : k = i
  · exact .inl e
  · right
    unfold onL at h ⊢
    simpa [Array.getD_eq_getD_getElem?, Array.getElem?_setIfInBounds_ne (Ne.symm e)] using h
theorem onL_mono {listed : Array Bool} {i k : Nat} (h : onL listed k) : onL (listed.setIfInBounds i true) k := by
  unfold onL at h ⊢
  by_cases e : i = k
  · subst e
    have hs : i < listed.size := by
      rcases Nat.lt_or_ge i listed.size with h' | h'
      · exact h'
      · rw [Array.getD_eq_getD_getElem?, Array.getElem?_eq_none h'] at h; cases h
    simp [hs]
  · simpa [Array.getD_eq_getD_getElem?, Array.getElem?_setIfInBounds_ne e] using h
theorem onL_not {listed : Array Bool} {i k : Nat} (h0 : listed.getD i true = false) (h : onL listed k) : k ≠ i := by
  rintro rfl
  unfold onL at h
  rw [Array.getD_eq_getD_getElem?] at h h0
  cases hx : listed[k]? <;> simp [hx] at h h0
  rw [h] at h0; cases h0
def slotV (a : Act) (k : Nat) : Value := a.tmps.getD k undef
theorem slotV_put {a : Act} {d k : Nat} {v : Value} (hd : d < a.tmps.size) : slotV (a.put (some d) v) k = if k = d then v else slotV a k := by
  unfold slotV
  rw [put_slot]
  by_cases e : d = k
  · subst e; rw [if_pos ⟨rfl, hd⟩, if_pos rfl]
  · rw [if_neg (fun h => e h.1), if_neg (fun h => e h.symm)]
/-- One row: which operation makes it, into which slot, how long. -/
def rowsL (J M : Nat) : List (Nat × Nat × Nat) := [(3, 15, J), (7, 19, M), (11, 23, J), (15, 27, M)]
def objsL : List (Nat × Nat) := [(3, 15), (7, 19), (11, 23), (15, 27), (17, 5)]
structure RI (wb : World) (J M : Nat) (a0 : Act) (listed : Array Bool) (a : Act) (w : World) : Prop where
  sz : listed.size = 19
  took : ∀ k ∈ [0, 1, 2, 4, 5, 6, 8, 9, 10, 12, 13, 14], onL listed k
  same : SameBut [15, 19, 23, 27, 28, 5] a0 a
  kp : Kp wb w
  arr : ∀ k s n, (k, s, n) ∈ rowsL J M → onL listed k → ∃ g, slotV a s = .slice (some ⟨g, 0, none⟩) n n ∧ Own w wb.heap.size (.slice (some ⟨g, 0, none⟩) n n) (List.replicate n 0)
  ptr : onL listed 17 → ∃ bp, slotV a 5 = .pointer (some ⟨bp, 0, none⟩) ∧ wb.heap.size ≤ bp ∧ bp < w.heap.size ∧ w.there bp 0 4
  apart : ∀ k s k' s', (k, s) ∈ objsL → (k', s') ∈ objsL → s ≠ s' → onL listed k → onL listed k' → blkV (slotV a s) ≠ blkV (slotV a s')
  agg : onL listed 16 → slotV a 28 = .agg #[slotV a 15, slotV a 19, slotV a 23, slotV a 27]
  d16 : onL listed 16 → onL listed 3 ∧ onL listed 7 ∧ onL listed 11 ∧ onL listed 15
  st : onL listed 18 → w.rangeAt (blkV (slotV a 5)) 0 [slotV a 15, slotV a 19, slotV a 23, slotV a 27]
  d18 : onL listed 18 → onL listed 16 ∧ onL listed 17
theorem RI.size {wb : World} {J M : Nat} {a0 : Act} {listed : Array Bool} {a : Act} {w : World} (h : RI wb J M a0 listed a w) : a.tmps.size = a0.tmps.size := h.same.2.1
theorem RI.blt {wb : World} {J M : Nat} {a0 : Act} {listed : Array Bool} {a : Act} {w : World} (h : RI wb J M a0 listed a w) {k s : Nat} (hm : (k, s) ∈ objsL) (ho : onL listed k) : blkV (slotV a s) < w.heap.size := by
  have row : ∀ n, (k, s, n) ∈ rowsL J M → blkV (slotV a s) < w.heap.size := fun n hr => by
    obtain ⟨g, e, o⟩ := h.arr k s n hr ho
    rw [e]; exact (o.lt g rfl).2
  simp only [objsL, List.mem_cons, List.not_mem_nil, or_false, Prod.mk.injEq] at hm
  rcases hm with ⟨rfl, rfl⟩ | ⟨rfl, rfl⟩ | ⟨rfl, rfl⟩ | ⟨rfl, rfl⟩ | ⟨rfl, rfl⟩
  · exact row J (by simp [rowsL])
  · exact row M (by simp [rowsL])
  · exact row J (by simp [rowsL])
  · exact row M (by simp [rowsL])
  · obtain ⟨bp, e, _, h3, _⟩ := h.ptr ho
    rw [e]; exact h3
theorem objs_slot {k s k' : Nat} (h : (k, s) ∈ objsL) (h' : (k', s) ∈ objsL) : k = k' := by
  simp only [objsL, List.mem_cons, List.not_mem_nil, or_false, Prod.mk.injEq] at h h'
  omega
theorem objs_op {k s s' : Nat} (h : (k, s) ∈ objsL) (h' : (k, s') ∈ objsL) : s = s' := by
  simp only [objsL, List.mem_cons, List.not_mem_nil, or_false, Prod.mk.injEq] at h h'
  omega
theorem rows_objs {J M k s n : Nat} (h : (k, s, n) ∈ rowsL J M) : (k, s) ∈ objsL := by
  simp only [rowsL, List.mem_cons, List.not_mem_nil, or_false, Prod.mk.injEq] at h
  simp only [objsL, List.mem_cons, List.not_mem_nil, or_false, Prod.mk.injEq]
  omega
theorem rows_len {J M k s n n' : Nat} (h : (k, s, n) ∈ rowsL J M) (h' : (k, s, n') ∈ rowsL J M) : n = n' := by
  simp only [rowsL, List.mem_cons, List.not_mem_nil, or_false, Prod.mk.injEq] at h h'
  omega
theorem there_kp {w w' : World} {b n : Nat} (h : w.there b 0 n) (hk : Kp w w') : w'.there b 0 n := fun j hj => by
  obtain ⟨h1, h2⟩ := h j hj
  obtain ⟨v, hv⟩ := Option.isSome_iff_exists.1 h1
  exact ⟨by rw [hk.get hv]; rfl, by rw [hk.froz hv]; exact h2⟩
theorem range_kp {w w' : World} {b o : Nat} {cs : List Value} (h : w.rangeAt b o cs) (hk : Kp w w') : w'.rangeAt b o cs := fun j v hv => hk.get (h j v hv)
/-- A new object comes up. -/
theorem RI.new {wb : World} {J M : Nat} {a0 : Act} {listed : Array Bool} {a : Act} {w w' : World} {k s : Nat} {v : Value} (h : RI wb J M a0 listed a w) (hsz : a0.tmps.size = 180) (h0 : listed.getD k true = false) (hm : (k, s) ∈ objsL) (hk : Kp w w') (hb : blkV v = w.heap.size) (hlt : w.heap.size < w'.heap.size)
    (har : ∀ n, (k, s, n) ∈ rowsL J M → v = .slice (some ⟨w.heap.size, 0, none⟩) n n ∧ Own w' wb.heap.size (.slice (some ⟨w.heap.size, 0, none⟩) n n) (List.replicate n 0))
    (hpt : k = 17 → v = .pointer (some ⟨w.heap.size, 0, none⟩) ∧ w'.there w.heap.size 0 4) : RI wb J M a0 (listed.setIfInBounds k true) (a.put (some s) v) w' := by
  have hs28 : s < 28 := by
    simp only [objsL, List.mem_cons, List.not_mem_nil, or_false, Prod.mk.injEq] at hm; omega
  have hss : s < a.tmps.size := by rw [h.size, hsz]; omega
  have hk16 : k ≠ 16 ∧ k ≠ 18 := by
    simp only [objsL, List.mem_cons, List.not_mem_nil, or_false, Prod.mk.injEq] at hm; omega
  have keep : ∀ s', s' ≠ s → slotV (a.put (some s) v) s' = slotV a s' := fun s' e => by rw [slotV_put hss, if_neg e]
  have kself : slotV (a.put (some s) v) s = v := by rw [slotV_put hss, if_pos rfl]
  have o16 : onL (listed.setIfInBounds k true) 16 → onL listed 16 := fun ho => by
    rcases onL_set ho with e | e
    · exact absurd e.symm hk16.1
    · exact e
  have o18 : onL (listed.setIfInBounds k true) 18 → onL listed 18 := fun ho => by
    rcases onL_set ho with e | e
    · exact absurd e.symm hk16.2
    · exact e
  have nots : ∀ {k' s'}, (k', s') ∈ objsL → onL listed k' → s' ≠ s := fun {k' s'} hm' ho e => by
    subst e
    exact onL_not h0 ho (objs_slot hm' hm)
  refine ⟨by simpa using h.sz, fun k' hk' => onL_mono (h.took k' hk'), h.same.put (by
    simp only [objsL, List.mem_cons, List.not_mem_nil, or_false, Prod.mk.injEq] at hm
    simp only [List.mem_cons, List.not_mem_nil, or_false]; omega), h.kp.trans hk, ?_, ?_, ?_, ?_, ?_, ?_, ?_⟩
  · intro k' s' n hr ho
    by_cases e : k' = k
    · subst e
      have es : s' = s := objs_op (rows_objs hr) hm
      subst es
      obtain ⟨e1, e2⟩ := har n hr
      exact ⟨w.heap.size, by rw [kself, e1], e2⟩
    · have ho' : onL listed k' := (onL_set ho).resolve_left e
      obtain ⟨g, e1, e2⟩ := h.arr k' s' n hr ho'
      exact ⟨g, by rw [keep s' (nots (rows_objs hr) ho')]; exact e1, e2.kp hk⟩
  · intro ho
    by_cases e : 17 = k
    · subst e
      have es : s = 5 := objs_op hm (by simp [objsL])
      subst es
      obtain ⟨e1, e2⟩ := hpt rfl
      exact ⟨w.heap.size, by rw [kself, e1], h.kp.le, hlt, e2⟩
    · have ho' : onL listed 17 := (onL_set ho).resolve_left e
      obtain ⟨bp, e1, e2, e3, e4⟩ := h.ptr ho'
      exact ⟨bp, by rw [keep 5 (nots (k' := 17) (by simp [objsL]) ho')]; exact e1, e2, by omega, there_kp e4 hk⟩
  · intro k1 s1 k2 s2 m1 m2 hne o1 o2
    by_cases e1 : k1 = k
    · subst e1
      have es : s1 = s := objs_op m1 hm
      subst es
      by_cases e2 : k2 = k1
      · subst e2; exact absurd (objs_op m1 m2) hne
      · have o2' : onL listed k2 := (onL_set o2).resolve_left e2
        rw [kself, keep s2 (Ne.symm hne), hb]
        exact Nat.ne_of_gt (h.blt m2 o2')
    · have o1' : onL listed k1 := (onL_set o1).resolve_left e1
      by_cases e2 : k2 = k
      · subst e2
        have es : s2 = s := objs_op m2 hm
        subst es
        rw [kself, keep s1 hne, hb]
        exact Nat.ne_of_lt (h.blt m1 o1')
      · have o2' : onL listed k2 := (onL_set o2).resolve_left e2
        rw [keep s1 (nots m1 o1'), keep s2 (nots m2 o2')]
        exact h.apart k1 s1 k2 s2 m1 m2 hne o1' o2'
  · intro ho
    have ho' := o16 ho
    obtain ⟨a3, a7, a11, a15⟩ := h.d16 ho'
    rw [keep 28 (by omega), keep 15 (nots (k' := 3) (by simp [objsL]) a3), keep 19 (nots (k' := 7) (by simp [objsL]) a7), keep 23 (nots (k' := 11) (by simp [objsL]) a11), keep 27 (nots (k' := 15) (by simp [objsL]) a15)]
    exact h.agg ho'
  · intro ho
    obtain ⟨a3, a7, a11, a15⟩ := h.d16 (o16 ho)
    exact ⟨onL_mono a3, onL_mono a7, onL_mono a11, onL_mono a15⟩
  · intro ho
    have ho' := o18 ho
    obtain ⟨b16, b17⟩ := h.d18 ho'
    obtain ⟨a3, a7, a11, a15⟩ := h.d16 b16
    rw [keep 5 (nots (k' := 17) (by simp [objsL]) b17), keep 15 (nots (k' := 3) (by simp [objsL]) a3), keep 19 (nots (k' := 7) (by simp [objsL]) a7), keep 23 (nots (k' := 11) (by simp [objsL]) a11), keep 27 (nots (k' := 15) (by simp [objsL]) a15)]
    exact range_kp (h.st ho') hk
  · intro ho
    obtain ⟨b16, b17⟩ := h.d18 (o18 ho)
    exact ⟨onL_mono b16, onL_mono b17⟩
/-- The struct is put together. -/
theorem RI.build {wb : World} {J M : Nat} {a0 : Act} {listed : Array Bool} {a : Act} {w : World} (h : RI wb J M a0 listed a w) (hsz : a0.tmps.size = 180) (h0 : listed.getD 16 true = false) (hd : onL listed 3 ∧ onL listed 7 ∧ onL listed 11 ∧ onL listed 15) :
    RI wb J M a0 (listed.setIfInBounds 16 true) (a.put (some 28) (.agg #[slotV a 15, slotV a 19, slotV a 23, slotV a 27])) w := by
  have hss : 28 < a.tmps.size := by rw [h.size, hsz]; omega
  have keep : ∀ s', s' ≠ 28 → slotV (a.put (some 28) (.agg #[slotV a 15, slotV a 19, slotV a 23, slotV a 27])) s' = slotV a s' := fun s' e => by rw [slotV_put hss, if_neg e]
  have kself : slotV (a.put (some 28) (.agg #[slotV a 15, slotV a 19, slotV a 23, slotV a 27])) 28 = .agg #[slotV a 15, slotV a 19, slotV a 23, slotV a 27] := by rw [slotV_put hss, if_pos rfl]
  have ob : ∀ {k s}, (k, s) ∈ objsL → s ≠ 28 ∧ k ≠ 16 := fun {k s} hm => by
    simp only [objsL, List.mem_cons, List.not_mem_nil, or_false, Prod.mk.injEq] at hm; omega
  have oth : ∀ {k s}, (k, s) ∈ objsL → onL (listed.setIfInBounds 16 true) k → onL listed k := fun hm ho => (onL_set ho).resolve_left (ob hm).2
  have o18 : onL (listed.setIfInBounds 16 true) 18 → onL listed 18 := fun ho => (onL_set ho).resolve_left (by omega)
  refine ⟨by simpa using h.sz, fun k' hk' => onL_mono (h.took k' hk'), h.same.put (by simp), h.kp, ?_, ?_, ?_, ?_, ?_, ?_, ?_⟩
  · intro k' s' n hr ho
    rw [keep s' (ob (rows_objs hr)).1]
    exact h.arr k' s' n hr (oth (rows_objs hr) ho)
  · intro ho
    rw [keep 5 (by omega)]
    exact h.ptr (oth (s := 5) (by simp [objsL]) ho)
  · intro k1 s1 k2 s2 m1 m2 hne o1 o2
    rw [keep s1 (ob m1).1, keep s2 (ob m2).1]
    exact h.apart k1 s1 k2 s2 m1 m2 hne (oth m1 o1) (oth m2 o2)
  · intro _
    rw [kself, keep 15 (by omega), keep 19 (by omega), keep 23 (by omega), keep 27 (by omega)]
  · intro _; exact ⟨onL_mono hd.1, onL_mono hd.2.1, onL_mono hd.2.2.1, onL_mono hd.2.2.2⟩
  · intro ho
    rw [keep 5 (by omega), keep 15 (by omega), keep 19 (by omega), keep 23 (by omega), keep 27 (by omega)]
    exact h.st (o18 ho)
  · intro ho
    obtain ⟨b16, b17⟩ := h.d18 (o18 ho)
    exact ⟨onL_mono b16, onL_mono b17⟩
theorem turn_cell (w : World) (p : Addr) (v : Value) : Turn (fun i => i = p.block) w (w.setCell p v) :=
  ⟨rfl, rfl, rfl, by simp [World.setCell], fun i _ hn => Below.heap_setCell _ _ _ _ (by exact hn)⟩
theorem size_setCells' (b : Nat) : ∀ (vs : List Value) (o : Nat) (w : World), (w.setCells b o vs).heap.size = w.heap.size
  | [], _, _ => rfl
  | v :: r, o, w => by rw [World.setCells, size_setCells' b r]; simp
theorem turn_setCells (b : Nat) : ∀ (vs : List Value) (o : Nat) (w : World), Turn (fun i => i = b) w (w.setCells b o vs)
  | [], _, w => Turn.refl _ w
  | v :: r, o, w => by
    rw [World.setCells]
    exact (turn_cell w ⟨b, o, none⟩ v).trans (turn_setCells b r (o + 1) _)
/-- The struct is stored. -/
theorem RI.store {wb : World} {J M : Nat} {a0 : Act} {listed : Array Bool} {a : Act} {w : World} (h : RI wb J M a0 listed a w) (h0 : listed.getD 18 true = false) (hd : onL listed 16 ∧ onL listed 17) {bp : Nat} (hbp : slotV a 5 = .pointer (some ⟨bp, 0, none⟩)) :
    RI wb J M a0 (listed.setIfInBounds 18 true) (a.put none undef) (w.setCells bp 0 [slotV a 15, slotV a 19, slotV a 23, slotV a 27]) := by
  have e0 : a.put none undef = a := rfl
  rw [e0]
  have ht := turn_setCells bp [slotV a 15, slotV a 19, slotV a 23, slotV a 27] 0 w
  obtain ⟨bp', e1, e2, e3, e4⟩ := h.ptr hd.2
  rw [hbp] at e1
  have eb : bp = bp' := by simpa using e1
  subst eb
  have oth : ∀ {k}, k ≠ 18 → onL (listed.setIfInBounds 18 true) k → onL listed k := fun hm ho => (onL_set ho).resolve_left hm
  have ob : ∀ {k s}, (k, s) ∈ objsL → k ≠ 18 := fun {k s} hm => by
    simp only [objsL, List.mem_cons, List.not_mem_nil, or_false, Prod.mk.injEq] at hm; omega
  refine ⟨by simpa using h.sz, fun k' hk' => onL_mono (h.took k' hk'), h.same, h.kp.turn ht (fun k e => by subst e; exact e2), ?_, ?_, ?_, ?_, ?_, ?_, ?_⟩
  · intro k' s' n hr ho
    have ho' := oth (ob (rows_objs hr)) ho
    obtain ⟨g, q1, q2⟩ := h.arr k' s' n hr ho'
    refine ⟨g, q1, q2.turn ht (fun k2 hk2 he => ?_)⟩
    have hap := h.apart k' s' 17 5 (rows_objs hr) (by simp [objsL]) (fun e => by
      subst e
      have := objs_slot (rows_objs hr) (k' := 17) (by simp [objsL])
      subst this
      simp [rowsL] at hr) ho' hd.2
    rw [q1, hbp] at hap
    have : g = k2 := by simpa [Value.ownBlock] using hk2
    subst this
    exact hap he
  · intro _
    exact ⟨bp, hbp, e2, by rw [size_setCells']; exact e3, World.there_setCells e4 bp 0 _⟩
  · intro k1 s1 k2 s2 m1 m2 hne o1 o2
    exact h.apart k1 s1 k2 s2 m1 m2 hne (oth (ob m1) o1) (oth (ob m2) o2)
  · intro ho; exact h.agg (oth (by omega) ho)
  · intro ho
    obtain ⟨a3, a7, a11, a15⟩ := h.d16 (oth (by omega) ho)
    exact ⟨onL_mono a3, onL_mono a7, onL_mono a11, onL_mono a15⟩
  · intro _
    rw [hbp]
    exact World.rangeAt_setCells_same w bp 0 _ e4
  · intro _; exact ⟨onL_mono hd.1, onL_mono hd.2⟩
theorem onL_of {listed : Array Bool} {i : Nat} (hs : i < listed.size) (h : ¬ listed.getD i true = false) : onL listed i := by
  unfold onL
  rw [Array.getD_eq_getD_getElem?] at h ⊢
  rw [Array.getElem?_eq_getElem hs] at h ⊢
  simpa using h
theorem there_new (w : World) (vs : Array Value) (t : TypeId) : (w.alloc (.cells vs t)).there w.heap.size 0 vs.size := fun j hj => by
  constructor
  · rw [World.cell?_alloc_at _ _ _ _ rfl]; simp [hj]
  · simp
theorem there_new' (w : World) (vs : Array Value) (t : TypeId) {n : Nat} (hn : w.heap.size = n) : (w.alloc (.cells vs t)).there n 0 vs.size := hn ▸ there_new w vs t
theorem ready_next {md : Region.Mode} {ops : Array Oper} {listed : Array Bool} {m : Nat} {o : Oper} (hr : Region.ready md ops listed = []) (hs : m < listed.size) (ho : ops[m]? = some o) (ha : o.after.all (fun e => decide (e.on < m)) = true) (hl : ∀ k, k < m → onL listed k) : onL listed m :=
  onL_of hs (fun h0 => by
    have hm : m ∈ Region.ready md ops listed := mem_ready.2 ⟨h0, o, ho, fun e he _ => hl e.on (of_decide_eq_true (Array.all_eq_true_iff_forall_mem.1 ha e he))⟩
    rw [hr] at hm; cases hm)
section
variable {P : Program}
theorem wp_make' {op : Oper} {a : Act} {w w' : World} {K : Act → World → Prop} {Q : Exit → Act → World → Prop} (t : TypeId) (l c : Operand) {n : Nat} {v : Value} (ho : op.op = .makeSlice t l c) (hl : a.eval l = .int .i64 (n : Int)) (hc : a.eval c = .int .i64 (n : Int))
    (hrun : (Instr.makeSlice t (.int .i64 (n : Int)) (.int .i64 (n : Int))).run P w = .ok v w') (h : K (a.put op.dst v) w') : op.wp P a w K Q := by
  unfold Oper.wp
  simp [execOp, ho, hl, hc, hrun, Result.andThen]
  exact h
end
end Go.Proofs.Ytibbjgbbclmfnaa

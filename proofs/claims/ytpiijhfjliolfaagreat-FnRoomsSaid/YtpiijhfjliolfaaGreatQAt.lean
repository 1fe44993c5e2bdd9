/- A copy of a list: the reference's; FlowCost: reference and program; LeastFlowCost: the program. No condition. -/
import Derived.Test.YtpiijhfjliolfaaGreatQAk
import Derived.Test.YtpiijhfjliolfaaGreatQAn
namespace Go.Proofs.YtpiijhfjliolfaaGreat
open Go.RowKit Go.Sort

set_option maxHeartbeats 400000 in
/-- A copy of the call's own. -/
theorem l1Own_any (ad : Addr) (xs : List Int) (n c : Nat) (w : World) (hx : IntsAt w (some ad) xs) (hn : xs.length = n) (hb : n ≤ 1048576) :
    Calls Tryz.prog 44 #[.slice (some ad) n c] w fun e w' => ∃ v, e = .returned v ∧ Own w' w.heap.size v xs ∧ Kp w w' := by
  have Hn := Lib.hid hn; clear hn
  have hlen : ([] : List Int).length + xs.length ≤ 4194304 := by rw [Hn.out]; simp; omega
  have ho0 := own_new0 w w.heap.size (Nat.le_refl _)
  have hk0 := (Kp.refl w).alloc (.cells #[] 3)
  go_enter Tryz.func44, Tryz.ntmps44
  go_wp2_with (at_builtin; refine wpl_appAll rfl (.tmp 3) (.tmp 4) rfl w.heap.size _ [] xs ad n c rfl rfl ho0 (hx.kp hk0) Hn.out hk0.le hlen ?_; intro v' w' ho' ht' _; have hk4 := ho0.kp_turn hk0 (Nat.le_refl _) ht')
  go_ret
  exact ⟨_, rfl, by simpa using ho', hk4⟩
end Go.Proofs.YtpiijhfjliolfaaGreat

namespace Go.Proofs.YtpiijhfjliolfaaGreat
open Go.RowKit Go.Sort

theorem fc_no {F : Fld} {rooms needs S : List Int} {flow : List (List Int)} (h : fcIn F rooms needs S flow = false) : Ending.returned (.tuple #[.int .i64 0, .bool false]) = .returned (.tuple #[.int .i64 (fcV F rooms needs S flow), .bool (fcIn F rooms needs S flow)]) := by simp [fcV, h]
theorem fc_yes {F : Fld} {rooms needs S : List Int} {flow : List (List Int)} (h : fcIn F rooms needs S flow = true) : Ending.returned (.tuple #[.int .i64 (costFl F flow F.di.length), .bool true]) = .returned (.tuple #[.int .i64 (fcV F rooms needs S flow), .bool (fcIn F rooms needs S flow)]) := by simp [fcV, h]
theorem fc_haul {F : Fld} {rooms needs S : List Int} {flow : List (List Int)} (h : haulB F rooms needs S = false) : fcIn F rooms needs S flow = false := by rw [fcIn, h]; rfl
theorem fc_flow {F : Fld} {rooms needs S : List Int} {flow : List (List Int)} (h : haulB F rooms needs S = true) : fcIn F rooms needs S flow = flowB F rooms needs S flow := by rw [fcIn, h]; rfl
theorem isf_no {F : Fld} {rooms needs S : List Int} {flow : List (List Int)} (h : haulB F rooms needs S = false) : Ending.returned (.tuple #[.bool false, .bool false]) = .returned (.tuple #[.bool (fcIn F rooms needs S flow), .bool (haulB F rooms needs S)]) := by simp [fcIn, h]
theorem isf_yes {F : Fld} {rooms needs S : List Int} {flow : List (List Int)} (h : haulB F rooms needs S = true) : Ending.returned (.tuple #[.bool (flowB F rooms needs S flow), .bool true]) = .returned (.tuple #[.bool (fcIn F rooms needs S flow), .bool (haulB F rooms needs S)]) := by simp [fcIn, h]
theorem fc_parts {F : Fld} {rooms needs S : List Int} {flow : List (List Int)} (h : fcIn F rooms needs S flow = true) : haulB F rooms needs S = true ∧ flowB F rooms needs S flow = true := by simpa [fcIn] using h
end Go.Proofs.YtpiijhfjliolfaaGreat

namespace Go.Proofs.YtpiijhfjliolfaaGreat
open Go.RowKit Go.Sort

/-- Sites of a set, whatever the client. -/
def openM (S : List Int) (_ a : Nat) : Bool := flHas S a
theorem flHas_iff {S : List Int} {a : Nat} : flHas S a = true ↔ (a : Int) ∈ S := by
  unfold flHas
  rw [List.any_eq_true]
  constructor
  · rintro ⟨x, hx, he⟩; have : x = (a : Int) := by simpa using he
    exact this ▸ hx
  · intro h; exact ⟨_, h, by simp⟩
theorem bag_has {S : List Int} (h : ∀ y ∈ S, 0 ≤ y) (a : Nat) : (bagN S).testBit a = flHas S a := by
  rw [bagN_bit h]
  cases hh : flHas S a
  · rw [decide_eq_false]; intro h2; rw [flHas_iff.2 h2] at hh; cases hh
  · exact decide_eq_true (flHas_iff.1 hh)
theorem room_bits (rooms : List Int) (b : Nat) : ∀ n, roomS rooms (bitsL n b) = sumTo (fun a => if b.testBit a = true then lget rooms a else 0) n
  | 0 => rfl
  | n + 1 => by
    rw [sumTo_succ, ← room_bits rooms b n]
    cases h : b.testBit n
    · rw [bitsL_no h]; simp
    · rw [bitsL_yes h]
      unfold roomS
      rw [List.map_append, List.sum_append]
      simp [numAt, lget]
theorem room_set {F : Fld} {S : List Int} (h : setB F S = true) (rooms : List Int) : roomS rooms S = sumTo (fun a => if flHas S a = true then lget rooms a else 0) F.op.length := by
  have h1 := room_bits rooms (bagN S) F.op.length
  rw [set_bits h] at h1
  rw [h1]
  exact sumTo_congr (fun a _ => by rw [bag_has (fun y hy => (set_mem h y hy).1)])
/-- Hauls are flows. -/
theorem haul_flow {F : Fld} {rooms needs S : List Int} {may : Nat → Nat → Bool} {fl : Nat → Nat → Int} (hm : ∀ j a, j < F.di.length → a < F.op.length → may j a = true → flHas S a = true) (h : Haul F.di.length F.op.length may (lget needs) (lget rooms) fl) : flowB F rooms needs S (matL F.di.length F.op.length fl) = true := by
  refine flow_yes (matL_len _ _ _) (flRows_iff.2 fun j hj => ?_) (flCols_iff.2 fun a ha => ?_)
  · rw [matL_len] at hj
    have hs : ∀ a, a < F.op.length → lget ((matL F.di.length F.op.length fl).getD j []) a = fl j a := fun a ha => by rw [matL_at hj, mapTo_lget ha]
    refine flRow_iff.2 ⟨by rw [matL_at hj, mapTo_len], fun a ha => ?_, ?_⟩
    · rw [hs a ha]
      have h1 := h.row j hj
      have h2 : fl j a ≤ rowS F.op.length fl j := sumTo_ge (g := fl j) (fun a ha => h.nn j a hj ha) ha
      exact ⟨h.nn j a hj ha, by omega, fun hp => hm j a hj ha (h.may j a hj ha hp)⟩
    · rw [← h.row j hj]
      exact sumTo_congr hs
  · rw [matL_len]
    have e : colS (matL F.di.length F.op.length fl) a F.di.length = colT F.di.length fl a := sumTo_congr (fun j hj => matL_fl hj ha)
    rw [e]; exact h.col a ha
theorem cost_mat {F : Fld} (fl : Nat → Nat → Int) : costFl F (matL F.di.length F.op.length fl) F.di.length = costT F.di.length F.op.length (dF F) fl :=
  sumTo_congr (fun j hj => sumTo_congr (fun a ha => by rw [matL_fl hj ha]; rfl))
set_option maxHeartbeats 400000 in
theorem isOpenClo_any (S : List Int) (p : Nat) (w : World) (hS : ∀ x ∈ S, 0 ≤ x ∧ x < 7) (x0 : w.cell? ⟨p, 0, none⟩ = some (.int .u64 (bagN S))) (i a : Nat) (ha : a < 7) :
    Calls Tryz.prog 98 #[.int .i64 (i : Int), .int .i64 (a : Int), .pointer (some ⟨p, 0, none⟩)] w fun e w' => e = .returned (.bool (openM S i a)) ∧ Dr w w' := by
  have hb := bagN_lt (n := 7) hS
  have HB := Lib.hid (bag_has (fun y hy => (hS y hy).1) a)
  go_enter Tryz.func98, Tryz.ntmps98
  go_wp2_with fail
  with_reducible refine Calls.mono (has_any (bagN S) a _ (by omega) (by omega)) ?_
  rintro e w' ⟨rfl, hw⟩
  obtain rfl := hw
  go_wp2_with fail
  go_ret
  exact ⟨ret_bool HB.out, Dr.refl _⟩
set_option maxHeartbeats 400000 in
theorem isOpen_any (A0 : Option Addr) (S : List Int) (n c0 : Nat) (J M : Nat) (w : World) (hx : IntsAt w A0 S) (hn : S.length = n) (hS : ∀ x ∈ S, 0 ≤ x ∧ x < 7) (hM : M ≤ 7) :
    Calls Tryz.prog 57 #[.slice A0 n c0] w fun e w' => ∃ caps, e = .returned (.func (.func 98) #[] caps) ∧ Can 98 caps J M (openM S) w' ∧ Kp w w' := by
  have HS := Lib.hid hS
  have CC := Lib.hid (bagOf_any A0 S n c0 w hx hn (fun x hx => by have := hS x hx; omega))
  have hk0 : Kp w (w.alloc (.cells #[.int .u64 (bagN S)] 86)) := (Kp.refl w).alloc _
  have hcell : (w.alloc (.cells #[.int .u64 (bagN S)] 86)).cell? ⟨w.heap.size, 0, none⟩ = some (.int .u64 (bagN S)) := by rw [World.cell?_alloc_at _ _ _ _ rfl]; rfl
  have HC := Lib.hid (show Can 98 #[.pointer (some ⟨w.heap.size, 0, none⟩)] J M (openM S) (w.alloc (.cells #[.int .u64 (bagN S)] 86)) from
    ⟨callFunc_of Tryz.func98 (by kernel_rfl) (by kernel_rfl), fun i a w' hk hi ha => isOpenClo_any S w.heap.size w' HS.out (hk.get hcell) i a (by omega)⟩)
  clear hcell hS hx hn
  go_enter Tryz.func57, Tryz.ntmps57
  go_wp2_with fail
  with_reducible refine Calls.mono CC.out ?_
  rintro e w' ⟨rfl, hw⟩
  obtain rfl := hw
  clear CC
  go_wp2_with fail
  go_ret
  exact ⟨_, rfl, HC.out, hk0⟩
theorem flow_yes' {w w' : World} {J M : Nat} {d : Nat → Nat → Int} {may : Nat → Nat → Bool} {nd rm : Nat → Int} {e : Ending} (h : FlowPost w J M d may nd rm e w') (hs : ∀ j, j < J → ¬ sumTo (fun a => if may j a = true then rm a else 0) M < sumTo nd J) :
    ∃ (g cap : Nat) (Bk Ck : Nat → Nat) (fl : Nat → Nat → Int) (lf : Nat → Int), e = .returned (.tuple #[.slice (some ⟨g, 0, none⟩) J cap, .bool true]) ∧ Mat w' w.heap.size g cap J M Bk Ck fl ∧ Net J M d may rm fl lf ∧ (∀ i, i < J → rowS M fl i = nd i) ∧ Kp w w' := by
  rcases h with h | ⟨_, _, _, j, hj, hlt⟩
  · exact h
  · exact absurd hlt (hs j hj)
theorem flow_no' {w w' : World} {J M : Nat} {d : Nat → Nat → Int} {may : Nat → Nat → Bool} {nd rm : Nat → Int} {e : Ending} (h : FlowPost w J M d may nd rm e w') (hs : ∀ x, ¬ Haul J M may nd rm x) :
    e = .returned (.tuple #[.slice none 0 0, .bool false]) ∧ Kp w w' := by
  rcases h with ⟨g, cap, Bk, Ck, fl, lf, _, _, hN, hR, _⟩ | ⟨he, hk, _⟩
  · exact absurd (hN.least hR).1 (hs fl)
  · exact ⟨he, hk⟩
def lfOk (F : Fld) (rooms needs S : List Int) : Bool := haulB F rooms needs S && decide (needs.sum ≤ roomS rooms S)
noncomputable def lfV (F : Fld) (rooms needs S : List Int) : Int := if lfOk F rooms needs S = true then lstC F.di.length F.op.length (dF F) (openM S) (lget needs) (lget rooms) else 0
theorem lfV_no {F : Fld} {rooms needs S : List Int} (h : lfOk F rooms needs S = false) : lfV F rooms needs S = 0 := if_neg (by simp [h])
theorem lfV_yes {F : Fld} {rooms needs S : List Int} (h : lfOk F rooms needs S = true) {c : Int} (hc : IsLst F.di.length F.op.length (dF F) (openM S) (lget needs) (lget rooms) c) : lfV F rooms needs S = c := by rw [lfV, if_pos h, lst_eq hc]
/-- What is needed of what is given. -/
structure HaulP (F : Fld) (rooms needs S : List Int) : Prop where
  good : goodF F = true
  set_ : setB F S = true
  ne : S ≠ []
  mem : ∀ x ∈ S, 0 ≤ x ∧ x < 7
  rl : rooms.length = F.op.length
  nl : needs.length = F.di.length
  rb : ∀ x, 0 ≤ lget rooms x ∧ lget rooms x ≤ 20
  nb : ∀ x, 0 ≤ lget needs x ∧ lget needs x ≤ 5
  ns : sumTo (lget needs) F.di.length = needs.sum
  rs : sumTo (fun a => if flHas S a = true then lget rooms a else 0) F.op.length = roomS rooms S
theorem haul_p {F : Fld} {rooms needs S : List Int} (h : haulB F rooms needs S = true) : HaulP F rooms needs S := by
  obtain ⟨h1, ⟨h2, h3⟩, h4, h5⟩ := haulB_iff.1 h
  obtain ⟨g1, g2, g3⟩ := openedB_parts h1
  have h7 := (goodF_iff.1 g1).1
  exact ⟨g1, g2, g3, fun x hx => by have := set_mem g2 x hx; omega, h3, h5, lget_all (by omega) h2, lget_all (by omega) h4, by rw [← h5, sumTo_lget], (room_set g2 rooms).symm⟩
set_option maxRecDepth 100000 in
set_option maxHeartbeats 1000000 in
theorem implLf_any (f : Value) (F : Fld) (A1 : Option Addr) (rooms : List Int) (n1 c1 : Nat) (A2 : Option Addr) (needs : List Int) (n2 c2 : Nat) (A3 : Option Addr) (S : List Int) (n3 c3 : Nat) (w : World) (hf : FldAt w f F) (h1 : IntsAt w A1 rooms) (hn1 : rooms.length = n1) (h2 : IntsAt w A2 needs) (hn2 : needs.length = n2) (h3 : IntsAt w A3 S) (hn3 : S.length = n3) :
    Calls Tryz.prog 18 #[f, .slice A1 n1 c1, .slice A2 n2 c2, .slice A3 n3 c3] w fun e w' => e = .returned (.tuple #[.int .i64 (lfV F rooms needs S), .bool (lfOk F rooms needs S)]) ∧ Kp w w' := by
  obtain ⟨A, c, B, d, rfl, hA, hB⟩ := hf
  have hk0 : Kp w (w.alloc (.cells #[.slice A F.op.length c, .slice B F.di.length d] 27)) := (Kp.refl w).alloc _
  obtain ⟨d0, d1⟩ := box2 w (.slice A F.op.length c) (.slice B F.di.length d) 27
  have hFA := FldAt.kp (show FldAt w (.agg #[.slice A F.op.length c, .slice B F.di.length d]) F from ⟨A, c, B, d, rfl, hA, hB⟩) hk0
  replace h1 := h1.kp hk0
  replace h2 := h2.kp hk0
  replace h3 := h3.kp hk0
  have Hn1 := Lib.hid hn1; have Hn2 := Lib.hid hn2; have Hn3 := Lib.hid hn3
  clear hA hB hn1 hn2 hn3
  go_enter Tryz.func18, Tryz.ntmps18
  go_wp2_with fail
  have hsz : Hid ((w.alloc (.cells #[.slice A F.op.length c, .slice B F.di.length d] 27)).heap.size = w.heap.size + 1) := by show _ = _; simp
  generalize w.alloc (.cells #[.slice A F.op.length c, .slice B F.di.length d] 27) = wb at *
  have hkb : Kp wb wb := Kp.refl _
  have hkw := hk0
  have CC := Lib.hid (isHaul_any _ F A1 rooms n1 c1 A2 needs n2 c2 A3 S n3 c3 _ (hFA.kp hkb) (h1.kp hkb) Hn1.out (h2.kp hkb) Hn2.out (h3.kp hkb) Hn3.out)
  with_reducible refine Calls.mono CC.out ?_
  rintro e w1 ⟨rfl, hk1⟩
  clear CC
  replace hkb := hkb.trans hk1
  cases hh_ : haulB F rooms needs S
  · have Hno : Hid (lfOk F rooms needs S = false) := by show _ = _; rw [lfOk, hh_]; rfl
    clear hh_
    have q_d0 := hkb.get d0
    have q_d1 := hkb.get d1
    go_wp2_with fail
    go_ret2
    exact ⟨by rw [lfV_no Hno.out, Hno.out]; rfl, hkw.trans hkb⟩
  have HH := Lib.hid hh_
  have HP := Lib.hid (haul_p hh_)
  clear hh_
  have h7 := (goodF_iff.1 HP.out.good).1.2
  have C0 := Lib.hid (fun (wx : World) (hx : Kp w1 wx) => isOpen_any A3 S n3 c3 F.di.length F.op.length wx (h3.kp (hkb.trans hx)) Hn3.out HP.out.mem h7)
  have C1 := Lib.hid (fun (wx : World) (hx : Kp w1 wx) (caps : Array Value) (hc : Can 98 caps F.di.length F.op.length (openM S) wx) => flow_any _ F A1 rooms n1 c1 A2 needs n2 c2 98 caps (openM S) wx (hFA.kp (hkb.trans hx)) HP.out.good (h1.kp (hkb.trans hx)) Hn1.out (h2.kp (hkb.trans hx)) Hn2.out (by rw [← Hn1.out, HP.out.rl]) (by rw [← Hn2.out, HP.out.nl]) hc (fun x => by have := HP.out.rb x; omega) (fun x => by have := HP.out.nb x; omega))
  by_cases hs : needs.sum ≤ roomS rooms S
  · have Hok : Hid (lfOk F rooms needs S = true) := by show _ = _; rw [lfOk, HH.out]; simp [hs]
    have C2 := Lib.hid (fun (wx : World) (hx : Kp w1 wx) (caps : Array Value) (hc : Can 98 caps F.di.length F.op.length (openM S) wx) => (C1.out wx hx caps hc).mono (fun e w' hp => flow_yes' hp (fun j _ => by
      show ¬ sumTo (fun a => if flHas S a = true then lget rooms a else 0) F.op.length < sumTo (lget needs) F.di.length
      rw [HP.out.rs, HP.out.ns]; omega)))
    clear C1
    have q0 := hkb.get d0
    have q1 := hkb.get d1
    have hkz : Kp w1 w1 := Kp.refl _
    have q_q0 := hkz.get q0
    have q_q1 := hkz.get q1
    go_wp2_with fail
    clear q_q0 q_q1
    have q_q0 := hkz.get q0
    have q_q1 := hkz.get q1
    have tok1 : True := trivial
    go_wp2_with fail
    go_region_held3 (fun w' => w'.cell? ⟨w.heap.size, 0, none⟩ = some (.slice A F.op.length c) ∧ w'.cell? ⟨w.heap.size, 1, none⟩ = some (.slice B F.di.length d) ∧ Kp w1 w')
      (first | (refine keepc2 q0 q1 ?_; exact (by repeat (first | with_reducible assumption | with_reducible exact Kp.refl _ | with_reducible refine Kp.drew ?_ | with_reducible refine Kp.alloc ?_ _ | with_reducible refine Kp.drewN ?_ _ | refine Kp.setCell ?_ (by dsimp only; omega) _))) | fail)
      (first
        | (have _t := tok1; go_at_call 57; with_reducible refine Calls.mono (C0.out _ (by repeat (first | with_reducible assumption | with_reducible exact Kp.refl _ | with_reducible refine Kp.drew ?_ | with_reducible refine Kp.alloc ?_ _ | with_reducible refine Kp.drewN ?_ _ | refine Kp.setCell ?_ (by dsimp only; omega) _))) ?_; rintro e wr1 ⟨caps, rfl, hcan, hka⟩; have hr1 : Kp w1 wr1 := Kp.trans (by repeat (first | with_reducible assumption | with_reducible exact Kp.refl _ | with_reducible refine Kp.drew ?_ | with_reducible refine Kp.alloc ?_ _ | with_reducible refine Kp.drewN ?_ _ | refine Kp.setCell ?_ (by dsimp only; omega) _)) hka; have tok2 : True := trivial; clear tok1 _t)
        | (have _t := tok2; go_at_call 56; with_reducible refine Calls.mono (C2.out _ hr1 caps hcan) ?_; rintro e wr2 ⟨g, cap, Bk, Ck, fl, lf, rfl, hm, hN, hR, hka⟩; have hr2 : Kp w1 wr2 := Kp.trans (by repeat (first | with_reducible assumption | with_reducible exact Kp.refl _ | with_reducible refine Kp.drew ?_ | with_reducible refine Kp.alloc ?_ _ | with_reducible refine Kp.drewN ?_ _ | refine Kp.setCell ?_ (by dsimp only; omega) _)) hka; have tok3 : True := trivial; clear tok2 _t)
        | fail)
    all_goals
      have hL := Lib.hid (hN.least hR)
      have hfb := Lib.hid (haul_flow (S := S) (fun j a _ _ h => h) hL.out.1)
      have CF := Lib.hid (flowCost_any _ F rooms needs S (some ⟨g, 0, none⟩) (matL F.di.length F.op.length fl) F.di.length cap wr2 (hFA.kp (hkb.trans hr2)) (hm.grid (by have := (goodF_iff.1 HP.out.good).2.2.1; omega) (by omega)) (matL_len _ _ _) HH.out hfb.out)
      have z0 := hr2.get q0
      have z1 := hr2.get q1
      have hkf := (hkw.trans hkb).trans hr2
      have hval : Hid (lfV F rooms needs S = costFl F (matL F.di.length F.op.length fl) F.di.length) := by
        show _ = _
        rw [cost_mat]; exact lfV_yes Hok.out ⟨⟨fl, hL.out.1, rfl⟩, hL.out.2⟩
      clear hN hR hm C0 C2
      go_wp2_with fail
      with_reducible refine Calls.mono CF.out ?_
      rintro e wz ⟨rfl, hkzz⟩
      clear CF z0 z1
      go_wp2_with fail
      go_ret2
      exact ⟨by rw [hval.out, Hok.out]; rfl, hkf.trans hkzz⟩
  · have Hno : Hid (lfOk F rooms needs S = false) := by show _ = _; rw [lfOk, HH.out]; simp; omega
    have C2 := Lib.hid (fun (wx : World) (hx : Kp w1 wx) (caps : Array Value) (hc : Can 98 caps F.di.length F.op.length (openM S) wx) => (C1.out wx hx caps hc).mono (fun e w' hp => flow_no' hp (fun fl hL => by
      have h1 := haul_room hL (fun a => flHas S a) (fun j a _ _ h => h)
      rw [HP.out.rs, HP.out.ns] at h1; omega)))
    clear C1
    have q0 := hkb.get d0
    have q1 := hkb.get d1
    have hkz : Kp w1 w1 := Kp.refl _
    have q_q0 := hkz.get q0
    have q_q1 := hkz.get q1
    go_wp2_with fail
    clear q_q0 q_q1
    have q_q0 := hkz.get q0
    have q_q1 := hkz.get q1
    have tok1 : True := trivial
    go_wp2_with fail
    go_region_held3 (fun w' => w'.cell? ⟨w.heap.size, 0, none⟩ = some (.slice A F.op.length c) ∧ w'.cell? ⟨w.heap.size, 1, none⟩ = some (.slice B F.di.length d) ∧ Kp w1 w')
      (first | (refine keepc2 q0 q1 ?_; exact (by repeat (first | with_reducible assumption | with_reducible exact Kp.refl _ | with_reducible refine Kp.drew ?_ | with_reducible refine Kp.alloc ?_ _ | with_reducible refine Kp.drewN ?_ _ | refine Kp.setCell ?_ (by dsimp only; omega) _))) | fail)
      (first
        | (have _t := tok1; go_at_call 57; with_reducible refine Calls.mono (C0.out _ (by repeat (first | with_reducible assumption | with_reducible exact Kp.refl _ | with_reducible refine Kp.drew ?_ | with_reducible refine Kp.alloc ?_ _ | with_reducible refine Kp.drewN ?_ _ | refine Kp.setCell ?_ (by dsimp only; omega) _))) ?_; rintro e wr1 ⟨caps, rfl, hcan, hka⟩; have hr1 : Kp w1 wr1 := Kp.trans (by repeat (first | with_reducible assumption | with_reducible exact Kp.refl _ | with_reducible refine Kp.drew ?_ | with_reducible refine Kp.alloc ?_ _ | with_reducible refine Kp.drewN ?_ _ | refine Kp.setCell ?_ (by dsimp only; omega) _)) hka; have tok2 : True := trivial; clear tok1 _t)
        | (have _t := tok2; go_at_call 56; with_reducible refine Calls.mono (C2.out _ hr1 caps hcan) ?_; rintro e wr2 ⟨rfl, hka⟩; have hr2 : Kp w1 wr2 := Kp.trans (by repeat (first | with_reducible assumption | with_reducible exact Kp.refl _ | with_reducible refine Kp.drew ?_ | with_reducible refine Kp.alloc ?_ _ | with_reducible refine Kp.drewN ?_ _ | refine Kp.setCell ?_ (by dsimp only; omega) _)) hka; have tok3 : True := trivial; clear tok2 _t)
        | fail)
    all_goals
      go_wp2_with fail
      go_ret2
      exact ⟨by rw [lfV_no Hno.out, Hno.out]; rfl, (hkw.trans hkb).trans hr2⟩
end Go.Proofs.YtpiijhfjliolfaaGreat

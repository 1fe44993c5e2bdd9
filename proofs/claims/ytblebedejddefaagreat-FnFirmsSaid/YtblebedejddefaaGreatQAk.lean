/- ClientsTaken: the reference's walk; ClientsTaken: the program's walk; The follower's best set, in plain Lean; The library's striking out of rows of a slice, at this program; slices.DeleteFunc of rows of the call's own: the rows of which something is so are struck out; The follower's best set: the program's walk. No condition. -/
import Derived.Test.YtblebedejddefaaGreatQAj
import Derived.Deep.RegionHeld3
import Derived.Test.YtblebedejddefaaGreatQAi
import Derived.Shelf.SlicesE.DeleteFunc
namespace Go.Proofs.YtblebedejddefaaGreat
open Go.RowKit Go.Sort

set_option maxRecDepth 100000 in
set_option maxHeartbeats 1000000 in
theorem l9Taken_any (f : Value) (F : Fld) (A0 : Option Addr) (L : List Int) (n0 c0 : Nat) (A1 : Option Addr) (S : List Int) (n1 c1 : Nat) (w : World) (hf : FldAt w f F) (hL : IntsAt w A0 L) (hn0 : L.length = n0) (hS : IntsAt w A1 S) (hn1 : S.length = n1) (hg : goodF F = true) (hl : setB F L = true) (hne : L ≠ []) (hs : setB F S = true) :
    Calls Tryz.prog 44 #[f, .slice A0 n0 c0, .slice A1 n1 c1] w fun e w' => ∃ v, e = .returned v ∧ Own w' w.heap.size v (takenTo F L S F.di.length) ∧ Kp w w' := by
  obtain ⟨A, c, B, d, rfl, hA, hB⟩ := hf
  have hk0 : Kp w (w.alloc (.cells #[.slice A F.op.length c, .slice B F.di.length d] 27)) := (Kp.refl w).alloc _
  obtain ⟨d0, d1⟩ := box2 w (.slice A F.op.length c) (.slice B F.di.length d) 27
  have hFA := FldAt.kp (show FldAt w (.agg #[.slice A F.op.length c, .slice B F.di.length d]) F from ⟨A, c, B, d, rfl, hA, hB⟩) hk0
  have hL0 := hL.kp hk0
  have hS0 := hS.kp hk0
  have Hn0 := Lib.hid hn0; clear hn0
  have Hn1 := Lib.hid hn1; clear hn1
  have hn1b : n1 ≤ 9223372036854775807 := Hn1.out ▸ hS.1
  have hd7 := (goodF_iff.1 hg).2.2.1
  have Hg := Lib.hid hg; have Hl := Lib.hid hl; have Hne := Lib.hid hne; have Hs := Lib.hid hs
  clear hg hl hs hne hA hB hS hL
  have hs1 : w.heap.size + 1 ≤ (w.alloc (.cells #[.slice A F.op.length c, .slice B F.di.length d] 27)).heap.size := by simp
  have hs2 : (w.alloc (.cells #[.slice A F.op.length c, .slice B F.di.length d] 27)).heap.size ≤ w.heap.size + 1 := by simp
  go_enter Tryz.func44, Tryz.ntmps44
  go_wp2_with fail
  generalize w.alloc (.cells #[.slice A F.op.length c, .slice B F.di.length d] 27) = wb at *
  have ho0 := own_new0 wb (w.heap.size + 1) hs1
  rw [Nat.le_antisymm hs2 hs1] at ho0
  have hkn := (Kp.refl wb).alloc (.cells #[] 3)
  go_loopw [7, 8] (fun ov ix wr => ∃ a : Nat, a ≤ F.di.length ∧ ix = .int .i64 a ∧ Own wr (w.heap.size + 1) ov (takenTo F L S a) ∧ Kp wb wr) (fun _ ix _ => F.di.length - (intOf ix).toNat)
  case atStart => exact ⟨0, by omega, rfl, ho0, hkn⟩
  case round =>
    obtain ⟨a, ha, rfl, hown, hkp⟩ := hrel
    have q0 := hkp.get d0; have q1 := hkp.get d1
    have hbl : w.heap.size + 1 ≤ wr.heap.size := Nat.le_trans hs1 hkp.le
    by_cases hlt : a < F.di.length
    · by_cases hp : 0 < n1
      · have HneS : Hid (S ≠ []) := by show S ≠ []; exact List.length_pos_iff.1 (by rw [Hn1.out]; exact hp)
        have hpi : (0 : Int) < n1 := by omega
        have r0 := cell_regrown q0; have r1 := cell_regrown q1
        have C1 := Lib.hid (fun (dd : Nat) (os : Array Obj) => Calls.regrown_of (l2Nearest_any _ F a A1 S n1 c1 _ ((hFA.kp hkp).kp (kp_rg wr dd os)) ((hS0.kp hkp).kp (kp_rg wr dd os)) Hn1.out Hg.out Hs.out HneS.out hlt))
        have C2 := Lib.hid (fun (dd : Nat) (os : Array Obj) => Calls.regrown_of (l2Nearest_any _ F a A0 L n0 c0 _ ((hFA.kp hkp).kp (kp_rg wr dd os)) ((hL0.kp hkp).kp (kp_rg wr dd os)) Hn0.out Hg.out Hl.out Hne.out hlt))
        go_wp2_with fail
        refine wp_region_quiet_below (by kernel_rfl) (by kernel_rfl) ?_
        repeat (quiet_step (first | with_reducible exact C1.out _ _ | with_reducible exact C2.out _ _))
        refine wpQuiet_nil ?_
        intro wq hw'
        have hkz := kp_of_rg hw'
        clear hw' r0 r1 C1 C2
        have ho2 := hown.kp hkz
        have hk3 := hkp.trans hkz
        have hlen := takenTo_len F L S a
        have hbq : w.heap.size + 1 ≤ wq.heap.size := Nat.le_trans hs1 hk3.le
        by_cases hq : nearF F a S < nearF F a L
        · have hu : Hid (takenB F L S a = true) := by show takenB F L S a = true; simp [takenB, hq, HneS.out]
          go_wp2_with (at_builtin; go_loud (refine wpl_app rfl (.tmp 31) (.tmp 33) rfl (w.heap.size + 1) _ (takenTo F L S a) a rfl rfl ho2 hbq (by omega) ?_); intro v' w' ho' ht' _; have hk4 := ho2.kp_turn hk3 hs2 ht')
          go_roundw
          case rel => exact ⟨a + 1, by omega, by go_num, by rw [takenTo_yes hu.out]; exact ho', hk4⟩
          case measure => simp [intOf]; omega
        · have hu : Hid (takenB F L S a = false) := by show takenB F L S a = false; simp [takenB]; intro; omega
          go_wp2_with fail
          go_roundw
          case rel => exact ⟨a + 1, by omega, by go_num, by rw [takenTo_no hu.out]; exact ho2, hk3⟩
          case measure => simp [intOf]; omega
      · have hS : Hid (S = []) := by show S = []; exact List.length_eq_zero_iff.1 (by rw [Hn1.out]; omega)
        have hpi : ¬ (0 : Int) < n1 := by omega
        go_wp2_with fail
        go_ret
        refine ⟨_, rfl, ?_, hk0.trans hkp⟩
        have := hown.mono (Nat.le_succ w.heap.size)
        rw [hS.out, takenTo_nil] at this ⊢
        exact this
    · obtain rfl : a = F.di.length := by omega
      go_wp2_with fail
      go_ret
      exact ⟨_, rfl, hown.mono (Nat.le_succ _), hk0.trans hkp⟩

theorem takenOk_no1 {F : Fld} {L S : List Int} (h : openedB F L = false) : takenOk F L S = false := by simp [takenOk, h]
theorem takenOk_no2 {F : Fld} {L S : List Int} (h : setB F S = false) : takenOk F L S = false := by simp [takenOk, h]
theorem takenOk_no3 {F : Fld} {L S : List Int} (h : (S.any fun x => L.any fun y => y == x) = true) : takenOk F L S = false := by simp [takenOk, h]

set_option maxRecDepth 100000 in
set_option maxHeartbeats 1000000 in
theorem specTaken_any (f : Value) (F : Fld) (A0 : Option Addr) (L : List Int) (n0 c0 : Nat) (A1 : Option Addr) (S : List Int) (n1 c1 : Nat) (w : World) (hf : FldAt w f F) (hL : IntsAt w A0 L) (hn0 : L.length = n0) (hS : IntsAt w A1 S) (hn1 : S.length = n1) :
    Calls Tryz.prog 19 #[f, .slice A0 n0 c0, .slice A1 n1 c1] w fun e w' => ∃ v, e = .returned (.tuple #[v, .bool (takenOk F L S)]) ∧ Own w' w.heap.size v (takenL F L S) ∧ Kp w w' := by
  obtain ⟨A, c, B, d, rfl, hA, hB⟩ := hf
  have hk0 : Kp w (w.alloc (.cells #[.slice A F.op.length c, .slice B F.di.length d] 27)) := (Kp.refl w).alloc _
  obtain ⟨d0, d1⟩ := box2 w (.slice A F.op.length c) (.slice B F.di.length d) 27
  have hFA := FldAt.kp (show FldAt w (.agg #[.slice A F.op.length c, .slice B F.di.length d]) F from ⟨A, c, B, d, rfl, hA, hB⟩) hk0
  have hL0 := hL.kp hk0
  have hS0 := hS.kp hk0
  have Hn0 := Lib.hid hn0; clear hn0
  have Hn1 := Lib.hid hn1; clear hn1
  have hn1b : n1 ≤ 9223372036854775807 := Hn1.out ▸ hS.1
  clear hA hB hS hL
  go_enter Tryz.func19, Tryz.ntmps19
  go_wp2_with fail
  generalize w.alloc (.cells #[.slice A F.op.length c, .slice B F.di.length d] 27) = wb at *
  have CC := Lib.hid (l2Two_any _ F A0 L n0 c0 _ hFA hL0 Hn0.out)
  with_reducible refine Calls.mono CC.out ?_
  rintro e w1 ⟨rfl, hk1⟩
  clear CC
  have e0 := hk1.get d0; have e1 := hk1.get d1
  have K := hk0.trans hk1
  cases hg : openedB F L
  · have Hg := Lib.hid hg; clear hg
    go_wp2_with fail
    go_ret2
    refine ⟨_, by rw [takenOk_no1 Hg.out]; rfl, ?_, K.alloc _⟩
    rw [takenL_no (takenOk_no1 Hg.out)]
    exact own_new0 _ _ K.le
  have Hg := Lib.hid hg; clear hg
  go_wp2_with fail
  have CC := Lib.hid (l2Set_any _ F A1 S n1 c1 _ (hFA.kp hk1) (hS0.kp hk1) Hn1.out)
  with_reducible refine Calls.mono CC.out ?_
  rintro e w2 ⟨rfl, hk2⟩
  clear CC
  have K2 := K.trans hk2
  have f0 := hk2.get e0; have f1 := hk2.get e1
  cases hs : setB F S
  · have Hs := Lib.hid hs; clear hs
    go_wp2_with fail
    go_ret2
    refine ⟨_, by rw [takenOk_no2 Hs.out]; rfl, ?_, K2.alloc _⟩
    rw [takenL_no (takenOk_no2 Hs.out)]
    exact own_new0 _ _ K2.le
  have Hs := Lib.hid hs; clear hs
  have hSb := (hS0.kp hk1).kp hk2
  have hLb := (hL0.kp hk1).kp hk2
  go_wp2_with fail
  go_loop [8] (fun iv => ∃ k : Nat, k ≤ n1 ∧ iv = .int .i64 k ∧ Hid ((S.take k).any (fun x => L.any fun y => y == x) = false)) (fun iv => n1 - (intOf iv).toNat)
  case atStart => exact ⟨0, by omega, rfl, rfl⟩
  case round =>
    obtain ⟨k, hk, rfl, Hp⟩ := hrel
    by_cases hlt : k < n1
    · have lx : k < S.length := by rw [Hn1.out]; exact hlt
      obtain ⟨ad, rfl, hc⟩ := hSb.at_ lx
      go_wp2_with fail
      have CC := Lib.hid (l1Has_any A0 L n0 c0 S[k] w2 hLb Hn0.out)
      with_reducible refine Calls.mono CC.out ?_
      rintro e w3 ⟨rfl, hw⟩
      obtain rfl := hw
      clear CC
      cases ht : L.any (fun y => y == S[k])
      · have Ht := Lib.hid ht; clear ht
        go_wp2_with fail
        go_round
        case rel => exact ⟨k + 1, by omega, by go_num, any_take_succ Hp.out lx Ht.out⟩
        case measure => simp [intOf]; omega
      · have Ht := Lib.hid ht; clear ht
        go_wp2_with fail
        go_ret2
        have hno := takenOk_no3 (F := F) (L := L) (S := S) (any_of (p := fun x => L.any fun y => y == x) lx Ht.out)
        refine ⟨_, by rw [hno]; rfl, ?_, K2.alloc _⟩
        rw [takenL_no hno]
        exact own_new0 _ _ K2.le
    · go_wp2_with fail
      have hp := openedB_parts Hg.out
      have CC := Lib.hid (l9Taken_any _ F A0 L n0 c0 A1 S n1 c1 _ ((hFA.kp hk1).kp hk2) hLb Hn0.out hSb Hn1.out hp.1 hp.2.1 hp.2.2 Hs.out)
      clear hp
      with_reducible refine Calls.mono CC.out ?_
      rintro e w3 ⟨v, rfl, hov, hk3⟩
      clear CC
      have hyes : Hid (takenOk F L S = true) := by
        show takenOk F L S = true
        have hp := Hp.out
        rw [List.take_of_length_le (by rw [Hn1.out]; omega)] at hp
        unfold takenOk
        rw [Hg.out, Hs.out, hp]; rfl
      go_wp2_with fail
      go_ret2
      refine ⟨_, by rw [hyes.out]; rfl, ?_, K2.trans hk3⟩
      rw [takenL_yes hyes.out]
      exact hov.mono K2.le
end Go.Proofs.YtblebedejddefaaGreat

namespace Go.Proofs.YtblebedejddefaaGreat
open Go.RowKit Go.Sort

set_option maxRecDepth 100000 in
set_option maxHeartbeats 1000000 in
theorem takes_clo (F : Fld) (i : Nat) (a d : Int) (p q rd : Addr) (m c : Nat) (w : World) (h1 : w.cell? p = some (.slice (some rd) m c)) (h2 : w.cell? q = some (.int .i64 d)) (ha : 0 ≤ a) (hm : a < m) (hc : w.cell? (rd.add a.toNat) = some (.int .i64 (dAt F i a))) :
    Calls Tryz.prog 71 #[.int .i64 a, .pointer (some p), .pointer (some q)] w fun e w' => e = .returned (.bool (decide (dAt F i a < d))) ∧ Kp w w' := by
  go_enter Tryz.func71, Tryz.ntmps71
  go_wp2_with fail
  go_quiet (fail)
  go_wp2_with fail
  go_ret
  exact ⟨rfl, (Kp.refl _).drewN _⟩

theorem keepS {wv w' : World} {p q r s : Addr} {a b c d : Value} (h1 : wv.cell? p = some a) (h2 : wv.cell? q = some b) (h3 : wv.cell? r = some c) (h4 : wv.cell? s = some d) (h : Kp wv w') : w'.cell? p = some a ∧ w'.cell? q = some b ∧ w'.cell? r = some c ∧ w'.cell? s = some d ∧ Kp wv w' := ⟨h.get h1, h.get h2, h.get h3, h.get h4, h⟩

theorem newc {wv wb : World} {H : Nat} {v : Value} {t : TypeId} (h : Kp ((wv.alloc (.cells #[v] t)).drew) wb) (hH : wv.heap.size = H) : wb.cell? ⟨H, 0, none⟩ = some v ∧ wb.frozen? ⟨H, 0, none⟩ = false := by
  have h1 : ((wv.alloc (.cells #[v] t)).drew).cell? ⟨H, 0, none⟩ = some v := by
    show (wv.alloc (.cells #[v] t)).cell? ⟨H, 0, none⟩ = some v
    rw [World.cell?_alloc_at _ _ _ _ hH.symm]; rfl
  refine ⟨h.get h1, ?_⟩
  rw [h.froz h1]
  exact World.frozen?_alloc_at _ _ _ _ hH.symm

theorem keepL {P Q R T : Prop} {wv w' : World} (h : P ∧ Q ∧ R ∧ T ∧ Kp wv w') : Kp wv w' := h.2.2.2.2

set_option maxRecDepth 100000 in
set_option maxHeartbeats 1000000 in
theorem takes_any (f : Value) (F : Fld) (A0 : Option Addr) (L : List Int) (n0 c0 : Nat) (A1 : Option Addr) (S : List Int) (n1 c1 : Nat) (w : World) (hf : FldAt w f F) (hL : IntsAt w A0 L) (hn0 : L.length = n0) (hS : IntsAt w A1 S) (hn1 : S.length = n1) (hg : goodF F = true) (hl : setB F L = true) (hne : L ≠ []) (hs : setB F S = true) :
    Calls Tryz.prog 35 #[f, .slice A0 n0 c0, .slice A1 n1 c1] w fun e w' => ∃ v, e = .returned v ∧ Own w' w.heap.size v (takenTo F L S F.di.length) ∧ Kp w w' := by
  obtain ⟨A, c, B, d, rfl, hA, hB⟩ := hf
  have hk0 : Kp w (w.alloc (.cells #[.slice A F.op.length c, .slice B F.di.length d] 27)) := (Kp.refl w).alloc _
  obtain ⟨d0, d1⟩ := box2 w (.slice A F.op.length c) (.slice B F.di.length d) 27
  have hFA := FldAt.kp (show FldAt w (.agg #[.slice A F.op.length c, .slice B F.di.length d]) F from ⟨A, c, B, d, rfl, hA, hB⟩) hk0
  have hL0 := hL.kp hk0
  have hS0 := hS.kp hk0
  have hB0 := hB.kp hk0
  have Hn0 := Lib.hid hn0; clear hn0
  have Hn1 := Lib.hid hn1; clear hn1
  have hd7 := (goodF_iff.1 hg).2.2.1
  have Hg := Lib.hid hg; have Hl := Lib.hid hl; have Hne := Lib.hid hne; have Hs := Lib.hid hs
  clear hg hl hs hne hA hB hS hL
  have hs1 : w.heap.size + 1 ≤ (w.alloc (.cells #[.slice A F.op.length c, .slice B F.di.length d] 27)).heap.size := by simp
  have hs2 : (w.alloc (.cells #[.slice A F.op.length c, .slice B F.di.length d] 27)).heap.size ≤ w.heap.size + 1 := by simp
  have hmf : ∀ (fn : Fn) (first cap : Array Value) (w : World), (Instr.makeFunc fn first cap).run Tryz.prog w = .ok (.func fn first cap) w := fun _ _ _ _ => rfl
  go_enter Tryz.func35, Tryz.ntmps35
  go_wp2_with fail
  generalize w.alloc (.cells #[.slice A F.op.length c, .slice B F.di.length d] 27) = wb at *
  have ho0 := own_new0 wb (w.heap.size + 1) hs1
  rw [Nat.le_antisymm hs2 hs1] at ho0
  have hkn := (Kp.refl wb).alloc (.cells #[] 3)
  go_loopw [7, 15] (fun ov ix wr => ∃ a : Nat, a ≤ F.di.length ∧ ix = .int .i64 a ∧ Own wr (w.heap.size + 1) ov (takenTo F L S a) ∧ Kp wb wr) (fun _ ix _ => F.di.length - (intOf ix).toNat)
  case atStart => exact ⟨0, by omega, rfl, ho0, hkn⟩
  case round =>
    obtain ⟨a, ha, rfl, hown, hkp⟩ := hrel
    have q0 := hkp.get d0; have q1 := hkp.get d1
    have hbl : w.heap.size + 1 ≤ wr.heap.size := Nat.le_trans hs1 hkp.le
    by_cases hlt : a < F.di.length
    · obtain ⟨bd, A2, c2, rfl, hcr, hr⟩ := (hB0.kp hkp).at_ hlt
      have hrl := goodRow Hg.out hlt
      obtain ⟨s0, s1⟩ := siteF_bd Hl.out Hne.out a
      have Hm := Lib.hid (set_mem Hs.out)
      rw [← hrl] at s1
      have hpl : 0 < F.di[a].length := by omega
      obtain ⟨rd, rfl, _⟩ := hr.at_ hpl
      have hdc := dCell hlt hr s0 s1
      have Hrl := Lib.hid hrl; clear hrl
      go_wp2_with fail
      have hkv := (Kp.refl wr).alloc (.cells #[.slice (some rd) F.di[a].length c2] 24)
      have u9 : (wr.alloc (.cells #[.slice (some rd) F.di[a].length c2] 24)).cell? ⟨wr.heap.size, 0, none⟩ = some (.slice (some rd) F.di[a].length c2) := by
        rw [World.cell?_alloc_at _ _ _ _ rfl]; rfl
      have v0 := hkv.get q0; have v1 := hkv.get q1; have vd := hkv.get hdc
      have hwv : (wr.alloc (.cells #[.slice (some rd) F.di[a].length c2] 24)).heap.size = wr.heap.size + 1 := by simp
      generalize wr.alloc (.cells #[.slice (some rd) F.di[a].length c2] 24) = wv at *
      have Cs := Lib.hid (fun (wx : World) (h : Kp wv wx) => server_any _ F a A0 L n0 c0 wx ((hFA.kp hkp).kp (hkv.trans h)) ((hL0.kp hkp).kp (hkv.trans h)) Hn0.out Hg.out Hl.out Hne.out hlt)
      have hkd : Kp wv wv.drew := (Kp.refl _).drew
      go_cut [10] (fun s wc => ∃ g : Nat, s = .pointer (some ⟨g, 0, none⟩) ∧ wc.cell? ⟨g, 0, none⟩ = some (.int .i64 (dAt F a (siteF F a L))) ∧ Kp wv wc)
      case first =>
        go_region_held3 (fun w' => w'.cell? ⟨wr.heap.size, 0, none⟩ = some (.slice (some rd) F.di[a].length c2) ∧ w'.cell? ⟨w.heap.size, 0, none⟩ = some (.slice A F.op.length c) ∧ w'.cell? ⟨w.heap.size, 1, none⟩ = some (.slice (some bd) F.di.length d) ∧ w'.cell? (rd.add (siteF F a L).toNat) = some (.int .i64 (dAt F a (siteF F a L))) ∧ Kp wv w')
          (first | (refine keepS u9 v0 v1 vd ?_; (first | assumption | exact keepL (by assumption) | exact Kp.alloc (by assumption) _ | exact Kp.alloc (keepL (by assumption)) _ | exact Kp.trans (keepL (by assumption)) (by assumption) | exact Kp.trans (by assumption) (by assumption) | exact Kp.alloc (Kp.trans hkd (by assumption)) _ | exact Kp.setCell (Kp.trans ((Kp.refl wv).alloc _).drew (by assumption)) (by simp [hwv]) _)))
          (first
            | (go_at_call 69; with_reducible refine Calls.mono (Cs.out wv.drew hkd) ?_; rintro e wb2 ⟨rfl, hkb⟩)
            | (go_at_call 69; with_reducible refine Calls.mono (Cs.out ((wv.alloc (.cells #[.int .i64 0] 3)).drew) ((Kp.refl wv).alloc _).drew) ?_; rintro e wb2 ⟨rfl, hkb⟩; obtain ⟨hnw, hnf⟩ := newc hkb hwv))
        · have hkh := keepL (by assumption)
          go_wp2_with fail
          go_meet
          refine ⟨_, rfl, ?_, hkh⟩
          rw [World.cell?_alloc_at _ _ _ _ rfl]; rfl
        · have hkh := keepL (by assumption)
          go_wp2_with fail
          go_meet
          refine ⟨_, rfl, ?_, hkh⟩
          exact World.cell?_setCell_same' _ _ _ (by rw [hnw]; rfl)
      case rest =>
        obtain ⟨g, rfl, hg10, hkc⟩ := hcut
        have c9 := hkc.get u9
        have hkw := hkv.trans hkc
        have C0 := containsFunc_any _ #[.pointer (some ⟨wr.heap.size, 0, none⟩), .pointer (some ⟨g, 0, none⟩)] (fun x => decide (dAt F a x < dAt F a (siteF F a L))) A1 S n1 c1 wc ((hS0.kp hkp).kp hkw) Hn1.out (callFunc_of Tryz.func71 (by kernel_rfl) (by kernel_rfl)) (fun k hk w' hk' => by
          obtain ⟨z0, z1⟩ := Hm.out _ (List.getElem_mem hk)
          rw [← Hrl.out] at z1
          exact takes_clo F a S[k] _ _ _ rd _ _ w' (hk'.get c9) (hk'.get hg10) z0 z1 (dCell hlt (hr.kp (hkw.trans hk')) z0 z1))
        rw [show (S.any fun x => decide (dAt F a x < dAt F a (siteF F a L))) = takenB F L S a from near_any] at C0
        have CC := Lib.hid C0
        clear C0
        go_wp2_with fail
        with_reducible refine Calls.mono CC.out ?_
        rintro e w1 ⟨rfl, hk1⟩
        clear CC
        have hk5 := hkw.trans hk1
        have ho2 := hown.kp hk5
        have hk3 := hkp.trans hk5
        have hlen := takenTo_len F L S a
        have hbq : w.heap.size + 1 ≤ w1.heap.size := Nat.le_trans hs1 hk3.le
        cases hb : takenB F L S a
        · have hu := Lib.hid hb; clear hb
          go_wp2_with fail
          go_roundw
          case rel => exact ⟨a + 1, by omega, by go_num, by rw [takenTo_no hu.out]; exact ho2, hk3⟩
          case measure => simp [intOf]; omega
        · have hu := Lib.hid hb; clear hb
          go_wp2_with (at_builtin; go_loud (refine wpl_app rfl (.tmp 30) (.tmp 32) rfl (w.heap.size + 1) _ (takenTo F L S a) a rfl rfl ho2 hbq (by omega) ?_); intro v' w' ho' ht' _; have hk4 := ho2.kp_turn hk3 hs2 ht')
          go_roundw
          case rel => exact ⟨a + 1, by omega, by go_num, by rw [takenTo_yes hu.out]; exact ho', hk4⟩
          case measure => simp [intOf]; omega
    · obtain rfl : a = F.di.length := by omega
      go_wp2_with fail
      go_ret
      exact ⟨_, rfl, hown.mono (Nat.le_succ _), hk0.trans hkp⟩
theorem bag_no {L S : List Int} (hL : ∀ y ∈ L, 0 ≤ y) (hS : ∀ y ∈ S, 0 ≤ y) (h : bagN L &&& bagN S ≠ 0) : (S.any fun x => L.any fun y => y == x) = true := by
  have := bag_apart hL hS
  rw [decide_eq_false h] at this
  simpa using this.symm
theorem bag_yes {L S : List Int} (hL : ∀ y ∈ L, 0 ≤ y) (hS : ∀ y ∈ S, 0 ≤ y) (h : bagN L &&& bagN S = 0) : (S.any fun x => L.any fun y => y == x) = false := by
  have := bag_apart hL hS
  rw [decide_eq_true h] at this
  simpa using this.symm

set_option maxRecDepth 100000 in
set_option maxHeartbeats 1000000 in
theorem implTaken_any (f : Value) (F : Fld) (A0 : Option Addr) (L : List Int) (n0 c0 : Nat) (A1 : Option Addr) (S : List Int) (n1 c1 : Nat) (w : World) (hf : FldAt w f F) (hL : IntsAt w A0 L) (hn0 : L.length = n0) (hS : IntsAt w A1 S) (hn1 : S.length = n1) :
    Calls Tryz.prog 18 #[f, .slice A0 n0 c0, .slice A1 n1 c1] w fun e w' => ∃ v, e = .returned (.tuple #[v, .bool (takenOk F L S)]) ∧ Own w' w.heap.size v (takenL F L S) ∧ Kp w w' := by
  obtain ⟨A, c, B, d, rfl, hA, hB⟩ := hf
  have hk0 : Kp w (w.alloc (.cells #[.slice A F.op.length c, .slice B F.di.length d] 27)) := (Kp.refl w).alloc _
  obtain ⟨d0, d1⟩ := box2 w (.slice A F.op.length c) (.slice B F.di.length d) 27
  have hFA := FldAt.kp (show FldAt w (.agg #[.slice A F.op.length c, .slice B F.di.length d]) F from ⟨A, c, B, d, rfl, hA, hB⟩) hk0
  have hL0 := hL.kp hk0
  have hS0 := hS.kp hk0
  have Hn0 := Lib.hid hn0; clear hn0
  have Hn1 := Lib.hid hn1; clear hn1
  have hop := hA.1
  clear hA hB hS hL
  go_enter Tryz.func18, Tryz.ntmps18
  go_wp2_with fail
  generalize w.alloc (.cells #[.slice A F.op.length c, .slice B F.di.length d] 27) = wb at *
  have CC := Lib.hid (isOpened_any _ F A0 L n0 c0 _ hFA hL0 Hn0.out)
  with_reducible refine Calls.mono CC.out ?_
  rintro e w1 ⟨rfl, hk1⟩
  clear CC
  have e0 := hk1.get d0; have e1 := hk1.get d1
  have K := hk0.trans hk1
  cases hg : openedB F L
  · have Hg := Lib.hid hg; clear hg
    go_wp2_with fail
    go_ret2
    refine ⟨_, by rw [takenOk_no1 Hg.out]; rfl, ?_, K⟩
    rw [takenL_no (takenOk_no1 Hg.out)]
    exact Own.nil _ _
  have Hg := Lib.hid hg; clear hg
  go_wp2_with fail
  have CC := Lib.hid (isRising_any A1 S n1 c1 (F.op.length : Int) _ (hS0.kp hk1) Hn1.out (by omega) (by omega))
  with_reducible refine Calls.mono CC.out ?_
  rintro e w2 ⟨rfl, hw⟩
  obtain rfl := hw
  clear CC
  cases hs : risB S 0 ((F.op.length : Int) - 1)
  · have Hs : Hid (setB F S = false) := hs
    clear hs
    go_wp2_with fail
    go_ret2
    refine ⟨_, by rw [takenOk_no2 Hs.out]; rfl, ?_, K⟩
    rw [takenL_no (takenOk_no2 Hs.out)]
    exact Own.nil _ _
  have Hs : Hid (setB F S = true) := hs
  clear hs
  have hp := openedB_parts Hg.out
  have HP := Lib.hid hp; clear hp
  have hop7 := (goodF_iff.1 HP.out.1).1.2
  have HLm := Lib.hid (set_mem HP.out.2.1)
  have HSm := Lib.hid (set_mem Hs.out)
  go_wp2_with fail
  have CC := Lib.hid (bagOf_any A0 L n0 c0 _ (hL0.kp hk1) Hn0.out (fun x hx => by have := HLm.out x hx; omega))
  with_reducible refine Calls.mono CC.out ?_
  rintro e w2 ⟨rfl, hw⟩
  obtain rfl := hw
  clear CC
  go_wp2_with fail
  have CC := Lib.hid (bagOf_any A1 S n1 c1 _ (hS0.kp hk1) Hn1.out (fun x hx => by have := HSm.out x hx; omega))
  with_reducible refine Calls.mono CC.out ?_
  rintro e w2 ⟨rfl, hw⟩
  obtain rfl := hw
  clear CC
  have b0 : bagN L < 2 ^ 7 := bagN_lt (fun y hy => by have := HLm.out y hy; omega)
  have b1 : bagN S < 2 ^ 7 := bagN_lt (fun y hy => by have := HSm.out y hy; omega)
  have hand := u64_and_nat (bagN L) (bagN S) (by omega) (by omega)
  by_cases hz : bagN L &&& bagN S = 0
  · have hno : Hid ((S.any fun x => L.any fun y => y == x) = false) := bag_yes (fun y hy => (HLm.out y hy).1) (fun y hy => (HSm.out y hy).1) hz
    have hyes : Hid (takenOk F L S = true) := by
      show takenOk F L S = true
      unfold takenOk
      rw [Hg.out, Hs.out, hno.out]; rfl
    rw [hz] at hand
    replace hand : bits .and .u64 (bagN L : Int) (bagN S : Int) = 0 := hand
    clear hz b0 b1 hno
    go_wp2_with fail
    have CC := Lib.hid (takes_any _ F A0 L n0 c0 A1 S n1 c1 _ (hFA.kp hk1) (hL0.kp hk1) Hn0.out (hS0.kp hk1) Hn1.out HP.out.1 HP.out.2.1 HP.out.2.2 Hs.out)
    with_reducible refine Calls.mono CC.out ?_
    rintro e w3 ⟨v, rfl, hov, hk3⟩
    clear CC
    go_wp2_with fail
    go_ret2
    refine ⟨_, by rw [hyes.out]; rfl, ?_, K.trans hk3⟩
    rw [takenL_yes hyes.out]
    exact hov.mono K.le
  · have hyes := Lib.hid (bag_no (fun y hy => (HLm.out y hy).1) (fun y hy => (HSm.out y hy).1) hz)
    have hno := Lib.hid (takenOk_no3 (F := F) hyes.out)
    obtain ⟨Z, hZ⟩ : ∃ Z : Int, ((bagN L &&& bagN S : Nat) : Int) = Z := ⟨_, rfl⟩
    have hZ0 : Z ≠ 0 := by omega
    have hZb : (Z == 0) = false := by simp [hZ0]
    rw [hZ] at hand
    clear hz b0 b1 hyes hZ
    go_wp2_with fail
    go_ret2
    refine ⟨_, by rw [hno.out]; rfl, ?_, K⟩
    rw [takenL_no hno.out]
    exact Own.nil _ _
end Go.Proofs.YtblebedejddefaaGreat

namespace Go.Proofs.YtblebedejddefaaGreat
open Go.RowKit Go.Sort

def meetB (L S : List Int) : Bool := S.any fun x => L.any fun y => y == x
def negT (F : Fld) (L S : List Int) : Int := if S = [] then 1 else -((takenTo F L S F.di.length).length : Int)
def fp (L : List Int) (k : Int) (S : List Int) : Bool := decide ((S.length : Int) = k) && !meetB L S
def folF (F : Fld) (L : List Int) (k : Int) : List Int := bestL (negT F L) ((setsL F.op.length).filter (fp L k))
def folOk (F : Fld) (L : List Int) (k : Int) : Bool := openedB F L && inB k 1 ((F.op.length : Int) - (L.length : Int))
def folL (F : Fld) (L : List Int) (k : Int) : List Int := if folOk F L k = true then folF F L k else []
theorem folL_yes {F : Fld} {L : List Int} {k : Int} (h : folOk F L k = true) : folL F L k = folF F L k := if_pos h
theorem folL_no {F : Fld} {L : List Int} {k : Int} (h : folOk F L k = false) : folL F L k = [] := if_neg (by simp [h])
theorem negT_nil (F : Fld) (L : List Int) : negT F L [] = 1 := if_pos rfl
theorem negT_not {F : Fld} {L S : List Int} (h : S ≠ []) : negT F L S = -((takenTo F L S F.di.length).length : Int) := if_neg h
theorem len_ne (a : Int) : ∀ Y : List Int, Y.Nodup → Y.length ≤ (Y.filter fun x => !(a == x)).length + 1
  | [], _ => by simp
  | y :: t, h => by
    rw [List.nodup_cons] at h
    by_cases e : a = y
    · have : (t.filter fun x => !(a == x)) = t := by
        rw [List.filter_eq_self]
        intro x hx
        have : a ≠ x := fun e2 => h.1 (e ▸ e2 ▸ hx)
        simp [this]
      have h2 : ((y :: t).filter fun x => !(a == x)) = t := by rw [List.filter_cons_of_neg (by simp [e]), this]
      rw [h2]; simp
    · have h2 : ((y :: t).filter fun x => !(a == x)) = y :: (t.filter fun x => !(a == x)) := List.filter_cons_of_pos (by simp [e])
      rw [h2]
      have := len_ne a t h.2
      simp only [List.length_cons]; omega
theorem len_out (X : List Int) (hX : X.Nodup) : ∀ L : List Int, X.length ≤ (X.filter fun x => !(L.any fun y => y == x)).length + L.length
  | [] => by
    have : (X.filter fun x => !(([] : List Int).any fun y => y == x)) = X := by rw [List.filter_eq_self]; intro x _; rfl
    rw [this]; simp
  | a :: L => by
    have h1 := len_out X hX L
    have h2 := len_ne a (X.filter fun x => !(L.any fun y => y == x)) (hX.filter _)
    have e : (X.filter fun x => !((a :: L).any fun y => y == x)) = ((X.filter fun x => !(L.any fun y => y == x)).filter fun x => !(a == x)) := by
      rw [List.filter_filter]
      congr 1
      funext x
      simp only [List.any_cons, Bool.not_or]
    rw [e]
    simp only [List.length_cons]; omega
def sitesL (n : Nat) : List Int := (List.range n).map fun (x : Nat) => (x : Int)
theorem sites_lt (n : Nat) : (sitesL n).Pairwise (· < ·) := by
  unfold sitesL
  rw [List.pairwise_map]
  exact List.pairwise_lt_range.imp (fun h => by omega)
theorem sites_mem {n : Nat} {x : Int} (h : x ∈ sitesL n) : 0 ≤ x ∧ x ≤ (n : Int) - 1 := by
  unfold sitesL at h
  rw [List.mem_map] at h
  obtain ⟨y, hy, rfl⟩ := h
  rw [List.mem_range] at hy
  omega
theorem fol_some {n : Nat} {L : List Int} {k : Int} (h1 : 1 ≤ k) (h2 : k ≤ (n : Int) - (L.length : Int)) : ∃ S ∈ setsL n, fp L k S = true := by
  obtain ⟨R, hR⟩ : ∃ R, R = (sitesL n).filter fun x => !(L.any fun y => y == x) := ⟨_, rfl⟩
  have hnd : (sitesL n).Nodup := (sites_lt n).imp (fun h => by omega)
  have hl := len_out (sitesL n) hnd L
  rw [← hR, show (sitesL n).length = n from by simp [sitesL]] at hl
  have hlen : (R.take k.toNat).length = k.toNat := by rw [List.length_take]; omega
  have hsub : (R.take k.toNat).Sublist (sitesL n) := (List.take_sublist _ _).trans (hR ▸ List.filter_sublist)
  refine ⟨R.take k.toNat, mem_setsL.2 ⟨?_, ris_iff.2 ⟨(sites_lt n).sublist hsub, fun x hx => sites_mem (hsub.subset hx)⟩⟩, ?_⟩
  · intro e
    rw [e] at hlen
    simp at hlen; omega
  · unfold fp
    rw [Bool.and_eq_true]
    refine ⟨?_, ?_⟩
    · rw [hlen, decide_eq_true_eq]; omega
    · have : meetB L (R.take k.toNat) = false := by
        unfold meetB
        rw [List.any_eq_false]
        intro x hx
        have h3 : x ∈ R := List.mem_of_mem_take hx
        rw [hR, List.mem_filter] at h3
        have h4 := h3.2
        simp only [Bool.not_eq_true'] at h4
        rw [h4]; simp
      rw [this]; rfl
theorem fol_pos {n : Nat} {L : List Int} {k : Int} (h1 : 1 ≤ k) (h2 : k ≤ (n : Int) - (L.length : Int)) : 0 < ((setsL n).filter (fp L k)).length := by
  obtain ⟨S, hS, hp⟩ := fol_some h1 h2
  exact List.length_pos_of_mem (List.mem_filter.2 ⟨hS, hp⟩)
theorem fol_mem {F : Fld} {L : List Int} {k : Int} (h1 : 1 ≤ k) (h2 : k ≤ (F.op.length : Int) - (L.length : Int)) : folF F L k ∈ (setsL F.op.length).filter (fp L k) := bestL_mem (fol_pos h1 h2)
theorem fol_set {F : Fld} {L : List Int} {k : Int} (h1 : 1 ≤ k) (h2 : k ≤ (F.op.length : Int) - (L.length : Int)) : folF F L k ≠ [] ∧ setB F (folF F L k) = true := mem_setsL.1 (List.mem_filter.1 (fol_mem h1 h2)).1
theorem folOk_parts {F : Fld} {L : List Int} {k : Int} (h : folOk F L k = true) : openedB F L = true ∧ 1 ≤ k ∧ k ≤ (F.op.length : Int) - (L.length : Int) := by
  simp only [folOk, inB, Bool.and_eq_true, decide_eq_true_eq] at h
  exact ⟨h.1, h.2⟩
theorem folL_len (F : Fld) (L : List Int) (k : Int) : (folL F L k).length ≤ 1048576 := by
  by_cases h : folOk F L k = true
  · obtain ⟨h0, h1, h2⟩ := folOk_parts h
    rw [folL_yes h]
    have h3 := risB_len (fol_set h1 h2).2
    have h4 := (goodF_iff.1 (openedB_parts h0).1).1.2
    omega
  · rw [folL_no (by simpa using h)]; simp
theorem negT_less {F : Fld} {L S : List Int} (h : S ≠ []) : negT F L S < negT F L [] := by rw [negT_nil, negT_not h]; omega
theorem fol_pick {F : Fld} {L : List Int} {k : Int} : pk0 (fp L k) (negT F L) (setsL F.op.length) (setsL F.op.length).length = folF F L k := pk0_all (fun s hs => negT_less (mem_setsL.1 hs).1)
end Go.Proofs.YtblebedejddefaaGreat

namespace Go.Proofs.YtblebedejddefaaGreat
open Go.RowKit Go.Sort Go.Shelf

def delL_ren : Go.Shelf.Ren := ⟨fun | 10 => 38 | 6 => 74 | n => n, fun | 22 => 25 | 23 => 24 | 25 => 65 | 3 => 3 | 4 => 4 | 0 => 0 | n => n, fun | n => n⟩
theorem delL : Go.Proofs.SlLaysH.n10 Tryz.prog delL_ren := {
  mixed := by kernel_rfl
  f6 := ⟨Tryz.f74.name, by decide, Tryz.func74.trans (congrArg some (by kernel_rfl))⟩
  f10 := ⟨Tryz.f38.name, by decide, Tryz.func38.trans (congrArg some (by kernel_rfl))⟩
  t0 := Tryz.underlying0
  a0 := Tryz.isAgg0
  z0 := Tryz.sizeOf0
  v0 := Tryz.zeroValue0
  t3 := Tryz.underlying3
  a3 := Tryz.isAgg3
  z3 := Tryz.sizeOf3
  v3 := Tryz.zeroValue3
  t4 := Tryz.underlying4
  a4 := Tryz.isAgg4
  z4 := Tryz.sizeOf4
  v4 := Tryz.zeroValue4
  t22 := Tryz.underlying25
  a22 := Tryz.isAgg25
  z22 := Tryz.sizeOf25
  v22 := Tryz.zeroValue25
  a23 := Tryz.isAgg24
  z23 := Tryz.sizeOf24
  t25 := Tryz.underlying65
  a25 := Tryz.isAgg65
  z25 := Tryz.sizeOf65
  v25 := Tryz.zeroValue65 }
end Go.Proofs.YtblebedejddefaaGreat

namespace Go.Proofs.YtblebedejddefaaGreat
open Go.RowKit Go.Sort Go.Shelf

theorem rows_map (rows : List (List Int)) : (List.range rows.length).map (rowD rows) = rows := by
  apply List.ext_getElem
  · simp
  · intro i hi hi2
    simp [rowD, List.getD, hi2]
theorem rowD_lt {rows : List (List Int)} {i : Nat} (h : i < rows.length) : rowD rows i = rows[i] := by simp [rowD, List.getD, h]
theorem fil_map (rows : List (List Int)) (q : List Int → Bool) : ((List.range rows.length).filter fun i => q (rowD rows i)).map (rowD rows) = rows.filter q := by
  conv => rhs; rw [← rows_map rows]
  rw [List.filter_map]; rfl
theorem fil_get {rows : List (List Int)} {q : List Int → Bool} {k : Nat} (hk : k < (rows.filter q).length) : ∃ h : k < ((List.range rows.length).filter fun i => q (rowD rows i)).length, (rows.filter q)[k] = rowD rows ((List.range rows.length).filter fun i => q (rowD rows i))[k] ∧ ((List.range rows.length).filter fun i => q (rowD rows i))[k] < rows.length := by
  have e := fil_map rows q
  have hl : ((List.range rows.length).filter fun i => q (rowD rows i)).length = (rows.filter q).length := by rw [← e, List.length_map]
  have h : k < ((List.range rows.length).filter fun i => q (rowD rows i)).length := by omega
  refine ⟨h, ?_, ?_⟩
  · have : ((((List.range rows.length).filter fun i => q (rowD rows i)).map (rowD rows)))[k]'(by rw [List.length_map]; exact h) = (rows.filter q)[k] := by simp only [e]
    rw [← this, List.getElem_map]
  · have := List.getElem_mem h
    rw [List.mem_filter] at this
    simpa using this.1
set_option maxHeartbeats 1000000 in
theorem del_any {base : Nat} {lo : Option Nat} {v : Value} {rows : List (List Int)} {w : World} (h : GOwn w lo base v rows) (hv : v ≠ .slice none 0 0) (h0 : rows ≠ []) (hl : rows.length ≤ 1000000)
    (FN : Nat) (lb : Array Value) (p : List Int → Bool) (Q : List Int → Prop) (eg : ∀ args w, (callFunc FN args).run Tryz.prog w = .ok (.enter FN args) w) (hq : ∀ S ∈ rows, Q S) (hq0 : Q [])
    (hC : ∀ (W : World) (A : Option Addr) (xs : List Int) (n c : Nat), Turn (fun i => v.ownBlock = some i) w W → Q xs → IntsAt W A xs → xs.length = n → Calls Tryz.prog FN (#[.slice A n c] ++ lb) W fun e w' => e = .returned (.bool (p xs)) ∧ ∃ q, w' = W.drewN q) :
    Calls Tryz.prog 38 #[v, .func (.func FN) #[] lb] w fun e w' => ∃ ad c, e = .returned (.slice (some ad) (rows.filter fun s => !p s).length c) ∧ RowsAt w' lo (some ad) (rows.filter fun s => !p s) ∧ Turn (fun i => v.ownBlock = some i) w w' := by
  obtain ⟨hs, h1, h2⟩ := h
  have hlen : hs.length = rows.length := by rw [h1.1]; omega
  rcases id h1.2 with ⟨rfl, _⟩ | ⟨g, cap, cur, rfl, hb, hg, hn, hm, hsz, ht⟩
  · exact absurd rfl hv
  have hblk : g < w.heap.size := (World.ownsRow.lt h1 g rfl).2
  have hs0 : hs = (List.range rows.length).map (hdD hs) := by
    apply List.ext_getElem
    · simp [hlen]
    · intro i hi hi2
      simp [hdD, List.getD, hi]
  have h1' : w.ownsRow base 24 1 (.slice (some ⟨g, 0, none⟩) rows.length cap) rows.length ((List.range rows.length).map (hdD hs)) := by rw [← hs0]; exact h1
  obtain ⟨g2, cap2, e2, _, hcap, _, _, _, hH⟩ := Lib.holds_of_ownsRow h1' (by simp)
  simp only [Value.slice.injEq, Option.some.injEq, Addr.mk.injEq] at e2
  obtain ⟨⟨rfl, _, _⟩, _, rfl⟩ := e2
  have one : OneCell (hdD hs) := fun i => by
    by_cases hi : i < rows.length
    · obtain ⟨u, e1, e2, _⟩ := h2 i hi
      have := e2.one
      simp [hdD, List.getD, e1, this]
    · simp [hdD, List.getD, List.getElem?_eq_none (show hs.length ≤ i by omega), Value.oneCell']
  have key : ∀ (W : World), Turn (fun i => i = g) w W → ∀ i, FnGives Tryz.prog FN lb #[hdD hs i] (.bool (p (rowD rows i))) W := fun W hT i => by
    have hT2 : Turn (fun i => (Value.slice (some ⟨g, 0, none⟩) rows.length cap).ownBlock = some i) w W := hT.mono (fun i hi => by rw [hi]; rfl)
    unfold FnGives
    by_cases hi : i < rows.length
    · obtain ⟨u, e1, e2, e3⟩ := h2 i hi
      have er : rowD rows i = rows[i] := by simp [rowD, List.getD, hi]
      obtain ⟨A, c, rfl, _, e5⟩ := (e2.turn hT (fun hn g' hg' hh => e3 hn g' hg' (by rw [hh]; rfl))).read
      have eh : hdD hs i = .slice A rows[i].length c := by simp [hdD, List.getD, e1]
      rw [eh, er]
      exact hC W A rows[i] _ c hT2 (hq _ (List.getElem_mem hi)) e5 rfl
    · have eh : hdD hs i = .slice none 0 0 := by simp [hdD, List.getD, List.getElem?_eq_none (show hs.length ≤ i by omega)]
      have er : rowD rows i = [] := by simp [rowD, List.getD, List.getElem?_eq_none (show rows.length ≤ i by omega)]
      rw [eh, er]
      exact hC W none [] 0 0 hT2 hq0 (IntsAt.nil _ _) rfl
  have hH' : Holds (hdD hs) w g 0 (Array.range rows.length) := by
    have e : (List.range rows.length).toArray = Array.range rows.length := by simp
    rw [← e]; exact hH
  have hcon := AnyE.slices_DeleteFunc delL (hdD hs) one (fun i => p (rowD rows i)) FN lb eg rows.length (fun w => by
      have e : hdD hs rows.length = .slice none 0 0 := by simp [hdD, List.getD, List.getElem?_eq_none (show hs.length ≤ rows.length by omega)]
      rw [e]; exact Tryz.zeroValue24 w) g 0 cap (Array.range rows.length) w
    (fun W x hb => key W ⟨hb.os, hb.tape, hb.output, hb.size, fun k hk _ => hb.block k hk⟩ x)
    (fun n os dk x _ => key (sortWorld (hdD hs) w g 0 n dk os) ⟨rfl, rfl, rfl, by simp [sortWorld], fun i hi hn => by
      unfold sortWorld
      rw [heap_grow_old _ _ (by simpa using hi)]
      simp [putRow, mapBlock, Sort.ahead, Array.getElem?_modify, Ne.symm hn]⟩ x) hH' (by rw [Array.size_range]; omega) (by rw [Array.size_range]; omega)
  have el : ((Array.range rows.length).toList.filter fun x => !p (rowD rows x)) = (List.range rows.length).filter fun x => !p (rowD rows x) := by simp
  have ell : ((List.range rows.length).filter fun x => !p (rowD rows x)).length = (rows.filter fun s => !p s).length := by
    rw [← fil_map rows (fun s => !p s), List.length_map]
  have hle : (rows.filter fun s => !p s).length ≤ rows.length := List.length_filter_le _ _
  rw [el, Array.size_range] at hcon
  refine Calls.mono hcon ?_
  rintro e w' ⟨rfl, q, rfl⟩
  have hT : Turn (fun i => i = g) w (putRow (hdD hs) (Sort.ahead w q) g 0 (((List.range rows.length).filter fun x => !p (rowD rows x)) ++ List.replicate (rows.length - ((List.range rows.length).filter fun x => !p (rowD rows x)).length) rows.length).toArray) := ⟨rfl, rfl, rfl, by simp [putRow, mapBlock, Sort.ahead], fun i hi hn => by
    simp [putRow, mapBlock, Sort.ahead, Array.getElem?_modify, Ne.symm hn]⟩
  have hHd := holds_putRow (hdD hs) (Sort.ahead w q) g 0 (Array.range rows.length) (((List.range rows.length).filter fun x => !p (rowD rows x)) ++ List.replicate (rows.length - ((List.range rows.length).filter fun x => !p (rowD rows x)).length) rows.length).toArray (holds_ahead _ w q g 0 _ hH') (by simp; omega)
  refine ⟨⟨g, 0, none⟩, cap, by rw [ell], ⟨by omega, fun k hk => ?_⟩, hT.mono (fun i hi => by rw [hi]; rfl)⟩
  obtain ⟨hk2, ek, hlt⟩ := fil_get hk
  obtain ⟨u, e1, e2, e3⟩ := h2 _ hlt
  have er : rowD rows ((List.range rows.length).filter fun i => !p (rowD rows i))[k] = rows[((List.range rows.length).filter fun i => !p (rowD rows i))[k]] := rowD_lt hlt
  refine ⟨⟨g, 0, none⟩, u, rfl, ?_, ?_⟩
  · have hc := (hHd k (by simp; omega)).1
    have ea : (Addr.mk g 0 none).add k = ⟨g, 0 + k, none⟩ := by simp [Addr.add]; exact fun h => h.symm
    rw [ea, hc]
    congr 1
    rw [getElem!_pos _ k (by simp; omega)]
    simp only [List.getElem_toArray]
    rw [List.getElem_append_left hk2]
    simp [hdD, List.getD, e1]
  · rw [ek, er]
    exact e2.turn hT (fun hn g' hg' hh => e3 hn g' hg' (by rw [hh]; rfl))
end Go.Proofs.YtblebedejddefaaGreat

namespace Go.Proofs.YtblebedejddefaaGreat
open Go.RowKit Go.Sort

theorem fp_len {L : List Int} {k : Int} {S : List Int} (h : ¬ (S.length : Int) = k) : fp L k S = false := by unfold fp; rw [decide_eq_false h]; rfl
theorem fp_meet {L : List Int} {k : Int} {S : List Int} (h : meetB L S = true) : fp L k S = false := by unfold fp; rw [h]; simp
theorem fp_yes {L : List Int} {k : Int} {S : List Int} (h : (S.length : Int) = k) (h2 : meetB L S = false) : fp L k S = true := by unfold fp; rw [h2, decide_eq_true h]; rfl
set_option maxHeartbeats 1000000 in
theorem folClo1_any (L : List Int) (k : Int) (p q : Nat) (W : World) (x0 : W.cell? ⟨p, 0, none⟩ = some (.int .i64 k)) (x1 : W.cell? ⟨q, 0, none⟩ = some (.int .u64 (bagN L))) (Av : Option Addr) (S : List Int) (n cv : Nat) (hS : IntsAt W Av S) (hn : S.length = n) (hm : ∀ x ∈ S, 0 ≤ x ∧ x < 7) (hl : ∀ x ∈ L, 0 ≤ x ∧ x < 7) :
    Calls Tryz.prog 72 #[.slice Av n cv, .pointer (some ⟨p, 0, none⟩), .pointer (some ⟨q, 0, none⟩)] W fun e w' => e = .returned (.bool (!fp L k S)) ∧ ∃ q, w' = W.drewN q := by
  have C1 := Lib.hid (fun (wx : World) (hx : Kp W wx) => bagOf_any Av S n cv wx (hS.kp hx) hn (fun x hx => by have := hm x hx; omega))
  have Cq := Lib.hid (fun nn => Calls.same_quiet (C1.out (W.drewN nn) ((Kp.refl W).drewN nn)))
  have b0 : bagN L < 2 ^ 7 := bagN_lt hl
  have b1 : bagN S < 2 ^ 7 := bagN_lt hm
  have hand := u64_and_nat (bagN S) (bagN L) (by omega) (by omega)
  by_cases hlen : (n : Int) = k
  · have hdec : ((n : Int) == k) = true := by simp [hlen]
    have hdec2 : ((n : Int) != k) = false := by simp [hlen]
    by_cases hz : bagN S &&& bagN L = 0
    · have hno := bag_yes (L := L) (S := S) (fun y hy => (hl y hy).1) (fun y hy => (hm y hy).1) (by rw [Nat.and_comm]; exact hz)
      have Hy : Hid (Value.bool false = Value.bool (!fp L k S)) := by show _ = _; rw [fp_yes (by rw [hn]; exact hlen) hno]; rfl
      rw [hz] at hand
      replace hand : bits .and .u64 (bagN S : Int) (bagN L : Int) = 0 := hand
      clear C1 hS hn hm hl hlen hz b0 b1 hno
      go_enter Tryz.func72, Tryz.ntmps72
      go_wp2_with fail
      go_quiet (exact Cq.out _)
      go_wp2_with fail
      go_ret
      exact ⟨by rw [← Hy.out]; rfl, nq, rfl⟩
    · have hyes := bag_no (L := L) (S := S) (fun y hy => (hl y hy).1) (fun y hy => (hm y hy).1) (by rw [Nat.and_comm]; exact hz)
      have Hy : Hid (Value.bool true = Value.bool (!fp L k S)) := by show _ = _; rw [fp_meet hyes]; rfl
      obtain ⟨Z, hZ⟩ : ∃ Z : Int, ((bagN S &&& bagN L : Nat) : Int) = Z := ⟨_, rfl⟩
      have hZ0 : Z ≠ 0 := by omega
      have hZb : (Z == 0) = false := by simp [hZ0]
      have hZc : (Z != 0) = true := by simp [hZ0]
      rw [hZ] at hand
      clear C1 hS hn hm hl hlen hz b0 b1 hyes hZ
      go_enter Tryz.func72, Tryz.ntmps72
      go_wp2_with fail
      go_quiet (exact Cq.out _)
      go_wp2_with fail
      go_ret
      exact ⟨by rw [← Hy.out]; rfl, nq, rfl⟩
  · have hdec : ((n : Int) == k) = false := by simp [hlen]
    have hdec2 : ((n : Int) != k) = true := by simp [hlen]
    have Hy : Hid (Value.bool true = Value.bool (!fp L k S)) := by show _ = _; rw [fp_len (by rw [hn]; exact hlen)]; rfl
    clear C1 hS hn hm hl hlen b0 b1 hand
    go_enter Tryz.func72, Tryz.ntmps72
    go_wp2_with fail
    go_quiet (exact Cq.out _)
    go_wp2_with fail
    go_ret
    exact ⟨by rw [← Hy.out]; rfl, nq, rfl⟩
set_option maxHeartbeats 400000 in
theorem folClo2_any (F : Fld) (L : List Int) (A : Option Addr) (c : Nat) (B : Option Addr) (d : Nat) (p q : Nat) (w : World) (hf : FldAt w (.agg #[.slice A F.op.length c, .slice B F.di.length d]) F) (x0 : w.cell? ⟨p, 0, none⟩ = some (.slice A F.op.length c)) (x1 : w.cell? ⟨p, 1, none⟩ = some (.slice B F.di.length d))
    (A0 : Option Addr) (n0 c0 : Nat) (y0 : w.cell? ⟨q, 0, none⟩ = some (.slice A0 n0 c0)) (hL : IntsAt w A0 L) (hn0 : L.length = n0) (hg : goodF F = true) (hl : setB F L = true) (hne : L ≠ [])
    (Av : Option Addr) (S : List Int) (n cv : Nat) (hS : IntsAt w Av S) (hn : S.length = n) (hs : setB F S = true) (hse : S ≠ []) :
    Calls Tryz.prog 73 #[.slice Av n cv, .pointer (some ⟨p, 0, none⟩), .pointer (some ⟨q, 0, none⟩)] w fun e w' => e = .returned (.int .i64 (negT F L S)) ∧ Kp w w' := by
  have CC := Lib.hid (takes_any _ F A0 L n0 c0 Av S n cv w hf hL hn0 hS hn hg hl hne hs)
  have hd7 := (goodF_iff.1 hg).2.2.1
  have htl := takenTo_len F L S F.di.length
  have Hd : Hid (negT F L S = -((takenTo F L S F.di.length).length : Int)) := negT_not hse
  generalize takenTo F L S F.di.length = T at *
  clear hf hL hS hn0 hn hg hl hne hs hse
  go_enter Tryz.func73, Tryz.ntmps73
  go_wp2_with fail
  with_reducible refine Calls.mono CC.out ?_
  rintro e w1 ⟨v, rfl, hov, hk1⟩
  clear CC
  obtain ⟨At, ct, rfl⟩ := hov.shape
  clear hov
  have hT : (T.length : Int) ≤ 7 := by omega
  go_wp2_with fail
  go_ret
  exact ⟨ret_int (by rw [Hd.out] <;> first | omega | (rw [IntWalk.i64_in _ (by omega)] <;> omega)), hk1⟩
set_option maxRecDepth 100000 in
set_option maxHeartbeats 1000000 in
theorem follower_any (f : Value) (F : Fld) (A0 : Option Addr) (L : List Int) (n0 c0 : Nat) (k : Int) (w : World) (hf : FldAt w f F) (hL : IntsAt w A0 L) (hn0 : L.length = n0) (hg : goodF F = true) (hl : setB F L = true) (hne : L ≠ []) (hk1 : 1 ≤ k) (hk2 : k ≤ (F.op.length : Int) - (L.length : Int)) :
    Calls Tryz.prog 36 #[f, .slice A0 n0 c0, .int .i64 k] w fun e w' => ∃ u, e = .returned u ∧ RowP w' (some w.heap.size) u (folF F L k) ∧ Kp w w' := by
  obtain ⟨A, c, B, d, rfl, hA, hB⟩ := hf
  have hk0 : Kp w (((w.alloc (.cells #[.slice A F.op.length c, .slice B F.di.length d] 27)).alloc (.cells #[.slice A0 n0 c0] 24)).alloc (.cells #[.int .i64 k] 3)) := (((Kp.refl w).alloc _).alloc _).alloc _
  obtain ⟨d0, d1⟩ := box2 w (.slice A F.op.length c) (.slice B F.di.length d) 27
  have hFA := FldAt.kp (show FldAt w (.agg #[.slice A F.op.length c, .slice B F.di.length d]) F from ⟨A, c, B, d, rfl, hA, hB⟩) hk0
  have d2 : ((w.alloc (.cells #[.slice A F.op.length c, .slice B F.di.length d] 27)).alloc (.cells #[.slice A0 n0 c0] 24)).cell? ⟨w.heap.size + 1, 0, none⟩ = some (.slice A0 n0 c0) := by
    rw [World.cell?_alloc_at _ _ _ _ (by simp)]; rfl
  replace d0 := (((Kp.refl _).alloc (.cells #[.slice A0 n0 c0] 24)).alloc (.cells #[.int .i64 k] 3)).get d0
  replace d1 := (((Kp.refl _).alloc (.cells #[.slice A0 n0 c0] 24)).alloc (.cells #[.int .i64 k] 3)).get d1
  replace d2 := ((Kp.refl _).alloc (.cells #[.int .i64 k] 3)).get d2
  have d3 : (((w.alloc (.cells #[.slice A F.op.length c, .slice B F.di.length d] 27)).alloc (.cells #[.slice A0 n0 c0] 24)).alloc (.cells #[.int .i64 k] 3)).cell? ⟨w.heap.size + 1 + 1, 0, none⟩ = some (.int .i64 k) := by
    rw [World.cell?_alloc_at _ _ _ _ (by simp)]; rfl
  have hLA := hL.kp hk0
  have Hn0 := Lib.hid hn0; have HG := Lib.hid hg; have HL := Lib.hid hl; have HE := Lib.hid hne
  have Hk1 := Lib.hid hk1; have Hk2 := Lib.hid hk2
  have hg7 := (goodF_iff.1 hg).1.2
  have HM : Hid (∀ x ∈ L, 0 ≤ x ∧ x < 7) := by show ∀ x ∈ L, _; exact fun x hx => by have := set_mem hl x hx; omega
  have hsz : Hid ((((w.alloc (.cells #[.slice A F.op.length c, .slice B F.di.length d] 27)).alloc (.cells #[.slice A0 n0 c0] 24)).alloc (.cells #[.int .i64 k] 3)).heap.size = w.heap.size + 1 + 1 + 1) := by show _ = _; simp
  clear hA hB hL hn0 hg hl hne hk1 hk2
  go_enter Tryz.func36, Tryz.ntmps36
  go_wp2_with fail
  generalize ((w.alloc (.cells #[.slice A F.op.length c, .slice B F.di.length d] 27)).alloc (.cells #[.slice A0 n0 c0] 24)).alloc (.cells #[.int .i64 k] 3) = wb at *
  have CC := Lib.hid (bagOf_any A0 L n0 c0 wb hLA Hn0.out (fun x hx => by have := HM.out x hx; omega))
  with_reducible refine Calls.mono CC.out ?_
  rintro e w1 ⟨rfl, hw⟩
  obtain rfl := hw
  clear CC
  have hkx := (Kp.refl wb).alloc (.cells #[.int .u64 (bagN L)] 74)
  have f0 := hkx.get d0; have f1 := hkx.get d1; have f2 := hkx.get d2; have f3 := hkx.get d3
  have f4 : (wb.alloc (.cells #[.int .u64 (bagN L)] 74)).cell? ⟨wb.heap.size, 0, none⟩ = some (.int .u64 (bagN L)) := by
    rw [World.cell?_alloc_at _ _ _ _ rfl]; rfl
  go_wp2_with fail
  have hky := hk0.trans hkx
  have hFB := hFA.kp hkx
  have hLB := hLA.kp hkx
  rw [hsz.out] at f4
  have hsz2 : Hid ((wb.alloc (.cells #[.int .u64 (bagN L)] 74)).heap.size = w.heap.size + 1 + 1 + 1 + 1) := by show _ = _; rw [World.size_alloc, hsz.out]
  rw [hsz.out]
  clear d0 d1 d2 d3 hk0 hkx hFA hLA
  generalize wb.alloc (.cells #[.int .u64 (bagN L)] 74) = wc at *
  have CC := Lib.hid (sets_any F.op.length wc hg7)
  with_reducible refine Calls.mono CC.out ?_
  rintro e w1 ⟨v, rfl, hvn, hgo, hk1⟩
  clear CC
  have e0 := hk1.get f0; have e1 := hk1.get f1; have e2 := hk1.get f2; have e3 := hk1.get f3; have e4 := hk1.get f4
  have hgl := hgo.lt
  have hap : ∀ i, i < wc.heap.size → ¬ v.ownBlock = some i := fun i hi e => by have := (hgl i e).1; omega
  have hsl : (setsL F.op.length).length ≤ 127 := by rw [setsL_len]; have h128 : 2 ^ F.op.length ≤ 2 ^ 7 := Nat.pow_le_pow_right (by omega) hg7; omega
  have hfp := fol_pos (n := F.op.length) (L := L) (k := k) Hk1.out Hk2.out
  have hne0 : setsL F.op.length ≠ [] := fun e => by rw [e] at hfp; simp at hfp
  have hsz3 := hsz2.out
  have CD := Lib.hid (del_any hgo hvn hne0 (by omega) 72 #[.pointer (some ⟨w.heap.size + 1 + 1, 0, none⟩), .pointer (some ⟨w.heap.size + 1 + 1 + 1, 0, none⟩)] (fun S => !fp L k S) (fun S => ∀ x ∈ S, 0 ≤ x ∧ x < 7)
    (callFunc_of Tryz.func72 (by kernel_rfl) (by kernel_rfl)) (fun S hS x hx => by have h3 : setB F S = true := (mem_setsL.1 hS).2; have := set_mem h3 x hx; omega) (fun x hx => by cases hx)
    (fun W Av S n cv hT hq hi hn => folClo1_any L k _ _ W (cell_turn e3 hT (hap _ (by show w.heap.size + 1 + 1 < _; omega))) (cell_turn e4 hT (hap _ (by show w.heap.size + 1 + 1 + 1 < _; omega))) Av S n cv hi hn hq HM.out))
  simp only [Bool.not_not] at CD
  clear hne0 hgo
  go_wp2_with fail
  with_reducible refine Calls.mono CD.out ?_
  rintro e w2 ⟨ad, cc, rfl, hrows, hT⟩
  clear CD
  have hk2 : Kp wc w2 := hk1.turn hT (fun i hi => (hgl i hi).1)
  have g0 := hk2.get f0; have g1 := hk2.get f1; have g2 := hk2.get f2
  have hFC := hFB.kp hk2
  have hLC := hLB.kp hk2
  have CL := Lib.hid (least_any 73 #[] #[.pointer (some ⟨w.heap.size, 0, none⟩), .pointer (some ⟨w.heap.size + 1, 0, none⟩)] (negT F L) (fun S => S ≠ [] ∧ setB F S = true) _ (some ad) _ _ cc w2 hrows rfl hfp
    ⟨callFunc_of Tryz.func73 (by kernel_rfl) (by kernel_rfl), fun S Av cv w' hk hq hi _ => folClo2_any F L A c B d _ _ w' (hFC.kp hk) (hk.get g0) (hk.get g1) A0 n0 c0 (hk.get g2) (hLC.kp hk) Hn0.out HG.out HL.out HE.out Av S S.length cv hi rfl hq.2 hq.1⟩
    (fun S hS => mem_setsL.1 (List.mem_filter.1 hS).1))
  clear hrows hvn hap hgl hfp e0 e1 e2 e3 e4 f0 f1 f2 f3 f4
  go_wp2_with fail
  with_reducible refine Calls.mono CL.out ?_
  rintro e w3 ⟨u, rfl, hu, hk3⟩
  clear CL
  go_wp2_with fail
  go_ret
  exact ⟨u, rfl, hu.mono (hky.le), hky.trans (hk2.trans hk3)⟩
end Go.Proofs.YtblebedejddefaaGreat

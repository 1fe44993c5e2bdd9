/- ClientsTaken: the program's walk. No condition. -/
import Derived.Test.YtcekddpllpbkmaaTaken2
import Derived.Deep.RegionHeld3
namespace Go.Proofs.Ytcekddpllpbkmaa
open Go.RowKit Go.Sort

set_option maxRecDepth 100000 in
set_option maxHeartbeats 1000000 in
theorem takes_clo (F : Fld) (i : Nat) (a d : Int) (p q rd : Addr) (m c : Nat) (w : World) (h1 : w.cell? p = some (.slice (some rd) m c)) (h2 : w.cell? q = some (.int .i64 d)) (ha : 0 ≤ a) (hm : a < m) (hc : w.cell? (rd.add a.toNat) = some (.int .i64 (dAt F i a))) :
    Calls Try.prog 83 #[.int .i64 a, .pointer (some p), .pointer (some q)] w fun e w' => e = .returned (.bool (decide (dAt F i a < d))) ∧ Kp w w' := by
  go_enter Try.func83, Try.ntmps83
  go_wp2_with fail
  go_quiet (fail)
  go_wp2_with fail
  go_ret
  exact ⟨rfl, (Kp.refl _).drewN _⟩

theorem keepS {wv w' : World} {p q r s : Addr} {a b c d : Value} (h1 : wv.cell? p = some a) (h2 : wv.cell? q = some b) (h3 : wv.cell? r = some c) (h4 : wv.cell? s = some d) (h : Kp wv w') : w'.cell? p = some a ∧ w'.cell? q = some b ∧ w'.cell? r = some c ∧ w'.cell? s = some d ∧ Kp wv w' := ⟨h.get h1, h.get h2, h.get h3, h.get h4, h⟩

theorem newc {wv wb : World} {H : Nat} {v : Value} {t : TypeId} (h : Kp ((wv.alloc (.cells #[v] t)).drew) wb) (hH : wv.heap.size = H) : wb.cell? ⟨H, 0, none⟩ = some v ∧ wb.frozen? ⟨H, 0, none⟩ = false := by
  have h1 : ((wv.alloc (.cells #[v] t)).drew).cell? ⟨H, 0, none⟩ = some v := by
    show (wv.alloc (.cells #[v] t)).cell? ⟨H, 0, none⟩ = some v
    rw [World.cell?_alloc_at _ _ _ _ hH.symm]; rfl
  refine ⟨h.get h1, ?_⟩
  rw [h.froz h1]
  exact World.frozen?_alloc_at _ _ _ _ hH.symm

theorem keepL {P Q R T : Prop} {wv w' : World} (h : P ∧ Q ∧ R ∧ T ∧ Kp wv w') : Kp wv w' := h.2.2.2.2

set_option maxRecDepth 100000 in
set_option maxHeartbeats 1000000 in
theorem takes_any (f : Value) (F : Fld) (A0 : Option Addr) (L : List Int) (n0 c0 : Nat) (A1 : Option Addr) (S : List Int) (n1 c1 : Nat) (w : World) (hf : FldAt w f F) (hL : IntsAt w A0 L) (hn0 : L.length = n0) (hS : IntsAt w A1 S) (hn1 : S.length = n1) (hg : goodF F = true) (hl : setB F L = true) (hne : L ≠ []) (hs : setB F S = true) :
    Calls Try.prog 49 #[f, .slice A0 n0 c0, .slice A1 n1 c1] w fun e w' => ∃ v, e = .returned v ∧ Own w' w.heap.size v (takenTo F L S F.di.length) ∧ Kp w w' := by
  obtain ⟨A, c, B, d, rfl, hA, hB⟩ := hf
  have hk0 : Kp w (w.alloc (.cells #[.slice A F.op.length c, .slice B F.di.length d] 29)) := (Kp.refl w).alloc _
  obtain ⟨d0, d1⟩ := box2 w (.slice A F.op.length c) (.slice B F.di.length d) 29
  have hFA := FldAt.kp (show FldAt w (.agg #[.slice A F.op.length c, .slice B F.di.length d]) F from ⟨A, c, B, d, rfl, hA, hB⟩) hk0
  have hL0 := hL.kp hk0
  have hS0 := hS.kp hk0
  have hB0 := hB.kp hk0
  have Hn0 := Lib.hid hn0; clear hn0
  have Hn1 := Lib.hid hn1; clear hn1
  have hd7 := (goodF_iff.1 hg).2.2.1
  have Hg := Lib.hid hg; have Hl := Lib.hid hl; have Hne := Lib.hid hne; have Hs := Lib.hid hs
  clear hg hl hs hne hA hB hS hL
  have hs1 : w.heap.size + 1 ≤ (w.alloc (.cells #[.slice A F.op.length c, .slice B F.di.length d] 29)).heap.size := by simp
  have hs2 : (w.alloc (.cells #[.slice A F.op.length c, .slice B F.di.length d] 29)).heap.size ≤ w.heap.size + 1 := by simp
  have hmf : ∀ (fn : Fn) (first cap : Array Value) (w : World), (Instr.makeFunc fn first cap).run Try.prog w = .ok (.func fn first cap) w := fun _ _ _ _ => rfl
  go_enter Try.func49, Try.ntmps49
  go_wp2_with fail
  generalize w.alloc (.cells #[.slice A F.op.length c, .slice B F.di.length d] 29) = wb at *
  have ho0 := own_new0 wb (w.heap.size + 1) hs1
  rw [Nat.le_antisymm hs2 hs1] at ho0
  have hkn := (Kp.refl wb).alloc (.cells #[] 3)
  go_loopw [7, 15] (fun ov ix wr => ∃ a : Nat, a ≤ F.di.length ∧ ix = .int .i64 a ∧ Own wr (w.heap.size + 1) ov (takenTo F L S a) ∧ Kp wb wr) (fun _ ix _ => F.di.length - (intOf ix).toNat)
  case atStart => exact ⟨0, by omega, rfl, ho0, hkn⟩
  case round =>
    obtain ⟨a, ha, rfl, hown, hkp⟩ := hrel
    have q0 := hkp.get d0; have q1 := hkp.get d1
    have hbl : w.heap.size + 1 ≤ wr.heap.size := Nat.le_trans hs1 hkp.le
    by_cases hlt : a < F.di.length
    · obtain ⟨bd, A2, c2, rfl, hcr, hr⟩ := (hB0.kp hkp).at_ hlt
      have hrl := goodRow Hg.out hlt
      obtain ⟨s0, s1⟩ := siteF_bd Hl.out Hne.out a
      have Hm := Lib.hid (set_mem Hs.out)
      rw [← hrl] at s1
      have hpl : 0 < F.di[a].length := by omega
      obtain ⟨rd, rfl, _⟩ := hr.at_ hpl
      have hdc := dCell hlt hr s0 s1
      have Hrl := Lib.hid hrl; clear hrl
      go_wp2_with fail
      have hkv := (Kp.refl wr).alloc (.cells #[.slice (some rd) F.di[a].length c2] 22)
      have u9 : (wr.alloc (.cells #[.slice (some rd) F.di[a].length c2] 22)).cell? ⟨wr.heap.size, 0, none⟩ = some (.slice (some rd) F.di[a].length c2) := by
        rw [World.cell?_alloc_at _ _ _ _ rfl]; rfl
      have v0 := hkv.get q0; have v1 := hkv.get q1; have vd := hkv.get hdc
      have hwv : (wr.alloc (.cells #[.slice (some rd) F.di[a].length c2] 22)).heap.size = wr.heap.size + 1 := by simp
      generalize wr.alloc (.cells #[.slice (some rd) F.di[a].length c2] 22) = wv at *
      have Cs := Lib.hid (fun (wx : World) (h : Kp wv wx) => server_any _ F a A0 L n0 c0 wx ((hFA.kp hkp).kp (hkv.trans h)) ((hL0.kp hkp).kp (hkv.trans h)) Hn0.out Hg.out Hl.out Hne.out hlt)
      have hkd : Kp wv wv.drew := (Kp.refl _).drew
      go_cut [10] (fun s wc => ∃ g : Nat, s = .pointer (some ⟨g, 0, none⟩) ∧ wc.cell? ⟨g, 0, none⟩ = some (.int .i64 (dAt F a (siteF F a L))) ∧ Kp wv wc)
      case first =>
        go_region_held3 (fun w' => w'.cell? ⟨wr.heap.size, 0, none⟩ = some (.slice (some rd) F.di[a].length c2) ∧ w'.cell? ⟨w.heap.size, 0, none⟩ = some (.slice A F.op.length c) ∧ w'.cell? ⟨w.heap.size, 1, none⟩ = some (.slice (some bd) F.di.length d) ∧ w'.cell? (rd.add (siteF F a L).toNat) = some (.int .i64 (dAt F a (siteF F a L))) ∧ Kp wv w')
          (first | (refine keepS u9 v0 v1 vd ?_; (first | assumption | exact keepL (by assumption) | exact Kp.alloc (by assumption) _ | exact Kp.alloc (keepL (by assumption)) _ | exact Kp.trans (keepL (by assumption)) (by assumption) | exact Kp.trans (by assumption) (by assumption) | exact Kp.alloc (Kp.trans hkd (by assumption)) _ | exact Kp.setCell (Kp.trans ((Kp.refl wv).alloc _).drew (by assumption)) (by simp [hwv]) _)))
          (first
            | (go_at_call 82; with_reducible refine Calls.mono (Cs.out wv.drew hkd) ?_; rintro e wb2 ⟨rfl, hkb⟩)
            | (go_at_call 82; with_reducible refine Calls.mono (Cs.out ((wv.alloc (.cells #[.int .i64 0] 3)).drew) ((Kp.refl wv).alloc _).drew) ?_; rintro e wb2 ⟨rfl, hkb⟩; obtain ⟨hnw, hnf⟩ := newc hkb hwv))
        · have hkh := keepL (by assumption)
          go_wp2_with fail
          go_meet
          refine ⟨_, rfl, ?_, hkh⟩
          rw [World.cell?_alloc_at _ _ _ _ rfl]; rfl
        · have hkh := keepL (by assumption)
          go_wp2_with fail
          go_meet
          refine ⟨_, rfl, ?_, hkh⟩
          exact World.cell?_setCell_same' _ _ _ (by rw [hnw]; rfl)
      case rest =>
        obtain ⟨g, rfl, hg10, hkc⟩ := hcut
        have c9 := hkc.get u9
        have hkw := hkv.trans hkc
        have C0 := containsFunc_any _ #[.pointer (some ⟨wr.heap.size, 0, none⟩), .pointer (some ⟨g, 0, none⟩)] (fun x => decide (dAt F a x < dAt F a (siteF F a L))) A1 S n1 c1 wc ((hS0.kp hkp).kp hkw) Hn1.out (callFunc_of Try.func83 (by kernel_rfl) (by kernel_rfl)) (fun k hk w' hk' => by
          obtain ⟨z0, z1⟩ := Hm.out _ (List.getElem_mem hk)
          rw [← Hrl.out] at z1
          exact takes_clo F a S[k] _ _ _ rd _ _ w' (hk'.get c9) (hk'.get hg10) z0 z1 (dCell hlt (hr.kp (hkw.trans hk')) z0 z1))
        rw [show (S.any fun x => decide (dAt F a x < dAt F a (siteF F a L))) = takenB F L S a from near_any] at C0
        have CC := Lib.hid C0
        clear C0
        go_wp2_with fail
        with_reducible refine Calls.mono CC.out ?_
        rintro e w1 ⟨rfl, hk1⟩
        clear CC
        have hk5 := hkw.trans hk1
        have ho2 := hown.kp hk5
        have hk3 := hkp.trans hk5
        have hlen := takenTo_len F L S a
        have hbq : w.heap.size + 1 ≤ w1.heap.size := Nat.le_trans hs1 hk3.le
        cases hb : takenB F L S a
        · have hu := Lib.hid hb; clear hb
          go_wp2_with fail
          go_roundw
          case rel => exact ⟨a + 1, by omega, by go_num, by rw [takenTo_no hu.out]; exact ho2, hk3⟩
          case measure => simp [intOf]; omega
        · have hu := Lib.hid hb; clear hb
          go_wp2_with (at_builtin; go_loud (refine wpl_app rfl (.tmp 30) (.tmp 32) rfl (w.heap.size + 1) _ (takenTo F L S a) a rfl rfl ho2 hbq (by omega) ?_); intro v' w' ho' ht' _; have hk4 := ho2.kp_turn hk3 hs2 ht')
          go_roundw
          case rel => exact ⟨a + 1, by omega, by go_num, by rw [takenTo_yes hu.out]; exact ho', hk4⟩
          case measure => simp [intOf]; omega
    · obtain rfl : a = F.di.length := by omega
      go_wp2_with fail
      go_ret
      exact ⟨_, rfl, hown.mono (Nat.le_succ _), hk0.trans hkp⟩
theorem bag_no {L S : List Int} (hL : ∀ y ∈ L, 0 ≤ y) (hS : ∀ y ∈ S, 0 ≤ y) (h : bagN L &&& bagN S ≠ 0) : (S.any fun x => L.any fun y => y == x) = true := by
  have := bag_apart hL hS
  rw [decide_eq_false h] at this
  simpa using this.symm
theorem bag_yes {L S : List Int} (hL : ∀ y ∈ L, 0 ≤ y) (hS : ∀ y ∈ S, 0 ≤ y) (h : bagN L &&& bagN S = 0) : (S.any fun x => L.any fun y => y == x) = false := by
  have := bag_apart hL hS
  rw [decide_eq_true h] at this
  simpa using this.symm

end Go.Proofs.Ytcekddpllpbkmaa

/- GreedyGain: the choice of the next site, and the greedy loops of reference and program; GreedyAllowed: reference and program; BestGain, BestBudget and BestAllowed: reference and program; BestBudget: reference and program. No condition. -/
import Derived.Test.YtlglonjijfpgaaaGreatQAd
import Derived.Test.YtlglonjijfpgaaaGreatQAh
import Derived.Test.YtlglonjijfpgaaaGreatQAa
import Derived.Test.YtlglonjijfpgaaaGreatQAe
import Derived.Deep.RegionWith
namespace Go.Proofs.YtlglonjijfpgaaaGreat
open Go.RowKit Go.Sort

/-- A slice value that reads as this list. -/
def SetAt (w : World) (v : Value) (S : List Int) : Prop := ∃ A c, v = .slice A S.length c ∧ S.length ≤ c ∧ IntsAt w A S
theorem SetAt.kp {w w' : World} {v : Value} {S : List Int} (h : SetAt w v S) (hk : Kp w w') : SetAt w' v S := by
  obtain ⟨A, c, e, h1, h2⟩ := h
  exact ⟨A, c, e, h1, h2.kp hk⟩
theorem Own.setAt {w : World} {base : Nat} {v : Value} {S : List Int} (h : Own w base v S) (hl : S.length ≤ 9223372036854775807) : SetAt w v S := by
  obtain ⟨A, c, e, hi⟩ := h.ints hl
  exact ⟨A, c, e, h.cap e, hi⟩
def anyS : List Int → Bool := fun _ => true
theorem Apart.fresh {w w' w2 : World} {base : Nat} {v u : Value} {xs ys : List Int} (h : Own w base v xs) (h' : Own w' w2.heap.size u ys) (hl : w.heap.size ≤ w2.heap.size) : Apart v u := fun g hg hu => by
  have h1 := h.lt g hg
  have h2 := h'.lt g hu
  omega
theorem own_new2 (w : World) : Own ((w.alloc (.cells #[] 3)).alloc (.cells #[] 3)) w.heap.size (.slice (some ⟨w.heap.size + 1, 0, none⟩) 0 0) [] := by
  have := own_new0 (w.alloc (.cells #[] 3)) w.heap.size (by simp)
  simpa using this
theorem apart_new (w : World) (n m c d : Nat) : Apart (.slice (some ⟨w.heap.size, 0, none⟩) n c) (.slice (some ⟨w.heap.size + 1, 0, none⟩) m d) := fun g hg hu => by
  simp [Value.ownBlock] at hg hu
  omega
theorem next_nn {F : Fld} {worth : Int} {may : List Int → Bool} {S : List Int} (h : ¬ (nextF F worth may S).1 < 0) : (nextF F worth may S).2 ≠ 0 := fun e => h ((pick_neg _ _ _).2 e)
/-- A function value that tells which sets may be taken. -/
def May (F : Fld) (FN : FuncId) (caps : Array Value) (may : List Int → Bool) (w : World) : Prop :=
  (∀ (args : Array Value) (w : World), Sem.run Tryz.prog (callFunc FN args) w = .ok (.enter FN args) w) ∧
  ∀ (S : List Int) (Av : Option Addr) (cv : Nat) (w' : World), Kp w w' → setB F S = true → IntsAt w' Av S → Calls Tryz.prog FN (#[.slice Av S.length cv] ++ caps) w' fun e w'' => e = .returned (.bool (may S)) ∧ Kp w' w''
theorem May.kp {F : Fld} {FN : FuncId} {caps : Array Value} {may : List Int → Bool} {w w' : World} (h : May F FN caps may w) (hk : Kp w w') : May F FN caps may w' :=
  ⟨h.1, fun S Av cv w2 h2 => h.2 S Av cv w2 (hk.trans h2)⟩
set_option maxRecDepth 100000 in
set_option maxHeartbeats 1000000 in
theorem greedyGain_any (FN : FuncId) (caps : Array Value) (may : List Int → Bool) (f : Value) (F : Fld) (worth : Int) (K : Nat) (w : World) (hf : FldAt w f F) (hm : May F FN caps may w) (hg : goodF F = true) (hK : K ≤ 7) (hw0 : 0 ≤ worth) (hw1 : worth ≤ 999) :
    Calls Tryz.prog 25 #[f, .int .i64 worth, .int .i64 K, .func (.func FN) #[] caps] w fun e w' => ∃ v, e = .returned v ∧ Own w' w.heap.size v (grd F worth may K [] []) ∧ Kp w w' := by
  have h7 := (goodF_iff.1 hg).1.2
  obtain ⟨A, c, B, d, rfl, hA, hB⟩ := hf
  have hk0 : Kp w (w.alloc (.cells #[.slice A F.op.length c, .slice B F.di.length d] 27)) := (Kp.refl w).alloc _
  obtain ⟨d0, d1⟩ := box2 w (.slice A F.op.length c) (.slice B F.di.length d) 27
  have hFA := FldAt.kp (show FldAt w (.agg #[.slice A F.op.length c, .slice B F.di.length d]) F from ⟨A, c, B, d, rfl, hA, hB⟩) hk0
  have HM := Lib.hid (hm.kp hk0)
  have HG := Lib.hid hg
  have HF := hm.1
  clear hA hB hg hm
  go_enter Tryz.func25, Tryz.ntmps25
  go_wp2_with fail
  have hsz : Hid ((w.alloc (.cells #[.slice A F.op.length c, .slice B F.di.length d] 27)).heap.size = w.heap.size + 1) := by show _ = _; simp
  generalize w.alloc (.cells #[.slice A F.op.length c, .slice B F.di.length d] 27) = wb at *
  have hkb : Kp wb wb := Kp.refl _
  have hkw := hk0
  have ho : Own (wb.alloc (.cells #[] 3)) wb.heap.size (.slice (some ⟨w.heap.size + 1, 0, none⟩) 0 0) [] := by
    rw [← hsz.out]; exact own_new0 wb wb.heap.size (Nat.le_refl _)
  go_loopw [9, 10] (fun ov tv wr => ∃ out b, Own wr wb.heap.size ov out ∧ out.length ≤ K ∧ tv = .int .u64 (b : Nat) ∧ b < 2 ^ F.op.length ∧ Hid (grd F worth may (K - out.length) out (bitsL F.op.length b) = grd F worth may K [] []) ∧ Kp wb wr) (fun ov _ _ => K - sLen ov)
  case atStart => exact ⟨[], 0, ho, by simp, rfl, Nat.two_pow_pos _, by rw [bits_zero]; exact rfl, (Kp.refl _).alloc _⟩
  case round =>
    obtain ⟨out, b, hown, hle, rfl, hb, HR, hkb⟩ := hrel
    obtain ⟨A9, c9, rfl⟩ := hown.shape
    have Hb := Lib.hid hb
    have hb7 : b < 128 := Nat.lt_of_lt_of_le hb (Nat.pow_le_pow_right (n := 2) (by omega) h7)
    clear hb
    by_cases hlt : out.length < K
    · have q_d0 := hkb.get d0
      have q_d1 := hkb.get d1
      go_wp2_with fail
      go_loopw [11, 12, 23] (fun bv mv iv ws => ∃ a : Nat, a ≤ F.op.length ∧ iv = .int .i64 a ∧ bv = .int .i64 (nextTo F worth may (bitsL F.op.length b) a).1 ∧ mv = .int .i64 (nextTo F worth may (bitsL F.op.length b) a).2 ∧ Kp wr ws) (fun _ _ iv _ => F.op.length - (intOf iv).toNat)
      case atStart => exact ⟨0, by omega, rfl, rfl, rfl, Kp.refl _⟩
      case round =>
        obtain ⟨a, ha, rfl, rfl, rfl, hki⟩ := hrel
        replace hkb := hkb.trans hki
        by_cases hla : a < F.op.length
        · clear q_d0 q_d1
          have q_d0 := hkb.get d0
          have q_d1 := hkb.get d1
          go_wp2_with fail
          with_reducible refine Calls.mono (has_any b a _ (by omega) (by omega)) ?_
          rintro e w1 ⟨rfl, hw⟩
          obtain rfl := hw
          clear q_d0 q_d1
          cases hbit : b.testBit a
          · have Hany : Hid (((bitsL F.op.length b).any fun x => x == (a : Int)) = false) := by show _ = _; rw [bits_any hla, hbit]
            have ho2 := Nat.or_lt_two_pow Hb.out (Nat.pow_lt_pow_right (by omega) hla : 2 ^ a < 2 ^ F.op.length)
            have ha7 : 2 ^ a < 2 ^ 7 := Nat.pow_lt_pow_right (by omega) (by omega)
            have hsh := u64_one_shl (a : Int) (by omega) (by omega)
            rw [Int.toNat_natCast] at hsh
            have hor := u64_or_nat b (2 ^ a) (by omega) (by omega)
            have HP := Lib.hid (bits_put (b := b) hla)
            have HSp := Lib.hid (bitsL_set (F := F) (b ||| 2 ^ a))
            have HO2 := Lib.hid ho2
            have hlp := bitsL_len F.op.length (b ||| 2 ^ a)
            clear ho2 hbit
            generalize 2 ^ a = pa at *
            have q_d0 := hkb.get d0
            have q_d1 := hkb.get d1
            go_wp2_with fail
            with_reducible refine Calls.mono (list_any (b ||| pa) F.op.length _ HO2.out (by omega)) ?_
            rintro e w2 ⟨v1, rfl, hov, hk2⟩
            clear q_d0 q_d1
            replace hkb := hkb.trans hk2
            replace hki := hki.trans hk2
            obtain ⟨Av, cv, hve, hiv⟩ := hov.ints (by omega)
            subst hve
            clear hlp hsh hor
            have q_d0 := hkb.get d0
            have q_d1 := hkb.get d1
            go_wp2_with fail
            have CC := Lib.hid (HM.out.2 _ Av cv _ hkb HSp.out hiv)
            with_reducible refine Calls.mono CC.out ?_
            rintro e w3 ⟨rfl, hk3⟩
            clear CC q_d0 q_d1
            replace hkb := hkb.trans hk3
            replace hki := hki.trans hk3
            cases hmay : may (bitsL F.op.length (b ||| pa))
            · have Hy := Lib.hid (pick_no (ok := okF may (bitsL F.op.length b)) (val := fun a => moreF F worth (bitsL F.op.length b) a) (k := a) (by simp only [okF, ← HP.out, hmay]; simp))
              clear hmay
              have q_d0 := hkb.get d0
              have q_d1 := hkb.get d1
              go_wp2_with fail
              go_roundw
              case rel => exact ⟨a + 1, by omega, by go_num, by rw [nextTo, nextTo, Hy.out], by rw [nextTo, nextTo, Hy.out], hki⟩
              case measure => simp [intOf]; omega
            · have Hok : Hid (okF may (bitsL F.op.length b) a = true) := by show okF _ _ _ = true; simp only [okF, ← HP.out, hmay, Hany.out]; rfl
              clear hmay
              have q_d0 := hkb.get d0
              have q_d1 := hkb.get d1
              go_wp2_with fail
              have CC := Lib.hid (marginal_any _ F worth b a _ (hFA.kp hkb) HG.out Hb.out hw0 hw1 hla)
              with_reducible refine Calls.mono CC.out ?_
              rintro e w4 ⟨rfl, hk4⟩
              clear CC q_d0 q_d1
              replace hkb := hkb.trans hk4
              replace hki := hki.trans hk4
              by_cases hgt : (nextTo F worth may (bitsL F.op.length b) a).2 < moreF F worth (bitsL F.op.length b) a
              · have Hy := Lib.hid (pick_yes (val := fun a => moreF F worth (bitsL F.op.length b) a) Hok.out hgt)
                have q_d0 := hkb.get d0
                have q_d1 := hkb.get d1
                go_wp2_with fail
                go_roundw
                case rel => exact ⟨a + 1, by omega, by go_num, by rw [nextTo, Hy.out], by rw [nextTo, Hy.out], hki⟩
                case measure => simp [intOf]; omega
              · have Hy := Lib.hid (pick_less (ok := okF may (bitsL F.op.length b)) (val := fun a => moreF F worth (bitsL F.op.length b) a) hgt)
                have q_d0 := hkb.get d0
                have q_d1 := hkb.get d1
                go_wp2_with fail
                go_roundw
                case rel => exact ⟨a + 1, by omega, by go_num, by rw [nextTo, nextTo, Hy.out], by rw [nextTo, nextTo, Hy.out], hki⟩
                case measure => simp [intOf]; omega
          · have Hy := Lib.hid (pick_no (ok := okF may (bitsL F.op.length b)) (val := fun a => moreF F worth (bitsL F.op.length b) a) (k := a) (by rw [okF, bits_any hla, hbit]; rfl))
            clear hbit
            have q_d0 := hkb.get d0
            have q_d1 := hkb.get d1
            go_wp2_with fail
            go_roundw
            case rel => exact ⟨a + 1, by omega, by go_num, by rw [nextTo, nextTo, Hy.out], by rw [nextTo, nextTo, Hy.out], hki⟩
            case measure => simp [intOf]; omega
        · obtain rfl : a = F.op.length := by omega
          have hown2 := hown.kp hki
          have Hn2 : Hid (nextTo F worth may (bitsL F.op.length b) F.op.length = nextF F worth may (bitsL F.op.length b)) := rfl
          rw [Hn2.out]
          by_cases hneg : (nextF F worth may (bitsL F.op.length b)).1 < 0
          · have Hst := Lib.hid (grd_stop (j := K - out.length) (out := out) hneg)
            clear q_d0 q_d1
            have q_d0 := hkb.get d0
            have q_d1 := hkb.get d1
            go_wp2_with fail
            go_ret
            exact ⟨_, rfl, by rw [← HR.out, Hst.out]; exact hown2.mono hkw.le, hkw.trans hkb⟩
          · have HN := Lib.hid (next_new hneg)
            have Hgo := Lib.hid (grd_go (j := K - (out.length + 1)) (out := out) hneg)
            replace hneg : 0 ≤ (nextF F worth may (bitsL F.op.length b)).1 := by omega
            have hnl := HN.out.2
            obtain ⟨z, hz⟩ := Int.eq_ofNat_of_zero_le hneg
            rw [hz]
            have hzl : z < F.op.length := by omega
            have ho2 := Nat.or_lt_two_pow Hb.out (Nat.pow_lt_pow_right (by omega) hzl : 2 ^ z < 2 ^ F.op.length)
            have ha7 : 2 ^ z < 2 ^ 7 := Nat.pow_lt_pow_right (by omega) (by omega)
            have hsh := u64_one_shl (z : Int) (by omega) (by omega)
            rw [Int.toNat_natCast] at hsh
            have hor := u64_or_nat b (2 ^ z) (by omega) (by omega)
            have HP := Lib.hid (bits_put (b := b) hzl)
            have HO2 := Lib.hid ho2
            have HZ := Lib.hid hz
            clear ho2 hz hneg hnl
            generalize 2 ^ z = pa at *
            clear q_d0 q_d1
            have q_d0 := hkb.get d0
            have q_d1 := hkb.get d1
            have tok1 : True := trivial
            go_wp2_with fail
            go_region_held3? (fun w' => w'.cell? ⟨w.heap.size, 0, none⟩ = some (.slice A F.op.length c) ∧ w'.cell? ⟨w.heap.size, 1, none⟩ = some (.slice B F.di.length d) ∧ Kp wb w')
              (first | (refine keepc2 d0 d1 ?_; exact (by repeat (first | with_reducible assumption | with_reducible exact Kp.refl _ | with_reducible refine Kp.drew ?_ | with_reducible refine Kp.alloc ?_ _ | with_reducible refine Kp.drewN ?_ _ | refine Kp.setCell ?_ (by dsimp only; omega) _))) | fail)
              (first
                | (have _t := tok1; refine step_app_all (by rfl) (.tmp 52) (.tmp 54) (by rfl) wb.heap.size _ out [(z : Int)] (some ⟨wr.heap.size, 0, none⟩) 1 1 (by rfl) (by rfl) ((hown2.kp ((Kp.refl _).alloc _)).drew) ((one_new _ _).kp (Kp.refl _).drew) rfl (Nat.le_trans hkb.le (by simp)) (by simp; omega) ?_; intro v' w' ho' ht' _; have hk4 : Kp wb w' := ((hown2.kp ((Kp.refl _).alloc _)).drew).kp_turn (by repeat (first | with_reducible assumption | with_reducible exact Kp.refl _ | with_reducible refine Kp.drew ?_ | with_reducible refine Kp.alloc ?_ _ | with_reducible refine Kp.drewN ?_ _ | refine Kp.setCell ?_ (by dsimp only; omega) _)) (Nat.le_refl _) ht'; have tok2 : True := trivial; clear tok1 _t)
                | fail)
            obtain ⟨A7, c7, e7⟩ := ho'.shape
            rw [show (out ++ [(z : Int)]).length = out.length + 1 from by simp] at e7
            subst e7
            go_wp2_with fail
            go_roundw
            case rel =>
              refine ⟨_, b ||| pa, ho', by simp; omega, by go_num, HO2.out, ?_, hk4⟩
              show grd F worth may (K - (out ++ [(z : Int)]).length) _ _ = _
              rw [HP.out, ← HR.out, show K - out.length = K - (out.length + 1) + 1 from by omega, Hgo.out, HZ.out]; simp
            case measure => simp [sLen]; omega
    · have hst : Hid (grd F worth may (K - out.length) out (bitsL F.op.length b) = out) := by show grd F worth may (K - out.length) out _ = out; rw [show K - out.length = 0 from by omega]; rfl
      have q_d0 := hkb.get d0
      have q_d1 := hkb.get d1
      go_wp2_with fail
      go_ret
      exact ⟨_, rfl, by rw [← HR.out, hst.out]; exact hown.mono hkw.le, hkw.trans hkb⟩
end Go.Proofs.YtlglonjijfpgaaaGreat

namespace Go.Proofs.YtlglonjijfpgaaaGreat
open Go.RowKit Go.Sort

def galOk (F : Fld) (worth : Int) (cl li : List Int) : Bool := goodF F && worthB worth && clsB F cl li
def galL (F : Fld) (worth : Int) (cl li : List Int) : List Int := if galOk F worth cl li = true then grd F worth (allowB cl li) F.op.length [] [] else []
theorem galL_yes {F : Fld} {worth : Int} {cl li : List Int} (h : galOk F worth cl li = true) : galL F worth cl li = grd F worth (allowB cl li) F.op.length [] [] := if_pos h
theorem galL_no {F : Fld} {worth : Int} {cl li : List Int} (h : galOk F worth cl li = false) : galL F worth cl li = [] := if_neg (by simp [h])
theorem galOk_parts {F : Fld} {worth : Int} {cl li : List Int} (h : galOk F worth cl li = true) : goodF F = true ∧ (0 ≤ worth ∧ worth ≤ 999) ∧ clsB F cl li = true := by
  simp only [galOk, Bool.and_eq_true, worthB, inB_iff] at h
  exact ⟨h.1.1, h.1.2, h.2⟩
theorem galL_len (F : Fld) (worth : Int) (cl li : List Int) : (galL F worth cl li).length ≤ 1048576 := by
  by_cases h : galOk F worth cl li = true
  · rw [galL_yes h]
    have h1 := grd_len (F := F) (worth := worth) (may := allowB cl li) F.op.length [] []
    have h2 := (goodF_iff.1 (galOk_parts h).1).1.2
    simp at h1; omega
  · rw [galL_no (by simpa using h)]; simp
theorem cls_mem {F : Fld} {cl li S : List Int} (h : clsB F cl li = true) (hs : setB F S = true) : ∀ x ∈ S, 0 ≤ x ∧ x < cl.length := fun x hx => by
  have h1 := (clsB_iff.1 h).1
  have h2 := set_mem hs x hx
  omega
theorem allows_may {F : Fld} {A1 A2 : Option Addr} {cl li : List Int} {n1 c1 n2 c2 : Nat} (w : World) (h1 : IntsAt w A1 cl) (hn1 : cl.length = n1) (h2 : IntsAt w A2 li) (hn2 : li.length = n2) (hc : clsB F cl li = true) :
    Calls Tryz.prog 26 #[.slice A1 n1 c1, .slice A2 n2 c2] w fun e w' => ∃ caps, e = .returned (.func (.func 60) #[] caps) ∧ May F 60 caps (allowB cl li) w' ∧ Kp w w' := by
  have hi := clsB_iff.1 hc
  have h7 : n2 = 7 := by omega
  obtain ⟨ld, rfl⟩ : ∃ ld, A2 = some ld := by
    obtain ⟨ad, e, _⟩ := h2.at_ (k := 0) (by omega)
    exact ⟨ad, e⟩
  refine (allows_any w).mono ?_
  rintro e w' ⟨rfl, rfl⟩
  have hk : Kp w ((w.alloc (.cells #[.slice A1 n1 c1] 24)).alloc (.cells #[.slice (some ld) n2 c2] 24)) := ((Kp.refl w).alloc _).alloc _
  have g1 : ((w.alloc (.cells #[.slice A1 n1 c1] 24)).alloc (.cells #[.slice (some ld) n2 c2] 24)).cell? ⟨w.heap.size, 0, none⟩ = some (.slice A1 n1 c1) := by
    rw [World.cell?_alloc_past _ _ _ (by simp), World.cell?_alloc_at _ _ _ _ rfl]; rfl
  have g2 : ((w.alloc (.cells #[.slice A1 n1 c1] 24)).alloc (.cells #[.slice (some ld) n2 c2] 24)).cell? ⟨w.heap.size + 1, 0, none⟩ = some (.slice (some ld) n2 c2) := by
    rw [World.cell?_alloc_at _ _ _ _ (by simp)]; rfl
  refine ⟨_, rfl, ⟨callFunc_of Tryz.func60 (by kernel_rfl) (by kernel_rfl), fun S Av cv w2 hk2 hs hv => ?_⟩, hk⟩
  exact allowsClo_any Av S S.length cv _ _ ld li n2 c2 A1 cl n1 c1 w2 (hk2.get g2) (hk2.get g1) (h1.kp (hk.trans hk2)) hn1 (h2.kp (hk.trans hk2)) hn2 hv rfl (cls_mem hc hs) (fun x hx => by have := hi.2.1 x hx; omega) hi.2.2.2 (by omega) (by omega)
set_option maxRecDepth 100000 in
set_option maxHeartbeats 400000 in
theorem implGal_any (f : Value) (F : Fld) (worth : Int) (A1 : Option Addr) (cl : List Int) (n1 c1 : Nat) (A2 : Option Addr) (li : List Int) (n2 c2 : Nat) (w : World) (hf : FldAt w f F) (h1 : IntsAt w A1 cl) (hn1 : cl.length = n1) (h2 : IntsAt w A2 li) (hn2 : li.length = n2) :
    Calls Tryz.prog 6 #[f, .int .i64 worth, .slice A1 n1 c1, .slice A2 n2 c2] w fun e w' => ∃ v, e = .returned (.tuple #[v, .bool (galOk F worth cl li)]) ∧ Own w' w.heap.size v (galL F worth cl li) ∧ Kp w w' := by
  obtain ⟨A, c, B, d, rfl, hA, hB⟩ := hf
  have hk0 : Kp w (w.alloc (.cells #[.slice A F.op.length c, .slice B F.di.length d] 27)) := (Kp.refl w).alloc _
  obtain ⟨d0, d1⟩ := box2 w (.slice A F.op.length c) (.slice B F.di.length d) 27
  have hFA := FldAt.kp (show FldAt w (.agg #[.slice A F.op.length c, .slice B F.di.length d]) F from ⟨A, c, B, d, rfl, hA, hB⟩) hk0
  replace h1 := h1.kp hk0
  replace h2 := h2.kp hk0
  have Hn1 := Lib.hid hn1; have Hn2 := Lib.hid hn2
  clear hA hB hn1 hn2
  go_enter Tryz.func6, Tryz.ntmps6
  go_wp2_with fail
  have hsz : Hid ((w.alloc (.cells #[.slice A F.op.length c, .slice B F.di.length d] 27)).heap.size = w.heap.size + 1) := by show _ = _; simp
  generalize w.alloc (.cells #[.slice A F.op.length c, .slice B F.di.length d] 27) = wb at *
  have hkb : Kp wb wb := Kp.refl _
  have hkw := hk0
  have CC := Lib.hid (isWorth_any _ F worth none [] 0 0 _ (hFA.kp hkb) (IntsAt.nil _ none) rfl)
  with_reducible refine Calls.mono CC.out ?_
  rintro e w1 ⟨rfl, hk1⟩
  clear CC
  replace hkb := hkb.trans hk1
  have hgo : gainOk F worth [] = (goodF F && worthB worth) := by simp [gainOk, setB, risB]
  rw [hgo]
  clear hgo
  cases hg_ : (goodF F && worthB worth)
  · have Hno : Hid (galOk F worth cl li = false) := by show galOk F worth cl li = false; rw [galOk, hg_]; rfl
    clear hg_
    have q_d0 := hkb.get d0
    have q_d1 := hkb.get d1
    go_wp2_with fail
    go_ret2
    exact ⟨_, by rw [Hno.out]; rfl, by rw [galL_no Hno.out]; exact Own.nil _ _, hkw.trans hkb⟩
  have Hg := Lib.hid hg_; clear hg_
  have q_d0 := hkb.get d0
  have q_d1 := hkb.get d1
  go_wp2_with fail
  have CC := Lib.hid (areLimits_any _ F A1 cl n1 c1 A2 li n2 c2 _ (hFA.kp hkb) (h1.kp hkb) Hn1.out (h2.kp hkb) Hn2.out)
  with_reducible refine Calls.mono CC.out ?_
  rintro e w2 ⟨rfl, hk2⟩
  clear CC q_d0 q_d1
  replace hkb := hkb.trans hk2
  cases hg_ : clsB F cl li
  · have Hno : Hid (galOk F worth cl li = false) := by show galOk F worth cl li = false; rw [galOk, Hg.out, hg_]; rfl
    clear hg_
    have q_d0 := hkb.get d0
    have q_d1 := hkb.get d1
    go_wp2_with fail
    go_ret2
    exact ⟨_, by rw [Hno.out]; rfl, by rw [galL_no Hno.out]; exact Own.nil _ _, hkw.trans hkb⟩
  have Hok : Hid (galOk F worth cl li = true) := by show galOk F worth cl li = true; rw [galOk, Hg.out, hg_]; rfl
  clear hg_
  have HP := Lib.hid (galOk_parts Hok.out)
  have h7 := (goodF_iff.1 HP.out.1).1.2
  have C1 := Lib.hid (fun (wx : World) (hx : Kp _ wx) => allows_may (F := F) (c1 := c1) (c2 := c2) wx (h1.kp hx) Hn1.out (h2.kp hx) Hn2.out HP.out.2.2)
  have C2 := Lib.hid (fun (wx : World) (hx : Kp _ wx) (caps : Array Value) (hm : May F 60 caps (allowB cl li) wx) => greedyGain_any 60 caps (allowB cl li) _ F worth F.op.length wx (hFA.kp hx) hm HP.out.1 h7 HP.out.2.1.1 HP.out.2.1.2)
  clear h1 h2
  have q_d0 := hkb.get d0
  have q_d1 := hkb.get d1
  have tok1 : True := trivial
  go_wp2_with fail
  go_region_held3 (fun w' => w'.cell? ⟨w.heap.size, 0, none⟩ = some (.slice A F.op.length c) ∧ w'.cell? ⟨w.heap.size, 1, none⟩ = some (.slice B F.di.length d) ∧ Kp wb w')
    (first | (refine keepc2 d0 d1 ?_; exact (by repeat (first | with_reducible assumption | with_reducible exact Kp.refl _ | with_reducible refine Kp.drew ?_ | with_reducible refine Kp.alloc ?_ _ | with_reducible refine Kp.drewN ?_ _ | refine Kp.setCell ?_ (by dsimp only; omega) _))) | fail)
    (first
      | (have _t := tok1; go_at_call 26; with_reducible refine Calls.mono (C1.out _ (by repeat (first | with_reducible assumption | with_reducible exact Kp.refl _ | with_reducible refine Kp.drew ?_ | with_reducible refine Kp.alloc ?_ _ | with_reducible refine Kp.drewN ?_ _ | refine Kp.setCell ?_ (by dsimp only; omega) _))) ?_; rintro e wr1 ⟨caps, rfl, hmay, hka⟩; have hr1 : Kp wb wr1 := Kp.trans (by repeat (first | with_reducible assumption | with_reducible exact Kp.refl _ | with_reducible refine Kp.drew ?_ | with_reducible refine Kp.alloc ?_ _ | with_reducible refine Kp.drewN ?_ _ | refine Kp.setCell ?_ (by dsimp only; omega) _)) hka; have tok2 : True := trivial; clear tok1 _t)
      | (have _t := tok2; go_at_call 25; with_reducible refine Calls.mono (C2.out _ (by repeat (first | with_reducible assumption | with_reducible exact Kp.refl _ | with_reducible refine Kp.drew ?_ | with_reducible refine Kp.alloc ?_ _ | with_reducible refine Kp.drewN ?_ _ | refine Kp.setCell ?_ (by dsimp only; omega) _)) caps (hmay.kp (by repeat (first | with_reducible assumption | with_reducible exact Kp.refl _ | with_reducible refine Kp.drew ?_ | with_reducible refine Kp.alloc ?_ _ | with_reducible refine Kp.drewN ?_ _ | refine Kp.setCell ?_ (by dsimp only; omega) _)))) ?_; rintro e wr2 ⟨v, rfl, ho, hka⟩; have hr2 : Kp wb wr2 := Kp.trans (by repeat (first | with_reducible assumption | with_reducible exact Kp.refl _ | with_reducible refine Kp.drew ?_ | with_reducible refine Kp.alloc ?_ _ | with_reducible refine Kp.drewN ?_ _ | refine Kp.setCell ?_ (by dsimp only; omega) _)) hka; have tok3 : True := trivial; clear tok2 _t)
      | fail)
  go_wp2_with fail
  go_ret2
  exact ⟨_, by rw [Hok.out]; rfl, by rw [galL_yes Hok.out]; exact ho.mono (Nat.le_trans hkw.le hr1.le), hkw.trans hr2⟩
set_option maxRecDepth 100000 in
set_option maxHeartbeats 1000000 in
theorem specGal_any (f : Value) (F : Fld) (worth : Int) (A1 : Option Addr) (cl : List Int) (n1 c1 : Nat) (A2 : Option Addr) (li : List Int) (n2 c2 : Nat) (w : World) (hf : FldAt w f F) (h1 : IntsAt w A1 cl) (hn1 : cl.length = n1) (h2 : IntsAt w A2 li) (hn2 : li.length = n2) :
    Calls Tryz.prog 7 #[f, .int .i64 worth, .slice A1 n1 c1, .slice A2 n2 c2] w fun e w' => ∃ v, e = .returned (.tuple #[v, .bool (galOk F worth cl li)]) ∧ Own w' w.heap.size v (galL F worth cl li) ∧ Kp w w' := by
  obtain ⟨A, c, B, d, rfl, hA, hB⟩ := hf
  have hk0 : Kp w (w.alloc (.cells #[.slice A F.op.length c, .slice B F.di.length d] 27)) := (Kp.refl w).alloc _
  obtain ⟨d0, d1⟩ := box2 w (.slice A F.op.length c) (.slice B F.di.length d) 27
  have hFA := FldAt.kp (show FldAt w (.agg #[.slice A F.op.length c, .slice B F.di.length d]) F from ⟨A, c, B, d, rfl, hA, hB⟩) hk0
  replace h1 := h1.kp hk0
  replace h2 := h2.kp hk0
  have Hn1 := Lib.hid hn1; have Hn2 := Lib.hid hn2
  clear hA hB hn1 hn2
  go_enter Tryz.func7, Tryz.ntmps7
  go_wp2_with fail
  have hsz : Hid ((w.alloc (.cells #[.slice A F.op.length c, .slice B F.di.length d] 27)).heap.size = w.heap.size + 1) := by show _ = _; simp
  generalize w.alloc (.cells #[.slice A F.op.length c, .slice B F.di.length d] 27) = wb at *
  have hkb : Kp wb wb := Kp.refl _
  have hkw := hk0
  have ho : Own ((wb.alloc (.cells #[] 3)).alloc (.cells #[] 3)) wb.heap.size (.slice (some ⟨w.heap.size + 1, 0, none⟩) 0 0) [] := by
    rw [← hsz.out]; exact (own_new0 wb wb.heap.size (Nat.le_refl _)).kp ((Kp.refl _).alloc _)
  have hs : Own ((wb.alloc (.cells #[] 3)).alloc (.cells #[] 3)) wb.heap.size (.slice (some ⟨w.heap.size + 1 + 1, 0, none⟩) 0 0) [] := by
    rw [← hsz.out]; exact own_new2 wb
  have hap : Apart (.slice (some ⟨w.heap.size + 1, 0, none⟩) 0 0) (.slice (some ⟨w.heap.size + 1 + 1, 0, none⟩) 0 0) := by
    rw [← hsz.out]; exact apart_new wb 0 0 0 0
  replace hkb : Kp wb ((wb.alloc (.cells #[] 3)).alloc (.cells #[] 3)) := ((Kp.refl _).alloc _).alloc _
  have CC := Lib.hid (l8Good_any _ F worth _ (hFA.kp hkb))
  with_reducible refine Calls.mono CC.out ?_
  rintro e w1 ⟨rfl, hk1⟩
  clear CC
  replace hkb := hkb.trans hk1
  replace ho := ho.kp hk1
  replace hs := hs.kp hk1
  cases hg_ : (goodF F && worthB worth)
  · have Hno : Hid (galOk F worth cl li = false) := by show galOk F worth cl li = false; rw [galOk, hg_]; rfl
    clear hg_
    have q_d0 := hkb.get d0
    have q_d1 := hkb.get d1
    go_wp2_with fail
    go_ret2
    exact ⟨_, by rw [Hno.out]; rfl, by rw [galL_no Hno.out]; exact ho.mono hkw.le, hkw.trans hkb⟩
  have Hg := Lib.hid hg_; clear hg_
  have q_d0 := hkb.get d0
  have q_d1 := hkb.get d1
  go_wp2_with fail
  have CC := Lib.hid (l8Classes_any _ F A1 cl n1 c1 A2 li n2 c2 _ (hFA.kp hkb) (h1.kp hkb) Hn1.out (h2.kp hkb) Hn2.out)
  with_reducible refine Calls.mono CC.out ?_
  rintro e w2 ⟨rfl, hk2⟩
  clear CC q_d0 q_d1
  replace hkb := hkb.trans hk2
  replace ho := ho.kp hk2
  replace hs := hs.kp hk2
  cases hg_ : clsB F cl li
  · have Hno : Hid (galOk F worth cl li = false) := by show galOk F worth cl li = false; rw [galOk, Hg.out, hg_]; rfl
    clear hg_
    have q_d0 := hkb.get d0
    have q_d1 := hkb.get d1
    go_wp2_with fail
    go_ret2
    exact ⟨_, by rw [Hno.out]; rfl, by rw [galL_no Hno.out]; exact ho.mono hkw.le, hkw.trans hkb⟩
  have Hok : Hid (galOk F worth cl li = true) := by show galOk F worth cl li = true; rw [galOk, Hg.out, hg_]; rfl
  clear hg_
  have HP := Lib.hid (galOk_parts Hok.out)
  have h7 := (goodF_iff.1 HP.out.1).1.2
  have hw0 := HP.out.2.1.1
  have hw1 := HP.out.2.1.2
  have q_d0 := hkb.get d0
  have q_d1 := hkb.get d1
  go_wp2_with fail
  go_loopw [10, 11] (fun ov sv wr => ∃ out S, Own wr wb.heap.size ov out ∧ out.length ≤ F.op.length ∧ Own wr wb.heap.size sv S ∧ Apart ov sv ∧ setB F S = true ∧ Hid (S.length = out.length) ∧ Hid (grd F worth (allowB cl li) (F.op.length - out.length) out S = grd F worth (allowB cl li) F.op.length [] []) ∧ Kp wb wr) (fun ov _ _ => F.op.length - sLen ov)
  case atStart => exact ⟨[], [], ho, by simp, hs, hap, rfl, rfl, rfl, hkb⟩
  case round =>
    clear ho hs hap
    obtain ⟨out, S, hown, hle, hset, hap, hs, Hlen, HR, hkb⟩ := hrel
    obtain ⟨A9, c9, rfl⟩ := hown.shape
    obtain ⟨A8, c8, hv8, hS⟩ := hset.ints (by rw [Hlen.out]; omega)
    have hc8 := hset.cap hv8
    subst hv8
    have Hs := Lib.hid hs
    clear hs
    obtain ⟨wo, rfl⟩ : ∃ wo : World, wo = wr := ⟨_, rfl⟩
    clear q_d0 q_d1
    have q_d0 := hkb.get d0
    have q_d1 := hkb.get d1
    go_wp2_with fail
    go_loopw [12, 13, 14] (fun bv mv iv ws => ∃ a : Nat, a ≤ F.op.length ∧ iv = .int .i64 a ∧ bv = .int .i64 (nextTo F worth (allowB cl li) S a).1 ∧ mv = .int .i64 (nextTo F worth (allowB cl li) S a).2 ∧ Kp wo ws) (fun _ _ iv _ => F.op.length - (intOf iv).toNat)
    case atStart => exact ⟨0, by omega, rfl, rfl, rfl, Kp.refl _⟩
    case round =>
      obtain ⟨a, ha, rfl, rfl, rfl, hki⟩ := hrel
      replace hkb := hkb.trans hki
      by_cases hla : a < F.op.length
      · clear q_d0 q_d1
        have q_d0 := hkb.get d0
        have q_d1 := hkb.get d1
        go_wp2_with fail
        have CC := Lib.hid (l1Has_any A8 S S.length c8 (a : Int) _ (hS.kp hki) rfl)
        with_reducible refine Calls.mono CC.out ?_
        rintro e w3 ⟨rfl, hw⟩
        obtain rfl := hw
        clear CC q_d0 q_d1
        cases hh : (S.any fun x => x == (a : Int))
        · have Hany := Lib.hid hh
          clear hh
          have q_d0 := hkb.get d0
          have q_d1 := hkb.get d1
          go_wp2_with fail
          have CC := Lib.hid (l1Put_any A8 S S.length c8 (a : Int) _ (hS.kp hki) rfl (ris_iff.1 Hs.out).1 hc8 (by rw [Hlen.out]; omega))
          with_reducible refine Calls.mono CC.out ?_
          rintro e w4 ⟨Av, cv, rfl, hcv, hiv, hk4⟩
          clear CC q_d0 q_d1
          replace hkb := hkb.trans hk4
          replace hki := hki.trans hk4
          have HSp := Lib.hid (setB_put Hs.out (a := (a : Int)) (by omega) (by omega))
          have q_d0 := hkb.get d0
          have q_d1 := hkb.get d1
          go_wp2_with fail
          have CC := Lib.hid (l8Allowed_any A1 cl n1 c1 A2 li n2 c2 Av _ _ cv _ (h1.kp hkb) Hn1.out (h2.kp hkb) Hn2.out hiv rfl (cls_mem HP.out.2.2 HSp.out))
          with_reducible refine Calls.mono CC.out ?_
          rintro e w5 ⟨rfl, hw⟩
          obtain rfl := hw
          clear CC q_d0 q_d1
          cases hmay : allowB cl li (putL S a)
          · have Hy := Lib.hid (pick_no (ok := okF (allowB cl li) S) (val := fun a => moreF F worth S a) (k := a) (by simp only [okF, hmay]; simp))
            clear hmay
            have q_d0 := hkb.get d0
            have q_d1 := hkb.get d1
            go_wp2_with fail
            go_roundw
            case rel => exact ⟨a + 1, by omega, by go_num, by rw [nextTo, nextTo, Hy.out], by rw [nextTo, nextTo, Hy.out], hki⟩
            case measure => simp [intOf]; omega
          · have Hok2 : Hid (okF (allowB cl li) S a = true) := by show okF _ _ _ = true; simp only [okF, hmay, Hany.out]; rfl
            clear hmay
            have q_d0 := hkb.get d0
            have q_d1 := hkb.get d1
            go_wp2_with fail
            have CC := Lib.hid (l8More_any _ F worth A8 S S.length c8 (a : Int) _ (hFA.kp hkb) (hS.kp hki) rfl hc8 HP.out.1 Hs.out hw0 hw1 (by omega) (by omega))
            with_reducible refine Calls.mono CC.out ?_
            rintro e w6 ⟨rfl, hk6⟩
            clear CC q_d0 q_d1
            replace hkb := hkb.trans hk6
            replace hki := hki.trans hk6
            by_cases hgt : (nextTo F worth (allowB cl li) S a).2 < moreF F worth S a
            · have Hy := Lib.hid (pick_yes (val := fun a => moreF F worth S a) Hok2.out hgt)
              have q_d0 := hkb.get d0
              have q_d1 := hkb.get d1
              go_wp2_with fail
              go_roundw
              case rel => exact ⟨a + 1, by omega, by go_num, by rw [nextTo, Hy.out], by rw [nextTo, Hy.out], hki⟩
              case measure => simp [intOf]; omega
            · have Hy := Lib.hid (pick_less (ok := okF (allowB cl li) S) (val := fun a => moreF F worth S a) hgt)
              have q_d0 := hkb.get d0
              have q_d1 := hkb.get d1
              go_wp2_with fail
              go_roundw
              case rel => exact ⟨a + 1, by omega, by go_num, by rw [nextTo, nextTo, Hy.out], by rw [nextTo, nextTo, Hy.out], hki⟩
              case measure => simp [intOf]; omega
        · have Hy := Lib.hid (pick_no (ok := okF (allowB cl li) S) (val := fun a => moreF F worth S a) (k := a) (by simp only [okF, hh]; rfl))
          clear hh
          have q_d0 := hkb.get d0
          have q_d1 := hkb.get d1
          go_wp2_with fail
          go_roundw
          case rel => exact ⟨a + 1, by omega, by go_num, by rw [nextTo, nextTo, Hy.out], by rw [nextTo, nextTo, Hy.out], hki⟩
          case measure => simp [intOf]; omega
      · obtain rfl : a = F.op.length := by omega
        have hown2 := hown.kp hki
        have hset1 := hset.kp hki
        have Hn2 : Hid (nextTo F worth (allowB cl li) S F.op.length = nextF F worth (allowB cl li) S) := rfl
        rw [Hn2.out]
        by_cases hneg : (nextF F worth (allowB cl li) S).1 < 0
        · have Hst := Lib.hid (grd_stop (j := F.op.length - out.length) (out := out) hneg)
          clear q_d0 q_d1
          have q_d0 := hkb.get d0
          have q_d1 := hkb.get d1
          go_wp2_with fail
          go_ret2
          exact ⟨_, by rw [Hok.out]; rfl, by rw [galL_yes Hok.out, ← HR.out, Hst.out]; exact hown2.mono hkw.le, hkw.trans hkb⟩
        · have hfull : out.length < F.op.length := by
            by_cases hf : out.length < F.op.length
            · exact hf
            · exact absurd (next_full Hs.out (by rw [Hlen.out]; omega)) hneg
          have HN := Lib.hid (next_new hneg)
          have Hgo := Lib.hid (grd_go (j := F.op.length - (out.length + 1)) (out := out) hneg)
          replace hneg : 0 ≤ (nextF F worth (allowB cl li) S).1 := by omega
          have hnl := HN.out.2
          clear q_d0 q_d1
          have q_d0 := hkb.get d0
          have q_d1 := hkb.get d1
          go_wp2_with (at_builtin; go_loud (refine wpl_app rfl (.tmp 62) (.tmp 64) rfl (wb.heap.size) _ (out) ((nextF F worth (allowB cl li) S).1) rfl rfl hown2 hkb.le (by omega) ?_; intro v' w' ho' ht' h4'; have hkb' := hown2.kp_turn hkb (Nat.le_refl _) ht'; have r_d0 := hkb'.get d0; have r_d1 := hkb'.get d1))
          have hbl := hkb'.le
          replace hkb := hkb'
          have hset2 := hset1.apart_turn hap ht'
          have hS2 := hset2.intsOf (by rw [Hlen.out]; omega)
          have hop := ho'
          have CC := Lib.hid (l1Put_new A8 S S.length c8 (nextF F worth (allowB cl li) S).1 _ hS2 rfl (ris_iff.1 Hs.out).1 hc8 (by rw [Hlen.out]; omega) HN.out.1)
          with_reducible refine Calls.mono CC.out ?_
          rintro e w7 ⟨v8, rfl, ho8, hk7⟩
          clear CC q_d0 q_d1 r_d0 r_d1
          replace hkb := hkb.trans hk7
          replace ho' := ho'.kp hk7
          have hap3 := Apart.fresh hop ho8 (Nat.le_refl _)
          obtain ⟨A7, c7, e7⟩ := ho'.shape
          rw [show (out ++ [(nextF F worth (allowB cl li) S).1]).length = out.length + 1 from by simp] at e7
          subst e7
          have q_d0 := hkb.get d0
          have q_d1 := hkb.get d1
          go_wp2_with fail
          go_roundw
          case rel =>
            refine ⟨_, _, ho', by simp; omega, ho8.mono hbl, hap3, setB_put Hs.out hneg hnl, ?_, ?_, hkb⟩
            · show (putL S (nextF F worth (allowB cl li) S).1).length = (out ++ [(nextF F worth (allowB cl li) S).1]).length
              rw [putL_new HN.out.1, Hlen.out]; simp
            · show grd F worth (allowB cl li) (F.op.length - (out ++ [(nextF F worth (allowB cl li) S).1]).length) _ _ = _
              rw [← HR.out, show F.op.length - out.length = F.op.length - (out.length + 1) + 1 from by omega, Hgo.out]; simp
          case measure => simp [sLen]; omega
end Go.Proofs.YtlglonjijfpgaaaGreat

namespace Go.Proofs.YtlglonjijfpgaaaGreat
open Go.RowKit Go.Sort

def kP (k : Int) (S : List Int) : Bool := decide ((S.length : Int) ≤ k)
def bgOk (F : Fld) (worth k : Int) : Bool := goodF F && worthB worth && inB k 0 7
def bgL (F : Fld) (worth k : Int) : List Int := if bgOk F worth k = true then bgF F worth (kP k) else []
theorem bgL_yes {F : Fld} {worth k : Int} (h : bgOk F worth k = true) : bgL F worth k = bgF F worth (kP k) := if_pos h
theorem bgL_no {F : Fld} {worth k : Int} (h : bgOk F worth k = false) : bgL F worth k = [] := if_neg (by simp [h])
theorem bgOk_parts {F : Fld} {worth k : Int} (h : bgOk F worth k = true) : goodF F = true ∧ (0 ≤ worth ∧ worth ≤ 999) ∧ 0 ≤ k ∧ k ≤ 7 := by
  simp only [bgOk, worthB, inB, Bool.and_eq_true, decide_eq_true_eq] at h
  exact ⟨h.1.1, h.1.2, h.2⟩
theorem kP_nil {k : Int} (h : 0 ≤ k) : kP k [] = true := by simp [kP, h]
theorem bgL_len (F : Fld) (worth k : Int) : (bgL F worth k).length ≤ 1048576 := by
  by_cases h : bgOk F worth k = true
  · have hp := bgOk_parts h
    rw [bgL_yes h]
    have h1 := bg_len (F := F) (worth := worth) (kP_nil hp.2.2.1)
    have h2 := (goodF_iff.1 hp.1).1.2
    omega
  · rw [bgL_no (by simpa using h)]; simp
end Go.Proofs.YtlglonjijfpgaaaGreat

namespace Go.Proofs.YtlglonjijfpgaaaGreat
open Go.RowKit Go.Sort

def aP (F : Fld) (k : Int) (S : List Int) : Bool := decide (payF F S ≤ k)
def bbOk (F : Fld) (worth k : Int) : Bool := goodF F && worthB worth && inB k 0 9999
def bbL (F : Fld) (worth k : Int) : List Int := if bbOk F worth k = true then bgF F worth (aP F k) else []
theorem bbL_yes {F : Fld} {worth k : Int} (h : bbOk F worth k = true) : bbL F worth k = bgF F worth (aP F k) := if_pos h
theorem bbL_no {F : Fld} {worth k : Int} (h : bbOk F worth k = false) : bbL F worth k = [] := if_neg (by simp [h])
theorem bbOk_parts {F : Fld} {worth k : Int} (h : bbOk F worth k = true) : goodF F = true ∧ (0 ≤ worth ∧ worth ≤ 999) ∧ 0 ≤ k ∧ k ≤ 9999 := by
  simp only [bbOk, worthB, inB, Bool.and_eq_true, decide_eq_true_eq] at h
  exact ⟨h.1.1, h.1.2, h.2⟩
theorem aP_nil {F : Fld} {k : Int} (h : 0 ≤ k) : aP F k [] = true := by simp [aP, payF, h]
theorem bbL_len (F : Fld) (worth k : Int) : (bbL F worth k).length ≤ 1048576 := by
  by_cases h : bbOk F worth k = true
  · have hp := bbOk_parts h
    rw [bbL_yes h]
    have h1 := bg_len (F := F) (worth := worth) (aP_nil (F := F) hp.2.2.1)
    have h2 := (goodF_iff.1 hp.1).1.2
    omega
  · rw [bbL_no (by simpa using h)]; simp
theorem l8Budget_any (k : Int) (w : World) : Calls Tryz.prog 52 #[.int .i64 k] w fun e w' => e = .returned (.bool (inB k 0 9999)) ∧ w = w' := by
  go_enter Tryz.func52, Tryz.ntmps52
  go_wp2_with fail
  with_reducible refine Calls.mono (l1In_any _ _ _ _) ?_
  rintro e w1 ⟨rfl, hw⟩
  obtain rfl := hw
  go_wp2_with fail
  go_ret
  exact ⟨rfl, rfl⟩
set_option maxRecDepth 100000 in
set_option maxHeartbeats 2000000 in
theorem specBb_any (f : Value) (F : Fld) (worth k : Int) (w : World) (hf : FldAt w f F) :
    Calls Tryz.prog 20 #[f, .int .i64 worth, .int .i64 k] w fun e w' => ∃ v, e = .returned (.tuple #[v, .bool (bbOk F worth k)]) ∧ Own w' w.heap.size v (bbL F worth k) ∧ Kp w w' := by
  obtain ⟨A, c, B, d, rfl, hA, hB⟩ := hf
  have hk0 : Kp w (w.alloc (.cells #[.slice A F.op.length c, .slice B F.di.length d] 27)) := (Kp.refl w).alloc _
  obtain ⟨d0, d1⟩ := box2 w (.slice A F.op.length c) (.slice B F.di.length d) 27
  have hFA := FldAt.kp (show FldAt w (.agg #[.slice A F.op.length c, .slice B F.di.length d]) F from ⟨A, c, B, d, rfl, hA, hB⟩) hk0
  clear hA hB
  go_enter Tryz.func20, Tryz.ntmps20
  go_wp2_with fail
  have hsz : Hid ((w.alloc (.cells #[.slice A F.op.length c, .slice B F.di.length d] 27)).heap.size = w.heap.size + 1) := by show _ = _; simp
  generalize w.alloc (.cells #[.slice A F.op.length c, .slice B F.di.length d] 27) = wb at *
  have hkb : Kp wb wb := Kp.refl _
  have hkw := hk0
  have ho0 := own_new0 wb w.heap.size (by rw [hsz.out]; exact Nat.le_succ _)
  have hkn := (Kp.refl wb).alloc (.cells #[] 3)
  rw [hsz.out] at ho0
  have q_0 := hkn.get d0
  have q_1 := hkn.get d1
  have CC := Lib.hid (l8Good_any _ F worth _ (hFA.kp hkn))
  with_reducible refine Calls.mono CC.out ?_
  rintro e w1 ⟨rfl, hk1⟩
  clear CC q_0 q_1
  replace hkb := hkn.trans hk1
  have ho1 := ho0.kp hk1
  have hw1le := (hkw.trans hkb).le
  cases hg_ : (goodF F && worthB worth)
  · have Hno : Hid (bbOk F worth k = false) := by show _ = _; rw [bbOk, hg_]; rfl
    clear hg_
    have q_d0 := hkb.get d0
    have q_d1 := hkb.get d1
    go_wp2_with fail
    go_ret2
    exact ⟨_, by rw [Hno.out]; rfl, by rw [bbL_no Hno.out]; exact ho1, hkw.trans hkb⟩
  have Hg := Lib.hid hg_; clear hg_
  have q_d0 := hkb.get d0
  have q_d1 := hkb.get d1
  go_wp2_with fail
  with_reducible refine Calls.mono (l8Budget_any k _) ?_
  rintro e w1 ⟨rfl, hw⟩
  obtain rfl := hw
  clear q_d0 q_d1
  cases hk_ : inB k 0 9999
  · have Hno : Hid (bbOk F worth k = false) := by show _ = _; rw [bbOk, hk_]; simp
    clear hk_
    have q_d0 := hkb.get d0
    have q_d1 := hkb.get d1
    go_wp2_with fail
    go_ret2
    exact ⟨_, by rw [Hno.out]; rfl, by rw [bbL_no Hno.out]; exact ho1, hkw.trans hkb⟩
  have Hok : Hid (bbOk F worth k = true) := by show _ = _; rw [bbOk, Hg.out, hk_]; rfl
  clear hk_
  have HP := Lib.hid (bbOk_parts Hok.out)
  have HG := Lib.hid HP.out.1
  have hw0 := HP.out.2.1.1
  have hw9 := HP.out.2.1.2
  have PN : aP F k [] = true := aP_nil HP.out.2.2.1
  have q_d0 := hkb.get d0
  have q_d1 := hkb.get d1
  go_wp2_with fail
  have CC := Lib.hid (l8All_any _ F _ (hFA.kp hkb) HG.out)
  with_reducible refine Calls.mono CC.out ?_
  rintro e w2 ⟨v, rfl, hvn, hgo, hk2⟩
  clear CC q_d0 q_d1
  replace hkb := hkb.trans hk2
  have hg7 := (goodF_iff.1 HG.out).1.2
  obtain ⟨ad, cx, hve, hcx, hrows⟩ := hgo.rows_some (by have := allS_most HG.out; omega) hvn
  subst hve
  clear hgo hvn
  obtain ⟨rows, hre⟩ : ∃ rows, rows = allS F.op.length := ⟨_, rfl⟩
  rw [← hre] at hrows hcx ⊢
  have Hpk : Hid (pkTo (aP F k) (negG F worth) rows rows.length = bgF F worth (aP F k)) := by show _ = _; rw [hre]; exact pk_all PN
  have Hset : Hid (∀ S ∈ rows, setB F S = true) := by show ∀ S ∈ rows, _; rw [hre]; exact allS_ris
  have Hmem : Hid (∀ jj, jj ≤ rows.length → setB F (pkTo (aP F k) (negG F worth) rows jj) = true) := by show ∀ jj, _ → _; rw [hre]; exact fun jj hk => allS_ris _ (pk_mem jj hk)
  have l1 : rows.length ≤ 128 := by rw [hre]; exact allS_most HG.out
  obtain ⟨m, hml⟩ : ∃ m, m = rows.length := ⟨_, rfl⟩
  rw [← hml] at l1 ⊢
  replace hml := Lib.hid hml
  clear hre
  have g0 := hkb.get d0
  have g1 := hkb.get d1
  have hFl := hFA.kp hkb
  have hkl := hkw.trans hkb
  obtain ⟨wl, rfl⟩ : ∃ wl : World, wl = w2 := ⟨_, rfl⟩
  have ho2 := RowP.of_own (ho1.kp hk2) (by simp)
  clear ho0 ho1 hkn hk1 PN hkb d0 d1
  go_wp2_with fail
  go_loopw [8, 10] (fun bv iv wr => ∃ (k' : Nat) (Ab : Option Addr) (cb : Nat), k' ≤ m ∧ iv = .int .i64 k' ∧ bv = .slice Ab (pkTo (aP F k) (negG F worth) rows k').length cb ∧ RowP wr (some w.heap.size) (.slice Ab (pkTo (aP F k) (negG F worth) rows k').length cb) (pkTo (aP F k) (negG F worth) rows k') ∧ Kp wl wr) (fun _ iv _ => m - (intOf iv).toNat)
  case atStart => exact ⟨0, _, _, by omega, rfl, rfl, ho2, Kp.refl _⟩
  case round =>
    clear ho2
    obtain ⟨j, Ab, cb, hj, rfl, rfl, hb, hkr⟩ := hrel
    by_cases hlt : j < m
    · have lx : j < rows.length := by rw [← hml.out]; exact hlt
      obtain ⟨A3, c3, hcl, hc3, hri, hrq⟩ := (hrows.kp hkr).some_ lx
      obtain ⟨Ab', cb', eb, hcb, hbi⟩ := hb.read
      simp only [Value.slice.injEq] at eb
      obtain ⟨rfl, _, rfl⟩ := eb
      have q1 := Lib.hid (Hset.out _ (List.getElem_mem lx))
      have q2 := Lib.hid (Hmem.out j (Nat.le_of_lt lx))
      have hkz : Kp wr wr := Kp.refl _
      have z0 := hkr.get g0
      have z1 := hkr.get g1
      have C1 := Lib.hid (fun (wx : World) (hx : Kp wr wx) => l8Gain_any _ F worth A3 rows[j] _ c3 wx (hFl.kp (hkr.trans hx)) (hri.kp hx) rfl HG.out q1.out hw0 hw9)
      have C2 := Lib.hid (fun (wx : World) (hx : Kp wr wx) => l8Gain_any _ F worth Ab (pkTo (aP F k) (negG F worth) rows j) _ cb wx (hFl.kp (hkr.trans hx)) (hbi.kp hx) rfl HG.out q2.out hw0 hw9)
      have C0 := Lib.hid (fun (wx : World) (hx : Kp wr wx) => l2Pay_any _ F A3 rows[j] _ c3 wx (hFl.kp (hkr.trans hx)) (hri.kp hx) rfl HG.out q1.out)
      by_cases hle : payF F rows[j] ≤ k
      · by_cases hgt : gainF F worth (pkTo (aP F k) (negG F worth) rows j) < gainF F worth rows[j]
        · have Hy : Hid (pkTo (aP F k) (negG F worth) rows (j + 1) = rows[j]) := pk_yes lx (by simp [aP, hle]) (Int.neg_lt_neg hgt)
          have q_z0 := hkz.get z0
          have q_z1 := hkz.get z1
          have q_hcl := hkz.get hcl
          have tok1 : True := trivial
          go_wp2_with fail
          go_region_held3 (fun w' => w'.cell? ⟨w.heap.size, 0, none⟩ = some (.slice A F.op.length c) ∧ w'.cell? ⟨w.heap.size, 1, none⟩ = some (.slice B F.di.length d) ∧ w'.cell? (ad.add j) = some (.slice A3 rows[j].length c3) ∧ Kp wr w')
            (first | (refine keepc3 z0 z1 hcl ?_; exact (by repeat (first | with_reducible assumption | with_reducible exact Kp.refl _ | with_reducible refine Kp.drew ?_ | with_reducible refine Kp.alloc ?_ _ | with_reducible refine Kp.drewN ?_ _ | refine Kp.setCell ?_ (by dsimp only; omega) _))) | fail)
            (first
              | (have _t := tok1; go_at_call 54; with_reducible refine Calls.mono (C0.out _ (by repeat (first | with_reducible assumption | with_reducible exact Kp.refl _ | with_reducible refine Kp.drew ?_ | with_reducible refine Kp.alloc ?_ _ | with_reducible refine Kp.drewN ?_ _ | refine Kp.setCell ?_ (by dsimp only; omega) _))) ?_; rintro e wr1 ⟨rfl, hka⟩; have hr1 : Kp wr wr1 := Kp.trans (by repeat (first | with_reducible assumption | with_reducible exact Kp.refl _ | with_reducible refine Kp.drew ?_ | with_reducible refine Kp.alloc ?_ _ | with_reducible refine Kp.drewN ?_ _ | refine Kp.setCell ?_ (by dsimp only; omega) _)) hka; have tok2 : True := trivial; clear tok1 _t)
              | (have _t := tok2; go_at_call 36; with_reducible refine Calls.mono (C1.out _ (by repeat (first | with_reducible assumption | with_reducible exact Kp.refl _ | with_reducible refine Kp.drew ?_ | with_reducible refine Kp.alloc ?_ _ | with_reducible refine Kp.drewN ?_ _ | refine Kp.setCell ?_ (by dsimp only; omega) _))) ?_; rintro e wr2 ⟨rfl, hka⟩; have hr2 : Kp wr wr2 := Kp.trans (by repeat (first | with_reducible assumption | with_reducible exact Kp.refl _ | with_reducible refine Kp.drew ?_ | with_reducible refine Kp.alloc ?_ _ | with_reducible refine Kp.drewN ?_ _ | refine Kp.setCell ?_ (by dsimp only; omega) _)) hka; have tok3 : True := trivial; clear tok2 _t)
              | (have _t := tok3; go_at_call 36; with_reducible refine Calls.mono (C2.out _ (by repeat (first | with_reducible assumption | with_reducible exact Kp.refl _ | with_reducible refine Kp.drew ?_ | with_reducible refine Kp.alloc ?_ _ | with_reducible refine Kp.drewN ?_ _ | refine Kp.setCell ?_ (by dsimp only; omega) _))) ?_; rintro e wr3 ⟨rfl, hka⟩; have hr3 : Kp wr wr3 := Kp.trans (by repeat (first | with_reducible assumption | with_reducible exact Kp.refl _ | with_reducible refine Kp.drew ?_ | with_reducible refine Kp.alloc ?_ _ | with_reducible refine Kp.drewN ?_ _ | refine Kp.setCell ?_ (by dsimp only; omega) _)) hka; have tok4 : True := trivial; clear tok3 _t)
              | fail)
          have hc4 := hr3.get hcl
          go_wp2_with fail
          go_roundw
          case rel => exact ⟨j + 1, A3, c3, by omega, by go_num, by rw [Hy.out], by rw [Hy.out]; exact (hrq.mono hw1le).kp hr3, hkr.trans hr3⟩
          case measure => simp [intOf]; omega
        · have Hy : Hid (pkTo (aP F k) (negG F worth) rows (j + 1) = pkTo (aP F k) (negG F worth) rows j) := pk_no lx (fun h => hgt (by have h3 : -gainF F worth rows[j] < -gainF F worth (pkTo (aP F k) (negG F worth) rows j) := h.2; omega))
          have q_z0 := hkz.get z0
          have q_z1 := hkz.get z1
          have q_hcl := hkz.get hcl
          have tok1 : True := trivial
          go_wp2_with fail
          go_region_held3 (fun w' => w'.cell? ⟨w.heap.size, 0, none⟩ = some (.slice A F.op.length c) ∧ w'.cell? ⟨w.heap.size, 1, none⟩ = some (.slice B F.di.length d) ∧ w'.cell? (ad.add j) = some (.slice A3 rows[j].length c3) ∧ Kp wr w')
            (first | (refine keepc3 z0 z1 hcl ?_; exact (by repeat (first | with_reducible assumption | with_reducible exact Kp.refl _ | with_reducible refine Kp.drew ?_ | with_reducible refine Kp.alloc ?_ _ | with_reducible refine Kp.drewN ?_ _ | refine Kp.setCell ?_ (by dsimp only; omega) _))) | fail)
            (first
              | (have _t := tok1; go_at_call 54; with_reducible refine Calls.mono (C0.out _ (by repeat (first | with_reducible assumption | with_reducible exact Kp.refl _ | with_reducible refine Kp.drew ?_ | with_reducible refine Kp.alloc ?_ _ | with_reducible refine Kp.drewN ?_ _ | refine Kp.setCell ?_ (by dsimp only; omega) _))) ?_; rintro e wr1 ⟨rfl, hka⟩; have hr1 : Kp wr wr1 := Kp.trans (by repeat (first | with_reducible assumption | with_reducible exact Kp.refl _ | with_reducible refine Kp.drew ?_ | with_reducible refine Kp.alloc ?_ _ | with_reducible refine Kp.drewN ?_ _ | refine Kp.setCell ?_ (by dsimp only; omega) _)) hka; have tok2 : True := trivial; clear tok1 _t)
              | (have _t := tok2; go_at_call 36; with_reducible refine Calls.mono (C1.out _ (by repeat (first | with_reducible assumption | with_reducible exact Kp.refl _ | with_reducible refine Kp.drew ?_ | with_reducible refine Kp.alloc ?_ _ | with_reducible refine Kp.drewN ?_ _ | refine Kp.setCell ?_ (by dsimp only; omega) _))) ?_; rintro e wr2 ⟨rfl, hka⟩; have hr2 : Kp wr wr2 := Kp.trans (by repeat (first | with_reducible assumption | with_reducible exact Kp.refl _ | with_reducible refine Kp.drew ?_ | with_reducible refine Kp.alloc ?_ _ | with_reducible refine Kp.drewN ?_ _ | refine Kp.setCell ?_ (by dsimp only; omega) _)) hka; have tok3 : True := trivial; clear tok2 _t)
              | (have _t := tok3; go_at_call 36; with_reducible refine Calls.mono (C2.out _ (by repeat (first | with_reducible assumption | with_reducible exact Kp.refl _ | with_reducible refine Kp.drew ?_ | with_reducible refine Kp.alloc ?_ _ | with_reducible refine Kp.drewN ?_ _ | refine Kp.setCell ?_ (by dsimp only; omega) _))) ?_; rintro e wr3 ⟨rfl, hka⟩; have hr3 : Kp wr wr3 := Kp.trans (by repeat (first | with_reducible assumption | with_reducible exact Kp.refl _ | with_reducible refine Kp.drew ?_ | with_reducible refine Kp.alloc ?_ _ | with_reducible refine Kp.drewN ?_ _ | refine Kp.setCell ?_ (by dsimp only; omega) _)) hka; have tok4 : True := trivial; clear tok3 _t)
              | fail)
          go_wp2_with fail
          go_roundw
          case rel => exact ⟨j + 1, Ab, cb, by omega, by go_num, by rw [Hy.out], by rw [Hy.out]; exact hb.kp hr3, hkr.trans hr3⟩
          case measure => simp [intOf]; omega
      · have Hy : Hid (pkTo (aP F k) (negG F worth) rows (j + 1) = pkTo (aP F k) (negG F worth) rows j) := pk_no lx (fun h => hle (by simpa [aP] using h.1))
        clear C1 C2
        have hdec : decide (payF F rows[j] ≤ k) = false := by simpa using hle
        have r0 := cell_regrown z0; have r1 := cell_regrown z1; have r2 := cell_regrown hcl
        have Cv := Lib.hid (fun (dd : Nat) (os : Array Obj) => Calls.regrown_of (l2Pay_any _ F A3 rows[j] _ c3 _ ((hFl.kp hkr).kp (kp_rg wr dd os)) (hri.kp (kp_rg wr dd os)) rfl HG.out q1.out))
        clear C0 hkz hle
        generalize payF F rows[j] = pay at Cv hdec
        go_wp2_with fail
        refine wp_region_quiet_below (by kernel_rfl) (by kernel_rfl) ?_
        iterate 9 (quiet_step (with_reducible exact Cv.out _ _))
        clear Cv
        repeat go_big_quiet_skip
        quiet_step (fail)
        refine wpQuiet_nil ?_
        intro wq hw'
        have hkq := kp_of_rg hw'
        clear hw' r0 r1 r2
        go_wp2_with fail
        go_roundw
        case rel => exact ⟨j + 1, Ab, cb, by omega, by go_num, by rw [Hy.out], by rw [Hy.out]; exact hb.kp hkq, hkr.trans hkq⟩
        case measure => simp [intOf]; omega
    · obtain rfl : j = m := by omega
      have Hy : Hid (pkTo (aP F k) (negG F worth) rows j = bgF F worth (aP F k)) := by show _ = _; rw [hml.out]; exact Hpk.out
      go_wp2_with fail
      go_ret2
      exact ⟨_, by rw [Hok.out]; rfl, by rw [bbL_yes Hok.out, ← Hy.out]; exact hb.2 _ rfl, hkl.trans hkr⟩
set_option maxRecDepth 100000 in
set_option maxHeartbeats 1000000 in
theorem implBb_any (f : Value) (F : Fld) (worth k : Int) (w : World) (hf : FldAt w f F) :
    Calls Tryz.prog 19 #[f, .int .i64 worth, .int .i64 k] w fun e w' => ∃ v, e = .returned (.tuple #[v, .bool (bbOk F worth k)]) ∧ Own w' w.heap.size v (bbL F worth k) ∧ Kp w w' := by
  obtain ⟨A, c, B, d, rfl, hA, hB⟩ := hf
  have hk0 : Kp w (w.alloc (.cells #[.slice A F.op.length c, .slice B F.di.length d] 27)) := (Kp.refl w).alloc _
  obtain ⟨d0, d1⟩ := box2 w (.slice A F.op.length c) (.slice B F.di.length d) 27
  have hFA := FldAt.kp (show FldAt w (.agg #[.slice A F.op.length c, .slice B F.di.length d]) F from ⟨A, c, B, d, rfl, hA, hB⟩) hk0
  clear hA hB
  go_enter Tryz.func19, Tryz.ntmps19
  go_wp2_with fail
  have hsz : Hid ((w.alloc (.cells #[.slice A F.op.length c, .slice B F.di.length d] 27)).heap.size = w.heap.size + 1) := by show _ = _; simp
  generalize w.alloc (.cells #[.slice A F.op.length c, .slice B F.di.length d] 27) = wb at *
  have hkb : Kp wb wb := Kp.refl _
  have hkw := hk0
  have hkw0 := hkw
  have CC := Lib.hid (isWorth_any _ F worth none [] 0 0 _ (hFA.kp hkb) (IntsAt.nil _ none) rfl)
  with_reducible refine Calls.mono CC.out ?_
  rintro e w1 ⟨rfl, hk1⟩
  clear CC
  replace hkb := hkb.trans hk1
  have hgo : gainOk F worth [] = (goodF F && worthB worth) := by simp [gainOk, setB, risB]
  rw [hgo]
  clear hgo
  cases hg_ : (goodF F && worthB worth)
  · have Hno : Hid (bbOk F worth k = false) := by show _ = _; rw [bbOk, hg_]; rfl
    clear hg_
    have q_d0 := hkb.get d0
    have q_d1 := hkb.get d1
    go_wp2_with fail
    go_ret2
    exact ⟨_, by rw [Hno.out]; rfl, by rw [bbL_no Hno.out]; exact Own.nil _ _, hkw0.trans hkb⟩
  have Hg := Lib.hid hg_; clear hg_
  have q_d0 := hkb.get d0
  have q_d1 := hkb.get d1
  go_wp2_with fail
  with_reducible refine Calls.mono (between_any _ _ _ _) ?_
  rintro e w2 ⟨rfl, hw⟩
  obtain rfl := hw
  clear q_d0 q_d1
  cases hk_ : inB k 0 9999
  · have Hno : Hid (bbOk F worth k = false) := by show _ = _; rw [bbOk, hk_]; simp
    clear hk_
    have q_d0 := hkb.get d0
    have q_d1 := hkb.get d1
    go_wp2_with fail
    go_ret2
    exact ⟨_, by rw [Hno.out]; rfl, by rw [bbL_no Hno.out]; exact Own.nil _ _, hkw0.trans hkb⟩
  have Hok : Hid (bbOk F worth k = true) := by show _ = _; rw [bbOk, Hg.out, hk_]; rfl
  clear hk_
  have HP := Lib.hid (bbOk_parts Hok.out)
  have hg7 := (goodF_iff.1 HP.out.1).1.2
  have HPN := Lib.hid (aP_nil (F := F) HP.out.2.2.1)
  have C0 := Lib.hid (fun (wx : World) (hx : Kp wb wx) => (show Calls Tryz.prog 49 #[.agg #[.slice A F.op.length c, .slice B F.di.length d], .int .i64 k] wx fun e w' => ∃ caps, e = .returned (.func (.func 78) #[] caps) ∧ Tells 78 #[] caps (aP F k) (fun S => setB F S = true) w' ∧ Kp wx w' from affords_any _ F k wx (hFA.kp hx) HP.out.1))
  have C1 := Lib.hid (fun (wx : World) (_ : Kp wb wx) (caps : Array Value) (ht : Tells 78 #[] caps (aP F k) (fun S => setB F S = true) wx) => lists_any 78 #[] caps (aP F k) (fun S => setB F S = true) F.op.length wx hg7 ht allS_ris)
  have C2 := Lib.hid (fun (wx : World) (hx : Kp wb wx) (lo : Option Nat) (Ax : Option Addr) (m cx : Nat) (hr : RowsAt wx lo Ax ((allS F.op.length).filter (aP F k))) (hm : ((allS F.op.length).filter (aP F k)).length = m) => most_any _ F worth lo Ax ((allS F.op.length).filter (aP F k)) m cx wx (hFA.kp hx) hr hm (by have := fil_pos (n := F.op.length) HPN.out; omega) HP.out.1 HP.out.2.1.1 HP.out.2.1.2 (fun S hS => allS_ris _ (List.mem_filter.1 hS).1))
  have HF7 := Lib.hid (fil_most HP.out.1 (aP F k))
  have q_d0 := hkb.get d0
  have q_d1 := hkb.get d1
  have tok1 : True := trivial
  go_wp2_with fail
  go_region_held3 (fun w' => w'.cell? ⟨w.heap.size, 0, none⟩ = some (.slice A F.op.length c) ∧ w'.cell? ⟨w.heap.size, 1, none⟩ = some (.slice B F.di.length d) ∧ Kp wb w')
    (first | (refine keepc2 d0 d1 ?_; exact (by repeat (first | with_reducible assumption | with_reducible exact Kp.refl _ | with_reducible refine Kp.drew ?_ | with_reducible refine Kp.alloc ?_ _ | with_reducible refine Kp.drewN ?_ _ | refine Kp.setCell ?_ (by dsimp only; omega) _))) | fail)
    (first
      | (have _t := tok1; go_at_call 49; with_reducible refine Calls.mono (C0.out _ (by repeat (first | with_reducible assumption | with_reducible exact Kp.refl _ | with_reducible refine Kp.drew ?_ | with_reducible refine Kp.alloc ?_ _ | with_reducible refine Kp.drewN ?_ _ | refine Kp.setCell ?_ (by dsimp only; omega) _))) ?_; rintro e wr1 ⟨caps, rfl, htl, hka⟩; have hr1 : Kp wb wr1 := Kp.trans (by repeat (first | with_reducible assumption | with_reducible exact Kp.refl _ | with_reducible refine Kp.drew ?_ | with_reducible refine Kp.alloc ?_ _ | with_reducible refine Kp.drewN ?_ _ | refine Kp.setCell ?_ (by dsimp only; omega) _)) hka; have tok2 : True := trivial; clear tok1 _t)
      | (have _t := tok2; go_at_call 34; with_reducible refine Calls.mono (C1.out _ hr1 caps htl) ?_; rintro e wr2 ⟨v, rfl, hvn, hgo, hka⟩; have hr2 : Kp wb wr2 := Kp.trans (by repeat (first | with_reducible assumption | with_reducible exact Kp.refl _ | with_reducible refine Kp.drew ?_ | with_reducible refine Kp.alloc ?_ _ | with_reducible refine Kp.drewN ?_ _ | refine Kp.setCell ?_ (by dsimp only; omega) _)) hka; obtain ⟨Ax, cx, hve, hcx, hrows⟩ := hgo.rows (by have := HF7.out; omega); subst hve; have tok3 : True := trivial; clear tok2 _t)
      | (have _t := tok3; go_at_call 33; with_reducible refine Calls.mono (C2.out _ hr2 _ Ax _ cx hrows rfl) ?_; rintro e wr3 ⟨u, rfl, hu, hka⟩; have hr3 : Kp wb wr3 := Kp.trans (by repeat (first | with_reducible assumption | with_reducible exact Kp.refl _ | with_reducible refine Kp.drew ?_ | with_reducible refine Kp.alloc ?_ _ | with_reducible refine Kp.drewN ?_ _ | refine Kp.setCell ?_ (by dsimp only; omega) _)) hka; have tok4 : True := trivial; clear tok3 _t)
      | fail)
  all_goals
    go_wp2_with fail
    go_ret2
    exact ⟨u, by rw [Hok.out]; rfl, by rw [bbL_yes Hok.out]; exact ((hu.2 _ rfl).mono (hkw0.trans hr1).le), hkw0.trans hr3⟩
end Go.Proofs.YtlglonjijfpgaaaGreat

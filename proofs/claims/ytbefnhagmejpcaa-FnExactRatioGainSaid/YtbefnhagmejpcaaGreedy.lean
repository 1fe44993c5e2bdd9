/- GreedyGain: the choice of the next site, and the greedy loops of reference and program. No condition. -/
import Derived.Test.YtbefnhagmejpcaaSlot
import Derived.Test.YtbefnhagmejpcaaMore
import Derived.Test.YtbefnhagmejpcaaFind
namespace Go.Proofs.Ytbefnhagmejpcaa
open Go.RowKit Go.Sort

/-- A slice value that reads as this list. -/
def SetAt (w : World) (v : Value) (S : List Int) : Prop := ∃ A c, v = .slice A S.length c ∧ S.length ≤ c ∧ IntsAt w A S
theorem SetAt.kp {w w' : World} {v : Value} {S : List Int} (h : SetAt w v S) (hk : Kp w w') : SetAt w' v S := by
  obtain ⟨A, c, e, h1, h2⟩ := h
  exact ⟨A, c, e, h1, h2.kp hk⟩
theorem Own.setAt {w : World} {base : Nat} {v : Value} {S : List Int} (h : Own w base v S) (hl : S.length ≤ 9223372036854775807) : SetAt w v S := by
  obtain ⟨A, c, e, hi⟩ := h.ints hl
  exact ⟨A, c, e, h.cap e, hi⟩
def anyS : List Int → Bool := fun _ => true
theorem l8K_any (k : Int) (w : World) : Calls Try.prog 32 #[.int .i64 k] w fun e w' => e = .returned (.bool (inB k 0 7)) ∧ w = w' := by
  go_enter Try.func32, Try.ntmps32
  go_wp2_with fail
  with_reducible refine Calls.mono (l1In_any _ _ _ _) ?_
  rintro e w1 ⟨rfl, hw⟩
  obtain rfl := hw
  go_wp2_with fail
  go_ret
  exact ⟨rfl, rfl⟩
set_option maxRecDepth 100000 in
set_option maxHeartbeats 400000 in
theorem l8Next_any (f : Value) (F : Fld) (worth : Int) (A0 : Option Addr) (S : List Int) (n c0 : Nat) (w : World) (hf : FldAt w f F) (hS : IntsAt w A0 S) (hn : S.length = n) (hc : n ≤ c0) (hg : goodF F = true) (hs : setB F S = true) (hw0 : 0 ≤ worth) (hw1 : worth ≤ 999) :
    Calls Try.prog 92 #[f, .int .i64 worth, .slice A0 n c0] w fun e w' => e = .returned (.tuple #[.int .i64 (nextF F worth anyS S).1, .int .i64 (nextF F worth anyS S).2]) ∧ Kp w w' := by
  have h7 := (goodF_iff.1 hg).1.2
  obtain ⟨A, c, B, d, rfl, hA, hB⟩ := hf
  have hk0 : Kp w (w.alloc (.cells #[.slice A F.op.length c, .slice B F.di.length d] 29)) := (Kp.refl w).alloc _
  obtain ⟨d0, d1⟩ := box2 w (.slice A F.op.length c) (.slice B F.di.length d) 29
  have hFA := FldAt.kp (show FldAt w (.agg #[.slice A F.op.length c, .slice B F.di.length d]) F from ⟨A, c, B, d, rfl, hA, hB⟩) hk0
  have hS0 := hS.kp hk0
  have HG := Lib.hid hg
  have HS := Lib.hid hs
  have Hn := Lib.hid hn
  clear hS hA hB hg hs hn
  go_enter Try.func92, Try.ntmps92
  go_wp2_with fail
  have hsz : Hid ((w.alloc (.cells #[.slice A F.op.length c, .slice B F.di.length d] 29)).heap.size = w.heap.size + 1) := by show _ = _; simp
  generalize w.alloc (.cells #[.slice A F.op.length c, .slice B F.di.length d] 29) = wb at *
  have hkb : Kp wb wb := Kp.refl _
  have hkw := hk0
  go_loopw [8, 9, 10] (fun bv mv iv wr => ∃ k : Nat, k ≤ F.op.length ∧ iv = .int .i64 k ∧ bv = .int .i64 (nextTo F worth anyS S k).1 ∧ mv = .int .i64 (nextTo F worth anyS S k).2 ∧ Kp wb wr) (fun _ _ iv _ => F.op.length - (intOf iv).toNat)
  case atStart => exact ⟨0, by omega, rfl, rfl, rfl, Kp.refl _⟩
  case round =>
    obtain ⟨k, hk, rfl, rfl, rfl, hkb⟩ := hrel
    by_cases hlt : k < F.op.length
    · have q_d0 := hkb.get d0
      have q_d1 := hkb.get d1
      go_wp2_with fail
      have CC := Lib.hid (l1Has_any A0 S n c0 (k : Int) _ (hS0.kp hkb) Hn.out)
      with_reducible refine Calls.mono CC.out ?_
      rintro e w1 ⟨rfl, hw⟩
      obtain rfl := hw
      clear CC q_d0 q_d1
      cases hh : (S.any fun x => x == (k : Int))
      · have Hok : Hid (okF anyS S k = true) := by show okF anyS S k = true; simp only [okF, hh, anyS]; rfl
        clear hh
        have q_d0 := hkb.get d0
        have q_d1 := hkb.get d1
        go_wp2_with fail
        have CC := Lib.hid (l8More_any _ F worth A0 S n c0 (k : Int) _ (hFA.kp hkb) (hS0.kp hkb) Hn.out hc HG.out HS.out hw0 hw1 (by omega) (by omega))
        with_reducible refine Calls.mono CC.out ?_
        rintro e w2 ⟨rfl, hk2⟩
        clear CC q_d0 q_d1
        replace hkb := hkb.trans hk2
        by_cases hgt : (nextTo F worth anyS S k).2 < moreF F worth S k
        · have Hy := Lib.hid (pick_yes (val := fun a => moreF F worth S a) Hok.out hgt)
          have q_d0 := hkb.get d0
          have q_d1 := hkb.get d1
          go_wp2_with fail
          go_roundw
          case rel => exact ⟨k + 1, by omega, by go_num, by rw [nextTo, Hy.out], by rw [nextTo, Hy.out], hkb⟩
          case measure => simp [intOf]; omega
        · have Hy := Lib.hid (pick_less (ok := okF anyS S) (val := fun a => moreF F worth S a) hgt)
          have q_d0 := hkb.get d0
          have q_d1 := hkb.get d1
          go_wp2_with fail
          go_roundw
          case rel => exact ⟨k + 1, by omega, by go_num, by rw [nextTo, nextTo, Hy.out], by rw [nextTo, nextTo, Hy.out], hkb⟩
          case measure => simp [intOf]; omega
      · have Hy := Lib.hid (pick_no (ok := okF anyS S) (val := fun a => moreF F worth S a) (k := k) (by simp only [okF, hh]; rfl))
        clear hh
        have q_d0 := hkb.get d0
        have q_d1 := hkb.get d1
        go_wp2_with fail
        go_roundw
        case rel => exact ⟨k + 1, by omega, by go_num, by rw [nextTo, nextTo, Hy.out], by rw [nextTo, nextTo, Hy.out], hkb⟩
        case measure => simp [intOf]; omega
    · obtain rfl : k = F.op.length := by omega
      have q_d0 := hkb.get d0
      have q_d1 := hkb.get d1
      go_wp2_with fail
      go_ret2
      exact ⟨rfl, hkw.trans hkb⟩
theorem Apart.fresh {w w' w2 : World} {base : Nat} {v u : Value} {xs ys : List Int} (h : Own w base v xs) (h' : Own w' w2.heap.size u ys) (hl : w.heap.size ≤ w2.heap.size) : Apart v u := fun g hg hu => by
  have h1 := h.lt g hg
  have h2 := h'.lt g hu
  omega
theorem own_new2 (w : World) : Own ((w.alloc (.cells #[] 3)).alloc (.cells #[] 3)) w.heap.size (.slice (some ⟨w.heap.size + 1, 0, none⟩) 0 0) [] := by
  have := own_new0 (w.alloc (.cells #[] 3)) w.heap.size (by simp)
  simpa using this
theorem apart_new (w : World) (n m c d : Nat) : Apart (.slice (some ⟨w.heap.size, 0, none⟩) n c) (.slice (some ⟨w.heap.size + 1, 0, none⟩) m d) := fun g hg hu => by
  simp [Value.ownBlock] at hg hu
  omega
theorem next_nn {F : Fld} {worth : Int} {may : List Int → Bool} {S : List Int} (h : ¬ (nextF F worth may S).1 < 0) : (nextF F worth may S).2 ≠ 0 := fun e => h ((pick_neg _ _ _).2 e)
set_option maxRecDepth 100000 in
set_option maxHeartbeats 400000 in
theorem l8Greedy_any (f : Value) (F : Fld) (worth : Int) (K : Nat) (w : World) (hf : FldAt w f F) (hg : goodF F = true) (hK : K ≤ 7) (hw0 : 0 ≤ worth) (hw1 : worth ≤ 999) :
    Calls Try.prog 60 #[f, .int .i64 worth, .int .i64 K] w fun e w' => ∃ v, e = .returned v ∧ Own w' w.heap.size v (grd F worth anyS K [] []) ∧ Kp w w' := by
  have h7 := (goodF_iff.1 hg).1.2
  obtain ⟨A, c, B, d, rfl, hA, hB⟩ := hf
  have hk0 : Kp w (w.alloc (.cells #[.slice A F.op.length c, .slice B F.di.length d] 29)) := (Kp.refl w).alloc _
  obtain ⟨d0, d1⟩ := box2 w (.slice A F.op.length c) (.slice B F.di.length d) 29
  have hFA := FldAt.kp (show FldAt w (.agg #[.slice A F.op.length c, .slice B F.di.length d]) F from ⟨A, c, B, d, rfl, hA, hB⟩) hk0
  have HG := Lib.hid hg
  clear hA hB hg
  go_enter Try.func60, Try.ntmps60
  go_wp2_with fail
  have hsz : Hid ((w.alloc (.cells #[.slice A F.op.length c, .slice B F.di.length d] 29)).heap.size = w.heap.size + 1) := by show _ = _; simp
  generalize w.alloc (.cells #[.slice A F.op.length c, .slice B F.di.length d] 29) = wb at *
  have hkb : Kp wb wb := Kp.refl _
  have hkw := hk0
  have ho : Own ((wb.alloc (.cells #[] 3)).alloc (.cells #[] 3)) wb.heap.size (.slice (some ⟨w.heap.size + 1, 0, none⟩) 0 0) [] := by
    rw [← hsz.out]; exact (own_new0 wb wb.heap.size (Nat.le_refl _)).kp ((Kp.refl _).alloc _)
  have hs : Own ((wb.alloc (.cells #[] 3)).alloc (.cells #[] 3)) wb.heap.size (.slice (some ⟨w.heap.size + 1 + 1, 0, none⟩) 0 0) [] := by
    rw [← hsz.out]; exact own_new2 wb
  have hap : Apart (.slice (some ⟨w.heap.size + 1, 0, none⟩) 0 0) (.slice (some ⟨w.heap.size + 1 + 1, 0, none⟩) 0 0) := by
    rw [← hsz.out]; exact apart_new wb 0 0 0 0
  go_loopw [7, 8] (fun ov sv wr => ∃ out S, Own wr wb.heap.size ov out ∧ out.length ≤ K ∧ Own wr wb.heap.size sv S ∧ Apart ov sv ∧ setB F S = true ∧ Hid (S.length = out.length) ∧ Hid (grd F worth anyS (K - out.length) out S = grd F worth anyS K [] []) ∧ Kp wb wr) (fun ov _ _ => K - sLen ov)
  case atStart => exact ⟨[], [], ho, by simp, hs, hap, rfl, rfl, rfl, ((Kp.refl _).alloc _).alloc _⟩
  case round =>
    obtain ⟨out, S, hown, hle, hset, hap, hs, Hlen, HR, hkb⟩ := hrel
    obtain ⟨A9, c9, rfl⟩ := hown.shape
    obtain ⟨A8, c8, hv8, hS⟩ := hset.ints (by rw [Hlen.out]; omega)
    have hc8 := hset.cap hv8
    subst hv8
    have Hs := Lib.hid hs
    clear hs
    by_cases hlt : out.length < K
    · have q_d0 := hkb.get d0
      have q_d1 := hkb.get d1
      go_wp2_with fail
      have CC := Lib.hid (l8Next_any _ F worth A8 S S.length c8 _ (hFA.kp hkb) hS rfl hc8 HG.out Hs.out hw0 hw1)
      with_reducible refine Calls.mono CC.out ?_
      rintro e w1 ⟨rfl, hk1⟩
      clear CC q_d0 q_d1
      replace hkb := hkb.trans hk1
      replace hown := hown.kp hk1
      replace hset := hset.kp hk1
      replace hS := hS.kp hk1
      by_cases hneg : (nextF F worth anyS S).1 < 0
      · have hm : ((nextF F worth anyS S).2 == 0) = true := by rw [beq_iff_eq]; exact (pick_neg _ _ _).1 hneg
        have Hst := Lib.hid (grd_stop (j := K - out.length) (out := out) hneg)
        clear hneg
        have q_d0 := hkb.get d0
        have q_d1 := hkb.get d1
        go_wp2_with fail
        go_ret
        exact ⟨_, rfl, by rw [← HR.out, Hst.out]; exact hown.mono hkw.le, hkw.trans hkb⟩
      · have hm : ((nextF F worth anyS S).2 == 0) = false := by rw [beq_eq_false_iff_ne]; exact next_nn hneg
        have HN := Lib.hid (next_new hneg)
        have Hgo := Lib.hid (grd_go (j := K - (out.length + 1)) (out := out) hneg)
        replace hneg : 0 ≤ (nextF F worth anyS S).1 := by omega
        have hnl := HN.out.2
        have q_d0 := hkb.get d0
        have q_d1 := hkb.get d1
        go_wp2_with (at_builtin; go_loud (refine wpl_app rfl (.tmp 27) (.tmp 29) rfl (wb.heap.size) _ (out) ((nextF F worth anyS S).1) rfl rfl hown hkb.le (by omega) ?_; intro v' w' ho' ht' h4'; have hkb' := hown.kp_turn hkb (Nat.le_refl _) ht'; have r_d0 := hkb'.get d0; have r_d1 := hkb'.get d1))
        replace hkb := hkb'
        have hset2 := hset.apart_turn hap ht'
        have hS2 := hset2.intsOf (by rw [Hlen.out]; omega)
        have hop := ho'
        have CC := Lib.hid (l1Put_new A8 S S.length c8 (nextF F worth anyS S).1 _ hS2 rfl (ris_iff.1 Hs.out).1 hc8 (by rw [Hlen.out]; omega) HN.out.1)
        with_reducible refine Calls.mono CC.out ?_
        rintro e w2 ⟨v8, rfl, ho8, hk2⟩
        clear CC q_d0 q_d1 r_d0 r_d1
        replace hkb := hkb.trans hk2
        replace ho' := ho'.kp hk2
        have hap3 := Apart.fresh hop ho8 (Nat.le_refl _)
        obtain ⟨A7, c7, e7⟩ := ho'.shape
        rw [show (out ++ [(nextF F worth anyS S).1]).length = out.length + 1 from by simp] at e7
        subst e7
        have q_d0 := hkb.get d0
        have q_d1 := hkb.get d1
        go_wp2_with fail
        go_roundw
        case rel =>
          refine ⟨_, _, ho', by simp; omega, ho8.mono hkb'.le, hap3, setB_put Hs.out hneg hnl, ?_, ?_, hkb⟩
          · show (putL S (nextF F worth anyS S).1).length = (out ++ [(nextF F worth anyS S).1]).length
            rw [putL_new HN.out.1, Hlen.out]; simp
          · show grd F worth anyS (K - (out ++ [(nextF F worth anyS S).1]).length) _ _ = _
            rw [← HR.out, show K - out.length = K - (out.length + 1) + 1 from by omega, Hgo.out]; simp
        case measure => simp [sLen]; omega
    · have hst : Hid (grd F worth anyS (K - out.length) out S = out) := by show grd F worth anyS (K - out.length) out S = out; rw [show K - out.length = 0 from by omega]; rfl
      have q_d0 := hkb.get d0
      have q_d1 := hkb.get d1
      go_wp2_with fail
      go_ret
      exact ⟨_, rfl, by rw [← HR.out, hst.out]; exact hown.mono hkw.le, hkw.trans hkb⟩

/-- A function value that tells which sets may be taken. -/
def May (F : Fld) (FN : FuncId) (caps : Array Value) (may : List Int → Bool) (w : World) : Prop :=
  (∀ (args : Array Value) (w : World), Sem.run Try.prog (callFunc FN args) w = .ok (.enter FN args) w) ∧
  ∀ (S : List Int) (Av : Option Addr) (cv : Nat) (w' : World), Kp w w' → setB F S = true → IntsAt w' Av S → Calls Try.prog FN (#[.slice Av S.length cv] ++ caps) w' fun e w'' => e = .returned (.bool (may S)) ∧ Kp w' w''
theorem May.kp {F : Fld} {FN : FuncId} {caps : Array Value} {may : List Int → Bool} {w w' : World} (h : May F FN caps may w) (hk : Kp w w') : May F FN caps may w' :=
  ⟨h.1, fun S Av cv w2 h2 => h.2 S Av cv w2 (hk.trans h2)⟩
set_option maxRecDepth 100000 in
set_option maxHeartbeats 1000000 in
theorem greedyGain_any (FN : FuncId) (caps : Array Value) (may : List Int → Bool) (f : Value) (F : Fld) (worth : Int) (K : Nat) (w : World) (hf : FldAt w f F) (hm : May F FN caps may w) (hg : goodF F = true) (hK : K ≤ 7) (hw0 : 0 ≤ worth) (hw1 : worth ≤ 999) :
    Calls Try.prog 93 #[f, .int .i64 worth, .int .i64 K, .func (.func FN) #[] caps] w fun e w' => ∃ v, e = .returned v ∧ Own w' w.heap.size v (grd F worth may K [] []) ∧ Kp w w' := by
  have h7 := (goodF_iff.1 hg).1.2
  obtain ⟨A, c, B, d, rfl, hA, hB⟩ := hf
  have hk0 : Kp w (w.alloc (.cells #[.slice A F.op.length c, .slice B F.di.length d] 29)) := (Kp.refl w).alloc _
  obtain ⟨d0, d1⟩ := box2 w (.slice A F.op.length c) (.slice B F.di.length d) 29
  have hFA := FldAt.kp (show FldAt w (.agg #[.slice A F.op.length c, .slice B F.di.length d]) F from ⟨A, c, B, d, rfl, hA, hB⟩) hk0
  have HM := Lib.hid (hm.kp hk0)
  have HG := Lib.hid hg
  have HF := hm.1
  clear hA hB hg hm
  go_enter Try.func93, Try.ntmps93
  go_wp2_with fail
  have hsz : Hid ((w.alloc (.cells #[.slice A F.op.length c, .slice B F.di.length d] 29)).heap.size = w.heap.size + 1) := by show _ = _; simp
  generalize w.alloc (.cells #[.slice A F.op.length c, .slice B F.di.length d] 29) = wb at *
  have hkb : Kp wb wb := Kp.refl _
  have hkw := hk0
  have ho : Own (wb.alloc (.cells #[] 3)) wb.heap.size (.slice (some ⟨w.heap.size + 1, 0, none⟩) 0 0) [] := by
    rw [← hsz.out]; exact own_new0 wb wb.heap.size (Nat.le_refl _)
  go_loopw [9, 10] (fun ov tv wr => ∃ out b, Own wr wb.heap.size ov out ∧ out.length ≤ K ∧ tv = .int .u64 (b : Nat) ∧ b < 2 ^ F.op.length ∧ Hid (grd F worth may (K - out.length) out (bitsL F.op.length b) = grd F worth may K [] []) ∧ Kp wb wr) (fun ov _ _ => K - sLen ov)
  case atStart => exact ⟨[], 0, ho, by simp, rfl, Nat.two_pow_pos _, by rw [bits_zero]; exact rfl, (Kp.refl _).alloc _⟩
  case round =>
    obtain ⟨out, b, hown, hle, rfl, hb, HR, hkb⟩ := hrel
    obtain ⟨A9, c9, rfl⟩ := hown.shape
    have Hb := Lib.hid hb
    have hb7 : b < 128 := Nat.lt_of_lt_of_le hb (Nat.pow_le_pow_right (n := 2) (by omega) h7)
    clear hb
    by_cases hlt : out.length < K
    · have q_d0 := hkb.get d0
      have q_d1 := hkb.get d1
      go_wp2_with fail
      go_loopw [11, 12, 23] (fun bv mv iv ws => ∃ a : Nat, a ≤ F.op.length ∧ iv = .int .i64 a ∧ bv = .int .i64 (nextTo F worth may (bitsL F.op.length b) a).1 ∧ mv = .int .i64 (nextTo F worth may (bitsL F.op.length b) a).2 ∧ Kp wr ws) (fun _ _ iv _ => F.op.length - (intOf iv).toNat)
      case atStart => exact ⟨0, by omega, rfl, rfl, rfl, Kp.refl _⟩
      case round =>
        obtain ⟨a, ha, rfl, rfl, rfl, hki⟩ := hrel
        replace hkb := hkb.trans hki
        by_cases hla : a < F.op.length
        · clear q_d0 q_d1
          have q_d0 := hkb.get d0
          have q_d1 := hkb.get d1
          go_wp2_with fail
          with_reducible refine Calls.mono (has_any b a _ (by omega) (by omega)) ?_
          rintro e w1 ⟨rfl, hw⟩
          obtain rfl := hw
          clear q_d0 q_d1
          cases hbit : b.testBit a
          · have Hany : Hid (((bitsL F.op.length b).any fun x => x == (a : Int)) = false) := by show _ = _; rw [bits_any hla, hbit]
            have ho2 := Nat.or_lt_two_pow Hb.out (Nat.pow_lt_pow_right (by omega) hla : 2 ^ a < 2 ^ F.op.length)
            have ha7 : 2 ^ a < 2 ^ 7 := Nat.pow_lt_pow_right (by omega) (by omega)
            have hsh := u64_one_shl (a : Int) (by omega) (by omega)
            rw [Int.toNat_natCast] at hsh
            have hor := u64_or_nat b (2 ^ a) (by omega) (by omega)
            have HP := Lib.hid (bits_put (b := b) hla)
            have HSp := Lib.hid (bitsL_set (F := F) (b ||| 2 ^ a))
            have HO2 := Lib.hid ho2
            have hlp := bitsL_len F.op.length (b ||| 2 ^ a)
            clear ho2 hbit
            generalize 2 ^ a = pa at *
            have q_d0 := hkb.get d0
            have q_d1 := hkb.get d1
            go_wp2_with fail
            with_reducible refine Calls.mono (list_any (b ||| pa) F.op.length _ HO2.out (by omega)) ?_
            rintro e w2 ⟨v1, rfl, hov, hk2⟩
            clear q_d0 q_d1
            replace hkb := hkb.trans hk2
            replace hki := hki.trans hk2
            obtain ⟨Av, cv, hve, hiv⟩ := hov.ints (by omega)
            subst hve
            clear hlp hsh hor
            have q_d0 := hkb.get d0
            have q_d1 := hkb.get d1
            go_wp2_with fail
            have CC := Lib.hid (HM.out.2 _ Av cv _ hkb HSp.out hiv)
            with_reducible refine Calls.mono CC.out ?_
            rintro e w3 ⟨rfl, hk3⟩
            clear CC q_d0 q_d1
            replace hkb := hkb.trans hk3
            replace hki := hki.trans hk3
            cases hmay : may (bitsL F.op.length (b ||| pa))
            · have Hy := Lib.hid (pick_no (ok := okF may (bitsL F.op.length b)) (val := fun a => moreF F worth (bitsL F.op.length b) a) (k := a) (by simp only [okF, ← HP.out, hmay]; simp))
              clear hmay
              have q_d0 := hkb.get d0
              have q_d1 := hkb.get d1
              go_wp2_with fail
              go_roundw
              case rel => exact ⟨a + 1, by omega, by go_num, by rw [nextTo, nextTo, Hy.out], by rw [nextTo, nextTo, Hy.out], hki⟩
              case measure => simp [intOf]; omega
            · have Hok : Hid (okF may (bitsL F.op.length b) a = true) := by show okF _ _ _ = true; simp only [okF, ← HP.out, hmay, Hany.out]; rfl
              clear hmay
              have q_d0 := hkb.get d0
              have q_d1 := hkb.get d1
              go_wp2_with fail
              have CC := Lib.hid (marginal_any _ F worth b a _ (hFA.kp hkb) HG.out Hb.out hw0 hw1 hla)
              with_reducible refine Calls.mono CC.out ?_
              rintro e w4 ⟨rfl, hk4⟩
              clear CC q_d0 q_d1
              replace hkb := hkb.trans hk4
              replace hki := hki.trans hk4
              by_cases hgt : (nextTo F worth may (bitsL F.op.length b) a).2 < moreF F worth (bitsL F.op.length b) a
              · have Hy := Lib.hid (pick_yes (val := fun a => moreF F worth (bitsL F.op.length b) a) Hok.out hgt)
                have q_d0 := hkb.get d0
                have q_d1 := hkb.get d1
                go_wp2_with fail
                go_roundw
                case rel => exact ⟨a + 1, by omega, by go_num, by rw [nextTo, Hy.out], by rw [nextTo, Hy.out], hki⟩
                case measure => simp [intOf]; omega
              · have Hy := Lib.hid (pick_less (ok := okF may (bitsL F.op.length b)) (val := fun a => moreF F worth (bitsL F.op.length b) a) hgt)
                have q_d0 := hkb.get d0
                have q_d1 := hkb.get d1
                go_wp2_with fail
                go_roundw
                case rel => exact ⟨a + 1, by omega, by go_num, by rw [nextTo, nextTo, Hy.out], by rw [nextTo, nextTo, Hy.out], hki⟩
                case measure => simp [intOf]; omega
          · have Hy := Lib.hid (pick_no (ok := okF may (bitsL F.op.length b)) (val := fun a => moreF F worth (bitsL F.op.length b) a) (k := a) (by rw [okF, bits_any hla, hbit]; rfl))
            clear hbit
            have q_d0 := hkb.get d0
            have q_d1 := hkb.get d1
            go_wp2_with fail
            go_roundw
            case rel => exact ⟨a + 1, by omega, by go_num, by rw [nextTo, nextTo, Hy.out], by rw [nextTo, nextTo, Hy.out], hki⟩
            case measure => simp [intOf]; omega
        · obtain rfl : a = F.op.length := by omega
          have hown2 := hown.kp hki
          have Hn2 : Hid (nextTo F worth may (bitsL F.op.length b) F.op.length = nextF F worth may (bitsL F.op.length b)) := rfl
          rw [Hn2.out]
          by_cases hneg : (nextF F worth may (bitsL F.op.length b)).1 < 0
          · have Hst := Lib.hid (grd_stop (j := K - out.length) (out := out) hneg)
            clear q_d0 q_d1
            have q_d0 := hkb.get d0
            have q_d1 := hkb.get d1
            go_wp2_with fail
            go_ret
            exact ⟨_, rfl, by rw [← HR.out, Hst.out]; exact hown2.mono hkw.le, hkw.trans hkb⟩
          · have HN := Lib.hid (next_new hneg)
            have Hgo := Lib.hid (grd_go (j := K - (out.length + 1)) (out := out) hneg)
            replace hneg : 0 ≤ (nextF F worth may (bitsL F.op.length b)).1 := by omega
            have hnl := HN.out.2
            obtain ⟨z, hz⟩ := Int.eq_ofNat_of_zero_le hneg
            rw [hz]
            have hzl : z < F.op.length := by omega
            have ho2 := Nat.or_lt_two_pow Hb.out (Nat.pow_lt_pow_right (by omega) hzl : 2 ^ z < 2 ^ F.op.length)
            have ha7 : 2 ^ z < 2 ^ 7 := Nat.pow_lt_pow_right (by omega) (by omega)
            have hsh := u64_one_shl (z : Int) (by omega) (by omega)
            rw [Int.toNat_natCast] at hsh
            have hor := u64_or_nat b (2 ^ z) (by omega) (by omega)
            have HP := Lib.hid (bits_put (b := b) hzl)
            have HO2 := Lib.hid ho2
            have HZ := Lib.hid hz
            clear ho2 hz hneg hnl
            generalize 2 ^ z = pa at *
            clear q_d0 q_d1
            have q_d0 := hkb.get d0
            have q_d1 := hkb.get d1
            have tok1 : True := trivial
            go_wp2_with fail
            go_region_held3? (fun w' => w'.cell? ⟨w.heap.size, 0, none⟩ = some (.slice A F.op.length c) ∧ w'.cell? ⟨w.heap.size, 1, none⟩ = some (.slice B F.di.length d) ∧ Kp wb w')
              (first | (refine keepc2 d0 d1 ?_; exact (by repeat (first | with_reducible assumption | with_reducible exact Kp.refl _ | with_reducible refine Kp.drew ?_ | with_reducible refine Kp.alloc ?_ _ | with_reducible refine Kp.drewN ?_ _))) | fail)
              (first
                | (have _t := tok1; refine step_app_all (by rfl) (.tmp 52) (.tmp 54) (by rfl) wb.heap.size _ out [(z : Int)] (some ⟨wr.heap.size, 0, none⟩) 1 1 (by rfl) (by rfl) ((hown2.kp ((Kp.refl _).alloc _)).drew) ((one_new _ _).kp (Kp.refl _).drew) rfl (Nat.le_trans hkb.le (by simp)) (by simp; omega) ?_; intro v' w' ho' ht' _; have hk4 : Kp wb w' := ((hown2.kp ((Kp.refl _).alloc _)).drew).kp_turn (by repeat (first | with_reducible assumption | with_reducible exact Kp.refl _ | with_reducible refine Kp.drew ?_ | with_reducible refine Kp.alloc ?_ _ | with_reducible refine Kp.drewN ?_ _)) (Nat.le_refl _) ht'; have tok2 : True := trivial; clear tok1 _t)
                | fail)
            obtain ⟨A7, c7, e7⟩ := ho'.shape
            rw [show (out ++ [(z : Int)]).length = out.length + 1 from by simp] at e7
            subst e7
            go_wp2_with fail
            go_roundw
            case rel =>
              refine ⟨_, b ||| pa, ho', by simp; omega, by go_num, HO2.out, ?_, hk4⟩
              show grd F worth may (K - (out ++ [(z : Int)]).length) _ _ = _
              rw [HP.out, ← HR.out, show K - out.length = K - (out.length + 1) + 1 from by omega, Hgo.out, HZ.out]; simp
            case measure => simp [sLen]; omega
    · have hst : Hid (grd F worth may (K - out.length) out (bitsL F.op.length b) = out) := by show grd F worth may (K - out.length) out _ = out; rw [show K - out.length = 0 from by omega]; rfl
      have q_d0 := hkb.get d0
      have q_d1 := hkb.get d1
      go_wp2_with fail
      go_ret
      exact ⟨_, rfl, by rw [← HR.out, hst.out]; exact hown.mono hkw.le, hkw.trans hkb⟩
end Go.Proofs.Ytbefnhagmejpcaa

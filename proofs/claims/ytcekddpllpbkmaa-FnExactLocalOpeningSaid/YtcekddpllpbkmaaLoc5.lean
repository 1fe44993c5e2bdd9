/- Moves of a set: the program's walk. No condition. -/
import Derived.Test.YtcekddpllpbkmaaLoc4
namespace Go.Proofs.Ytcekddpllpbkmaa
open Go.RowKit Go.Sort

def lsB (F : Fld) (tot : Int) (T : List Int) : Bool := decide (totF F T < tot)
theorem pre1 {F : Fld} {S : List Int} {a : Nat} (ha : a < F.op.length) (h : inS S a = false) : opTo S a ++ [putL S (a : Int)] <+: movesL F S := by
  rw [← opTo_yes h]; exact pre_right (pre_right (opTo_pre S ha))
theorem pre2 {F : Fld} {S : List Int} (hs : setB F S = true) {k : Nat} (hk : k < S.length) (h2 : 1 < S.length) : (opTo S F.op.length ++ clK S k) ++ [woL S S[k]] <+: movesL F S := by
  rw [List.append_assoc, ← clK_succ hk h2]
  refine pre_right (pre_left ?_)
  rw [← clK_all hs (Nat.le_refl _)]
  exact clK_pre hk
theorem pre3 {F : Fld} {S : List Int} (hs : setB F S = true) {k b : Nat} (hk : k < S.length) (hb : b < F.op.length) (h : inS S b = false) : ((opTo S F.op.length ++ clTo S F.op.length ++ swK F.op.length S k) ++ swIn S S[k] b) ++ [putL (woL S S[k]) (b : Int)] <+: movesL F S := by
  rw [List.append_assoc, ← swIn_yes h, List.append_assoc (opTo S F.op.length ++ clTo S F.op.length)]
  refine pre_left ?_
  refine (pre_left (swIn_pre S S[k] hb)).trans ?_
  rw [← swK_succ hk, ← swK_all hs (Nat.le_refl _)]
  exact swK_pre hk
set_option maxRecDepth 100000 in
set_option maxHeartbeats 4000000 in
theorem moves_any (F : Fld) (A : Option Addr) (c : Nat) (B : Option Addr) (d : Nat) (A0 : Option Addr) (S : List Int) (n c0 : Nat) (tot : Int) (pf pt po : Nat) (w : World) (hf : FldAt w (.agg #[.slice A F.op.length c, .slice B F.di.length d]) F) (x0 : w.cell? ⟨pf, 0, none⟩ = some (.slice A F.op.length c)) (x1 : w.cell? ⟨pf, 1, none⟩ = some (.slice B F.di.length d)) (y0 : w.cell? ⟨pt, 0, none⟩ = some (.int .i64 tot)) (hr : w.rowIs po 22 1 (fun _ => .slice none 0 0)) (hS : IntsAt w A0 S) (hn : S.length = n) (hg : goodF F = true) (hs : setB F S = true) (hne : S ≠ []) :
    Calls Try.prog 98 #[.agg #[.slice A F.op.length c, .slice B F.di.length d], .slice A0 n c0, .func (.func 99) #[] #[.pointer (some ⟨pf, 0, none⟩), .pointer (some ⟨pt, 0, none⟩), .pointer (some ⟨po, 0, none⟩)]] w fun e w' => e = .returned (.tuple #[]) ∧ Fin w w' po ((movesL F S).find? (lsB F tot)) := by
  have h7n := (goodF_iff.1 hg).1.2
  have hn7 : n ≤ 7 := by rw [← hn]; exact Nat.le_trans (set_len hs) h7n
  have hk0 : Kp w (w.alloc (.cells #[.slice A F.op.length c, .slice B F.di.length d] 29)) := (Kp.refl w).alloc _
  obtain ⟨d0, d1⟩ := box2 w (.slice A F.op.length c) (.slice B F.di.length d) 29
  have hFA := hf.kp hk0
  replace x0 := hk0.get x0
  replace x1 := hk0.get x1
  replace y0 := hk0.get y0
  replace hr := hk0.row hr
  replace hS := hS.kp hk0
  have HG := Lib.hid hg; have HS := Lib.hid hs; have HE := Lib.hid hne; have Hn := Lib.hid hn
  have Hm := Lib.hid (set_mem hs)
  have hbn := bagN_lt (set_mem hs)
  have hb7 : bagN S < 128 := Nat.lt_of_lt_of_le hbn (Nat.pow_le_pow_right (n := 2) (by omega) h7n)
  have Hbn := Lib.hid hbn
  have Hsb := Lib.hid (set_bits hs)
  have hcf := callFunc_of Try.func99 (by kernel_rfl) (by kernel_rfl)
  clear hf hg hs hne hn hbn
  go_enter Try.func98, Try.ntmps98
  go_wp2_with fail
  generalize w.alloc (.cells #[.slice A F.op.length c, .slice B F.di.length d] 29) = wb at *
  have hkw := hk0
  have C1 := Lib.hid (fun (wx : World) (hx : Kp wb wx) => bagOf_any A0 S n c0 wx (hS.kp hx) Hn.out (fun x hx => by have := Hm.out x hx; omega))
  go_quiet ((go_at_call 74; exact Calls.same_quiet (C1.out _ (by repeat (first | with_reducible assumption | with_reducible exact Kp.refl _ | with_reducible refine Kp.drew ?_ | with_reducible refine Kp.alloc ?_ _ | with_reducible refine Kp.drewN ?_ _)))))
  clear C1
  go_wp2_with fail
  have hkq : Kp wb (wb.drewN nq) := (Kp.refl wb).drewN nq
  go_loopw [20] (fun iv wr => ∃ a : Nat, a ≤ F.op.length ∧ iv = .int .i64 a ∧ Hid (∀ T ∈ opTo S a, lsB F tot T = false) ∧ Kp wb wr) (fun iv _ => F.op.length - (intOf iv).toNat)
  case atStart => exact ⟨0, by omega, rfl, (by show ∀ T ∈ opTo S 0, _; intro T hT; cases hT), hkq⟩
  case round =>
    clear hkq
    obtain ⟨a, ha, rfl, Hp, hkb⟩ := hrel
    by_cases hla : a < F.op.length
    · go_wp2_with fail
      have CC := Lib.hid (has_any (bagN S) a wr (by omega) (by omega))
      with_reducible refine Calls.mono CC.out ?_
      rintro e wz ⟨rfl, hwz⟩
      obtain rfl := hwz
      clear CC
      have Hhb : Hid ((bagN S).testBit a = inS S a) := by
        show _ = _
        have := bits_any (b := bagN S) hla
        rw [Hsb.out] at this
        exact this.symm
      rw [Hhb.out]
      cases hia : inS S a
      · have ho2 := Nat.or_lt_two_pow Hbn.out (Nat.pow_lt_pow_right (by omega) hla : 2 ^ a < 2 ^ F.op.length)
        have ha7 : 2 ^ a < 2 ^ 7 := Nat.pow_lt_pow_right (by omega) (by omega)
        have hsh := u64_one_shl (a : Int) (by omega) (by omega)
        rw [Int.toNat_natCast] at hsh
        have hor := u64_or_nat (bagN S) (2 ^ a) (by omega) (by omega)
        have HP : Hid (bitsL F.op.length (bagN S ||| 2 ^ a) = putL S (a : Int)) := by show _ = _; rw [bits_put hla, Hsb.out]
        have hpl := putL_len S (a : Int)
        have hsl := set_len HS.out
        have HO2 := Lib.hid ho2
        have Hpre := Lib.hid (pre1 hla hia)
        have Hyes := Lib.hid (opTo_yes hia)
        clear ho2 hia
        generalize 2 ^ a = pa at *
        go_wp2_with fail
        have CC := Lib.hid (list_any (bagN S ||| pa) F.op.length wr HO2.out (by omega))
        with_reducible refine Calls.mono CC.out ?_
        rintro e wv ⟨v, rfl, hov, hk1⟩
        clear CC
        rw [HP.out] at hov
        obtain ⟨Al, cl, hle, hli⟩ := hov.ints (by omega)
        subst hle
        have hkv := hkb.trans hk1
        go_wp2_with fail
        by_cases hp : totF F (putL S (a : Int)) < tot
        · have Hfd := Lib.hid (find_pre (p := lsB F tot) Hpre.out Hp.out (decide_eq_true hp))
          have CC := Lib.hid (betYes_any F A c B d tot pf pt po _ (hFA.kp hkv) (hkv.get x0) (hkv.get x1) (hkv.get y0) (hkv.row hr) Al (putL S (a : Int)) _ cl hli rfl HG.out (setB_put HS.out (by omega) (by omega)) (fun e => by have := (mem_putL (S := S) (a := (a : Int)) (x := (a : Int))).2 (.inr rfl); rw [e] at this; cases this) hp)
          with_reducible refine Calls.mono CC.out ?_
          rintro e wx ⟨rfl, w2, hk2, rfl⟩
          clear CC
          go_wp2_with fail
          first
            | go_end0
            | ((try simp only [Exit.inBlock, Exit.then]); refine bodyPost_ret (results_none rfl _ _ _) rfl ?_)
          refine ⟨rfl, ?_⟩
          rw [Hfd.out]
          exact ⟨w2, Al, cl, hkw.trans (hkv.trans hk2), (hov.kp hk2).mono (hkw.trans hkb).le, rfl⟩
        · have CC := Lib.hid (betNo_any F A c B d tot pf pt po _ (hFA.kp hkv) (hkv.get x0) (hkv.get x1) (hkv.get y0) (hkv.row hr) Al (putL S (a : Int)) _ cl hli rfl HG.out (setB_put HS.out (by omega) (by omega)) (fun e => by have := (mem_putL (S := S) (a := (a : Int)) (x := (a : Int))).2 (.inr rfl); rw [e] at this; cases this) hp)
          with_reducible refine Calls.mono CC.out ?_
          rintro e wx ⟨rfl, hk2⟩
          clear CC
          have Hn2 := Lib.hid (all_snoc (p := lsB F tot) Hp.out (decide_eq_false hp))
          have hkx := hkv.trans hk2
          go_wp2_with fail
          go_roundw
          case rel => exact ⟨a + 1, by omega, by go_num, by rw [Hyes.out]; exact Hn2.out, hkx⟩
          case measure => simp [intOf]; omega
      · have Hno := Lib.hid (opTo_no hia)
        clear hia
        go_wp2_with fail
        go_roundw
        case rel => exact ⟨a + 1, by omega, by go_num, by rw [Hno.out]; exact Hp.out, hkb⟩
        case measure => simp [intOf]; omega
    · obtain rfl : a = F.op.length := by omega
      have Hp1 : Hid (∀ T ∈ opTo S F.op.length ++ clK S 0, lsB F tot T = false) := by
        show ∀ T ∈ _, _
        intro T hT
        rcases List.mem_append.1 hT with hT | hT
        · exact Hp.out T hT
        · exfalso
          unfold clK at hT
          by_cases h2 : 1 < S.length
          · rw [if_pos h2] at hT; cases hT
          · rw [if_neg h2] at hT; cases hT
      clear Hp
      go_wp2_with fail
      go_loopw [40] (fun iv wr => ∃ k : Nat, k ≤ n ∧ iv = .int .i64 k ∧ Hid (∀ T ∈ opTo S F.op.length ++ clK S k, lsB F tot T = false) ∧ Kp wb wr) (fun iv _ => n - (intOf iv).toNat)
      case atStart => exact ⟨0, by omega, rfl, Hp1, hkb⟩
      case round =>
        clear hkb Hp1
        obtain ⟨k, hk, rfl, Hp, hkb⟩ := hrel
        by_cases hlk : k < n
        · have lx : k < S.length := by rw [Hn.out]; exact hlk
          obtain ⟨sd, rfl, hsc⟩ := (hS.kp hkb).at_ lx
          by_cases h2 : 1 < n
          · have h2s : 1 < S.length := by rw [Hn.out]; exact h2
            have Hpre := Lib.hid (pre2 HS.out lx h2s)
            have Hyes := Lib.hid (clK_succ lx h2s)
            have hxm := Hm.out _ (List.getElem_mem lx)
            obtain ⟨y, hy⟩ := Int.eq_ofNat_of_zero_le hxm.1
            rw [hy] at Hpre Hyes hsc hxm
            clear hy
            have hyl : y < F.op.length := by omega
            have ha7 : 2 ^ y < 2 ^ 7 := Nat.pow_lt_pow_right (by omega) (by omega)
            have hsh := u64_one_shl (y : Int) (by omega) (by omega)
            rw [Int.toNat_natCast] at hsh
            have hoff := u64_off_nat (bagN S) y (by omega) (by omega)
            have HO2 := Lib.hid (offN_le (x := y) (by omega) (by omega) Hbn.out)
            have HP : Hid (bitsL F.op.length (offN (bagN S) y) = woL S (y : Int)) := by show _ = _; rw [bits_off (by omega) (by omega), Hsb.out]
            have hwl := woL_len S (y : Int)
            have hsl := set_len HS.out
            generalize offN (bagN S) y = q at *
            generalize 2 ^ y = pa at *
            go_wp2_with fail
            have CC := Lib.hid (list_any q F.op.length wr HO2.out (by omega))
            with_reducible refine Calls.mono CC.out ?_
            rintro e wv ⟨v, rfl, hov, hk1⟩
            clear CC
            rw [HP.out] at hov
            obtain ⟨Al, cl, hle, hli⟩ := hov.ints (by omega)
            subst hle
            have hkv := hkb.trans hk1
            go_wp2_with fail
            by_cases hp : totF F (woL S (y : Int)) < tot
            · have Hfd := Lib.hid (find_pre (p := lsB F tot) Hpre.out Hp.out (decide_eq_true hp))
              have CC := Lib.hid (betYes_any F A c B d tot pf pt po _ (hFA.kp hkv) (hkv.get x0) (hkv.get x1) (hkv.get y0) (hkv.row hr) Al (woL S (y : Int)) _ cl hli rfl HG.out (woL_set HS.out _) (woL_two HS.out _ h2s) hp)
              with_reducible refine Calls.mono CC.out ?_
              rintro e wx ⟨rfl, w2, hk2, rfl⟩
              clear CC
              go_wp2_with fail
              first
                | go_end0
                | ((try simp only [Exit.inBlock, Exit.then]); refine bodyPost_ret (results_none rfl _ _ _) rfl ?_)
              refine ⟨rfl, ?_⟩
              rw [Hfd.out]
              exact ⟨w2, Al, cl, hkw.trans (hkv.trans hk2), (hov.kp hk2).mono (hkw.trans hkb).le, rfl⟩
            · have CC := Lib.hid (betNo_any F A c B d tot pf pt po _ (hFA.kp hkv) (hkv.get x0) (hkv.get x1) (hkv.get y0) (hkv.row hr) Al (woL S (y : Int)) _ cl hli rfl HG.out (woL_set HS.out _) (woL_two HS.out _ h2s) hp)
              with_reducible refine Calls.mono CC.out ?_
              rintro e wx ⟨rfl, hk2⟩
              clear CC
              have Hn2 := Lib.hid (all_snoc (p := lsB F tot) Hp.out (decide_eq_false hp))
              have hkx := hkv.trans hk2
              go_wp2_with fail
              go_roundw
              case rel => exact ⟨k + 1, by omega, by go_num, by rw [Hyes.out, ← List.append_assoc]; exact Hn2.out, hkx⟩
              case measure => simp [intOf]; omega
          · have hcn : clK S (k + 1) = clK S k := by rw [clK_none (by rw [Hn.out]; exact h2), clK_none (by rw [Hn.out]; exact h2)]
            have Hcn := Lib.hid hcn
            clear hcn
            go_wp2_with fail
            go_roundw
            case rel => exact ⟨k + 1, by omega, by go_num, by rw [Hcn.out]; exact Hp.out, hkb⟩
            case measure => simp [intOf]; omega
        · obtain rfl : k = n := by omega
          have Hp1 : Hid (∀ T ∈ opTo S F.op.length ++ clTo S F.op.length ++ swK F.op.length S 0, lsB F tot T = false) := by
            show ∀ T ∈ _, _
            intro T hT
            rcases List.mem_append.1 hT with hT | hT
            · have := Hp.out T
              rw [clK_all HS.out (by rw [Hn.out]; omega)] at this
              exact this hT
            · exfalso
              unfold swK at hT
              cases hT
          clear Hp
          go_wp2_with fail
          go_loopw [60] (fun iv wr => ∃ j : Nat, j ≤ k ∧ iv = .int .i64 j ∧ Hid (∀ T ∈ opTo S F.op.length ++ clTo S F.op.length ++ swK F.op.length S j, lsB F tot T = false) ∧ Kp wb wr) (fun iv _ => k - (intOf iv).toNat)
          case atStart => exact ⟨0, by omega, rfl, Hp1, hkb⟩
          case round =>
            clear hkb Hp1
            obtain ⟨j, hj, rfl, Hp, hkb⟩ := hrel
            by_cases hlj : j < k
            · have lx : j < S.length := by rw [Hn.out]; exact hlj
              obtain ⟨sd, rfl, hsc⟩ := (hS.kp hkb).at_ lx
              have Hsw := Lib.hid (swK_succ (n := F.op.length) lx)
              have Hpr := Lib.hid (fun b (hb : b < F.op.length) (h : inS S b = false) => pre3 HS.out lx hb h)
              have hxm := Hm.out _ (List.getElem_mem lx)
              obtain ⟨y, hy⟩ := Int.eq_ofNat_of_zero_le hxm.1
              rw [hy] at Hpr Hsw hsc hxm
              clear hy
              have hyl : y < F.op.length := by omega
              have Hp1 : Hid (∀ T ∈ (opTo S F.op.length ++ clTo S F.op.length ++ swK F.op.length S j) ++ swIn S (y : Int) 0, lsB F tot T = false) := by
                show ∀ T ∈ _, _
                rw [show swIn S (y : Int) 0 = [] from rfl, List.append_nil]; exact Hp.out
              clear Hp
              go_wp2_with fail
              go_loopw [65] (fun iv wr => ∃ b : Nat, b ≤ F.op.length ∧ iv = .int .i64 b ∧ Hid (∀ T ∈ (opTo S F.op.length ++ clTo S F.op.length ++ swK F.op.length S j) ++ swIn S (y : Int) b, lsB F tot T = false) ∧ Kp wb wr) (fun iv _ => F.op.length - (intOf iv).toNat)
              case atStart => exact ⟨0, by omega, rfl, Hp1, hkb⟩
              case round =>
                clear hkb Hp1 hsc
                obtain ⟨b, hb, rfl, Hp, hkb⟩ := hrel
                by_cases hlb : b < F.op.length
                · go_wp2_with fail
                  have CC := Lib.hid (has_any (bagN S) b wr (by omega) (by omega))
                  with_reducible refine Calls.mono CC.out ?_
                  rintro e wz ⟨rfl, hwz⟩
                  obtain rfl := hwz
                  clear CC
                  have Hhb : Hid ((bagN S).testBit b = inS S b) := by
                    show _ = _
                    have := bits_any (b := bagN S) hlb
                    rw [Hsb.out] at this
                    exact this.symm
                  rw [Hhb.out]
                  cases hib : inS S b
                  · have Hpre := Lib.hid (Hpr.out b hlb hib)
                    have Hyes := Lib.hid (swIn_yes (s := (y : Int)) hib)
                    have hpl := putL_len (woL S (y : Int)) (b : Int)
                    have hwl := woL_len S (y : Int)
                    have hsl := set_len HS.out
                    clear hib
                    go_wp2_with fail
                    have CC := Lib.hid (swapped_any (some sd) F S k c0 y b wr (hS.kp hkb) Hn.out HS.out h7n hyl hlb)
                    with_reducible refine Calls.mono CC.out ?_
                    rintro e wv ⟨v, rfl, hov, hk1⟩
                    clear CC
                    obtain ⟨Al, cl, hle, hli⟩ := hov.ints (by omega)
                    subst hle
                    have hkv := hkb.trans hk1
                    go_wp2_with fail
                    by_cases hp : totF F (putL (woL S (y : Int)) (b : Int)) < tot
                    · have Hfd := Lib.hid (find_pre (p := lsB F tot) Hpre.out Hp.out (decide_eq_true hp))
                      have CC := Lib.hid (betYes_any F A c B d tot pf pt po _ (hFA.kp hkv) (hkv.get x0) (hkv.get x1) (hkv.get y0) (hkv.row hr) Al (putL (woL S (y : Int)) (b : Int)) _ cl hli rfl HG.out (setB_put (woL_set HS.out _) (by omega) (by omega)) (fun e => by have := (mem_putL (S := woL S (y : Int)) (a := (b : Int)) (x := (b : Int))).2 (.inr rfl); rw [e] at this; cases this) hp)
                      with_reducible refine Calls.mono CC.out ?_
                      rintro e wx ⟨rfl, w2, hk2, rfl⟩
                      clear CC
                      go_wp2_with fail
                      first
                        | go_end0
                        | ((try simp only [Exit.inBlock, Exit.then]); refine bodyPost_ret (results_none rfl _ _ _) rfl ?_)
                      refine ⟨rfl, ?_⟩
                      rw [Hfd.out]
                      exact ⟨w2, Al, cl, hkw.trans (hkv.trans hk2), (hov.kp hk2).mono (hkw.trans hkb).le, rfl⟩
                    · have CC := Lib.hid (betNo_any F A c B d tot pf pt po _ (hFA.kp hkv) (hkv.get x0) (hkv.get x1) (hkv.get y0) (hkv.row hr) Al (putL (woL S (y : Int)) (b : Int)) _ cl hli rfl HG.out (setB_put (woL_set HS.out _) (by omega) (by omega)) (fun e => by have := (mem_putL (S := woL S (y : Int)) (a := (b : Int)) (x := (b : Int))).2 (.inr rfl); rw [e] at this; cases this) hp)
                      with_reducible refine Calls.mono CC.out ?_
                      rintro e wx ⟨rfl, hk2⟩
                      clear CC
                      have Hn2 := Lib.hid (all_snoc (p := lsB F tot) Hp.out (decide_eq_false hp))
                      have hkx := hkv.trans hk2
                      go_wp2_with fail
                      go_roundw
                      case rel => exact ⟨b + 1, by omega, by go_num, by rw [Hyes.out, ← List.append_assoc]; exact Hn2.out, hkx⟩
                      case measure => simp [intOf]; omega
                  · have Hno := Lib.hid (swIn_no (s := (y : Int)) hib)
                    clear hib
                    go_wp2_with fail
                    go_roundw
                    case rel => exact ⟨b + 1, by omega, by go_num, by rw [Hno.out]; exact Hp.out, hkb⟩
                    case measure => simp [intOf]; omega
                · obtain rfl : b = F.op.length := by omega
                  go_wp2_with fail
                  go_roundw
                  case rel => exact ⟨j + 1, by omega, by go_num, by rw [Hsw.out, ← List.append_assoc]; exact Hp.out, hkb⟩
                  case measure => simp [intOf]; omega
            · obtain rfl : j = k := by omega
              have Hno : Hid ((movesL F S).find? (lsB F tot) = none) := by
                show _ = _
                refine List.find?_eq_none.2 (fun T hT => ?_)
                have h3 := Hp.out T
                rw [swK_all HS.out (by rw [Hn.out]; omega)] at h3
                rw [h3 hT]; simp
              go_wp2_with fail
              first
                | go_end0
                | ((try simp only [Exit.inBlock, Exit.then]); refine bodyPost_ret (results_none rfl _ _ _) rfl ?_)
              refine ⟨rfl, ?_⟩
              rw [Hno.out]
              exact hkw.trans hkb
end Go.Proofs.Ytcekddpllpbkmaa

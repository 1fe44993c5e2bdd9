/- Marginal shares added to what stands there: the program. No condition. -/
import Derived.Test.YtkaammkanapkmaaGreatQAi
import Derived.Test.YtkaammkanapkmaaGreatQAh
import Derived.Test.YtkaammkanapkmaaGreatQAb
import Derived.StillTailTactics
namespace Go.Proofs.YtkaammkanapkmaaGreat
open Go.RowKit Go.Sort

theorem mapTo_set' {g : Nat → Int} {M a : Nat} {z : Int} : (mapTo g M).set a z = mapTo (upd g a z) M := by
  refine List.ext_getElem (by simp [mapTo]) (fun i h1 h2 => ?_)
  have hi : i < M := by simpa [mapTo] using h2
  rw [mapTo_get hi h2, List.getElem_set]
  by_cases e : a = i
  · subst e; rw [if_pos rfl, upd_at]
  · rw [if_neg e, mapTo_get hi, upd_ne (by omega)]
theorem mapTo_lget' {g : Nat → Int} {M a : Nat} (h : a < M) : lget (mapTo g M) a = g a := by
  rw [lget_at (by rw [mapTo_len]; exact h), mapTo_get h]
theorem mapTo_congr' {g h : Nat → Int} {M : Nat} (e : ∀ a, a < M → g a = h a) : mapTo g M = mapTo h M := by
  unfold mapTo
  exact List.map_congr_left (fun a ha => e a (List.mem_range.1 ha))
def amT (ct : Nat → Int) (t0 : Nat → Int) (O : List Int) (k j : Nat) : Int := t0 j + mgT ct O j k
theorem amT_zero (ct : Nat → Int) (t0 : Nat → Int) (O : List Int) : amT ct t0 O 0 = t0 := by funext j; unfold amT mgT; omega
theorem amT_step (ct : Nat → Int) (t0 : Nat → Int) (O : List Int) {k o : Nat} (hk : k < O.length) (ho : O[k] = (o : Int)) (j : Nat) : amT ct t0 O (k + 1) j = upd (amT ct t0 O k) o (amT ct t0 O k o + (ct (bagN (O.take (k + 1))) - ct (bagN (O.take k)))) j := by
  have e : O.getD k 0 = (o : Int) := by rw [← ho]; simp [List.getD, hk]
  unfold amT
  show t0 j + (mgT ct O j k + _) = _
  rw [e]
  by_cases h : j = o
  · subst h; rw [upd_at, if_pos rfl]; omega
  · rw [upd_ne h, if_neg (by omega)]; omega
theorem mgT_bd {ct : Nat → Int} {n : Nat} {O : List Int} (h : Ord n O) (hct : ∀ c, c < 2 ^ n → 0 ≤ ct c ∧ ct c ≤ 1386) (j : Nat) : ∀ t, t ≤ O.length → -(1386 * (t : Int)) ≤ mgT ct O j t ∧ mgT ct O j t ≤ 1386 * (t : Int)
  | 0, _ => by unfold mgT; omega
  | t + 1, ht => by
    have ih := mgT_bd h hct j t (by omega)
    have b1 := hct (bagN (O.take (t + 1))) (bagN_lt (fun y hy => h.rg y (List.mem_of_mem_take hy)))
    have b2 := hct (bagN (O.take t)) (bagN_lt (fun y hy => h.rg y (List.mem_of_mem_take hy)))
    unfold mgT
    split <;> omega
set_option maxRecDepth 100000 in
set_option maxHeartbeats 2000000 in
theorem addMarginal_any (ct : Nat → Int) (n : Nat) (hn7 : n ≤ 7) (hct : ∀ c, c < 2 ^ n → 0 ≤ ct c ∧ ct c ≤ 1386) (P : Nat) (hP : P = 2 ^ n) (A0 : Option Addr) (c0 : Nat) (A1 : Option Addr) (O : List Int) (m c1 : Nat) (g cap base : Nat) (t0 : Nat → Int) (w : World)
    (h0 : IntsAt w A0 (mapTo ct P)) (h1 : IntsAt w A1 O) (hm : O.length = m) (hO : Ord n O) (hto : ∀ j, -1000000000 ≤ t0 j ∧ t0 j ≤ 1000000000) (hown : Own w base (.slice (some ⟨g, 0, none⟩) n cap) (mapTo t0 n)) (hA0 : ∀ ad, A0 = some ad → ad.block ≠ g) (hA1 : ∀ ad, A1 = some ad → O ≠ [] → ad.block ≠ g) :
    Calls Tryz.prog 36 #[.slice A0 P c0, .slice A1 m c1, .slice (some ⟨g, 0, none⟩) n cap] w fun e w' => e = .returned (.tuple #[]) ∧ Own w' base (.slice (some ⟨g, 0, none⟩) n cap) (mapTo (amT ct t0 O m) n) ∧ Turn (fun i => i = g) w w' := by
  have Hm := Lib.hid hm
  have HO := Lib.hid hO
  have HP := Lib.hid hP
  have Hct := Lib.hid hct
  have Hto := Lib.hid hto
  have HA0 := Lib.hid hA0
  have HA1 := Lib.hid hA1
  have hm7 : m ≤ 7 := by have := hO.len; omega
  have hP7 : P ≤ 128 := by rw [hP]; exact Nat.pow_le_pow_right (by omega) hn7
  clear hm hO hP hct hto hA0 hA1
  go_enter Tryz.func36, Tryz.ntmps36
  go_wp2_with fail
  go_loopw [6, 12] (fun sv iv wr => ∃ k : Nat, k ≤ m ∧ iv = .int .i64 k ∧ sv = .int .u64 (bagN (O.take k)) ∧ Own wr base (.slice (some ⟨g, 0, none⟩) n cap) (mapTo (amT ct t0 O k) n) ∧ Turn (fun i => i = g) w wr) (fun _ iv _ => m - (intOf iv).toNat)
  case atStart => exact ⟨0, by omega, rfl, rfl, by rw [amT_zero]; exact hown, Turn.refl _ _⟩
  case round =>
    clear hown
    obtain ⟨k, hk, rfl, rfl, hown, htn⟩ := hrel
    have h1r := h1.turn htn (fun ad e hne hb => HA1.out ad e hne hb)
    by_cases hlt : k < m
    · have lx : k < O.length := by rw [Hm.out]; exact hlt
      obtain ⟨ad1, rfl, hck⟩ := h1r.at_ lx
      have hrg := HO.out.rg _ (List.getElem_mem lx)
      obtain ⟨o, ho⟩ : ∃ o : Nat, O[k] = (o : Int) := ⟨O[k].toNat, by omega⟩
      have Ho := Lib.hid ho
      rw [ho] at hck hrg
      have hon : o < n := by omega
      have hsb : bagN (O.take k) < 2 ^ n := bagN_lt (fun y hy => HO.out.rg y (List.mem_of_mem_take hy))
      have hnb : bagN (O.take (k + 1)) < 2 ^ n := bagN_lt (fun y hy => HO.out.rg y (List.mem_of_mem_take hy))
      obtain ⟨s, Hs⟩ : ∃ z, Hid (bagN (O.take k) = z) := ⟨_, Lib.hid rfl⟩
      obtain ⟨q, Hq⟩ : ∃ z, Hid (bagN (O.take (k + 1)) = z) := ⟨_, Lib.hid rfl⟩
      have Hbq : Hid (q = s ||| 2 ^ o) := by show _ = _; rw [← Hq.out, ← Hs.out, bag_next lx, ho]; rfl
      rw [Hs.out] at hsb ⊢
      rw [Hq.out] at hnb
      have hs128 : s < P := by rw [HP.out]; exact hsb
      have hq128 : q < P := by rw [HP.out]; exact hnb
      have hbs := Hct.out s hsb
      have hbq := Hct.out q hnb
      have hmb := mgT_bd HO.out Hct.out o k (by omega)
      have hto := Hto.out o
      have hp : 2 ^ o < 2 ^ 32 := Nat.pow_lt_pow_right (by omega) (by omega)
      have HSo := Lib.hid (show bits BinOp.or IntKind.u64 (s : Int) (IntKind.u64.wrap (2 ^ o)) = (q : Int) from by
        have e1 := u64_one_shl (o : Int) (by omega) (by omega)
        rw [Int.toNat_natCast] at e1
        rw [e1, u64_or_nat _ _ (by omega) (by omega), Hbq.out])
      obtain ⟨r1, r2, r3⟩ := hown.slotL (mapTo_len _ _) hon
      rw [mapTo_lget' hon] at r1
      obtain ⟨tv, Htv⟩ : ∃ z, Hid (amT ct t0 O k o = z) := ⟨_, Lib.hid rfl⟩
      have htb : -1000100000 ≤ tv ∧ tv ≤ 1000100000 := by rw [← Htv.out]; unfold amT; omega
      rw [Htv.out] at r1
      obtain ⟨cs, Hcs⟩ : ∃ z, Hid (ct s = z) := ⟨_, Lib.hid rfl⟩
      obtain ⟨cq, Hcq⟩ : ∃ z, Hid (ct q = z) := ⟨_, Lib.hid rfl⟩
      rw [Hcs.out] at hbs
      rw [Hcq.out] at hbq
      have h0r := h0.turn htn (fun ad e _ hb => HA0.out ad e hb)
      obtain ⟨ad0, rfl, hcs⟩ := h0r.at_ (k := s) (by rw [mapTo_len]; exact hs128)
      rw [mapTo_get hs128, Hcs.out] at hcs
      obtain ⟨ad0', e0, hcq⟩ := h0r.at_ (k := q) (by rw [mapTo_len]; exact hq128)
      obtain rfl : ad0 = ad0' := by simpa using e0
      rw [mapTo_get hq128, Hcq.out] at hcq
      have hst := r3 (tv + (cq - cs))
      have hw1 : IntKind.i64.wrap (cq - cs) = cq - cs := IntWalk.i64_in _ (by omega)
      have hw2 : IntKind.i64.wrap (tv + (cq - cs)) = tv + (cq - cs) := IntWalk.i64_in _ (by omega)
      have hw3 : wrap64 (cq - cs) = cq - cs := IntWalk.wrap64_in _ (by omega)
      have hw4 : wrap64 (tv + (cq - cs)) = tv + (cq - cs) := IntWalk.wrap64_in _ (by omega)
      have ad_o : (⟨g, 0, none⟩ : Addr).add o = ⟨g, o, none⟩ := add0 _ _
      have HN : Hid ((mapTo (amT ct t0 O k) n).set o (tv + (cq - cs)) = mapTo (amT ct t0 O (k + 1)) n) := by
        show _ = _
        rw [mapTo_set']
        refine mapTo_congr' (fun j _ => ?_)
        rw [amT_step ct t0 O lx Ho.out j, Hq.out, Hs.out, Hcq.out, Hcs.out, Htv.out]
      have HST := Lib.hid hst
      rw [HN.out] at HST
      have e8 : ((o : Int)).toNat = o := Int.toNat_natCast o
      have hsI : (s : Int) < (P : Int) := by omega
      have hqI : (q : Int) < (P : Int) := by omega
      have honI : (o : Int) < (n : Int) := by omega
      clear r3 hst e0 h0r h1r hown ho hp hsb hnb
      have HSq := HSo.out
      go_wp2_with fail
      go_still_tail 15, (by kernel_rfl)
      change wpList _ _ _ _ _ _
      go_wp2_with fail
      go_roundw
      case rel => exact ⟨k + 1, by omega, by go_num, by rw [Hq.out], HST.out.1.kp (Kp.refl _).drew, (htn.trans HST.out.2).trans (Turn.of_kp (Kp.refl _).drew)⟩
      case measure => simp [intOf]; omega
    · obtain rfl : k = m := by omega
      go_wp2_with fail
      go_end0
      exact ⟨rfl, hown, htn⟩
end Go.Proofs.YtkaammkanapkmaaGreat

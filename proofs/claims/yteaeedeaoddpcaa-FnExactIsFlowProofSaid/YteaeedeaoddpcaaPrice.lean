/- Flow prices: plain words; the reference's walks. No condition. -/
import Derived.Test.YteaeedeaoddpcaaFlow4
namespace Go.Proofs.Yteaeedeaoddpcaa
open Go.RowKit Go.Sort

def minTo (g : Nat → Int) : Nat → Int
  | 0 => g 0
  | k + 1 => min (minTo g k) (g (k + 1))
theorem le_minTo {g : Nat → Int} {x : Int} : ∀ k, x ≤ minTo g k ↔ ∀ i, i ≤ k → x ≤ g i
  | 0 => ⟨fun h i hi => by obtain rfl : i = 0 := by omega
                           exact h, fun h => h 0 (Nat.le_refl _)⟩
  | k + 1 => by
    have h1 := le_minTo (g := g) (x := x) k
    show x ≤ min (minTo g k) (g (k + 1)) ↔ _
    rw [show (x ≤ min (minTo g k) (g (k + 1))) ↔ x ≤ minTo g k ∧ x ≤ g (k + 1) from by omega, h1]
    constructor
    · rintro ⟨h2, h3⟩ i hi
      by_cases e : i = k + 1
      · subst e; exact h3
      · exact h2 i (by omega)
    · intro h; exact ⟨fun i hi => h i (by omega), h _ (Nat.le_refl _)⟩
theorem minTo_bd {g : Nat → Int} {M : Int} {K : Nat} (h : ∀ i, i ≤ K → 0 ≤ g i ∧ g i ≤ M) : ∀ k, k ≤ K → 0 ≤ minTo g k ∧ minTo g k ≤ M
  | 0, hk => h 0 hk
  | k + 1, hk => by
    have h1 := minTo_bd h k (by omega)
    have h2 := h (k + 1) hk
    show 0 ≤ min (minTo g k) (g (k + 1)) ∧ min (minTo g k) (g (k + 1)) ≤ M
    omega
/-- A site's length and its price, and the least of these. -/
def valF (F : Fld) (ws : List Int) (j : Nat) (s : Int) : Int := dAt F j s + lget ws s.toNat
def offG (F : Fld) (S ws : List Int) (j i : Nat) : Int := valF F ws j (S.getD i 0)
def offF (F : Fld) (S ws : List Int) (j : Nat) : Int := minTo (offG F S ws j) (S.length - 1)
theorem offG_at {F : Fld} {S ws : List Int} {j i : Nat} (h : i < S.length) : offG F S ws j i = valF F ws j S[i] := by simp [offG, List.getD, h]
theorem le_off {F : Fld} {S ws : List Int} {j : Nat} {x : Int} (hne : S ≠ []) : x ≤ offF F S ws j ↔ ∀ s ∈ S, x ≤ valF F ws j s := by
  have hp : 0 < S.length := List.length_pos_iff.2 hne
  unfold offF
  rw [le_minTo]
  constructor
  · intro h s hs
    obtain ⟨i, hi, rfl⟩ := List.mem_iff_getElem.1 hs
    rw [← offG_at hi]; exact h i (by omega)
  · intro h i hi
    have hi2 : i < S.length := by omega
    rw [offG_at hi2]; exact h _ (List.getElem_mem hi2)
theorem valF_bd {F : Fld} {ws : List Int} {j : Nat} {s : Int} (hg : goodF F = true) (hj : j < F.di.length) (hw : ∀ x ∈ ws, 0 ≤ x ∧ x ≤ 999) : 0 ≤ valF F ws j s ∧ valF F ws j s ≤ 1098 := by
  have h1 := dAt_bd hg hj s
  have h2 := lget_all (M := 999) (by omega) hw s.toNat
  unfold valF; omega
def prW (S ws : List Int) (k : Nat) : Bool := (List.range k).all fun a => !(decide (0 < lget ws a) && !flHas S a)
def prU (F : Fld) (S ws us : List Int) (k : Nat) : Bool := (List.range k).all fun j => inB (lget us j) (-999) 999 && decide (lget us j ≤ offF F S ws j)
def prB (F : Fld) (S us ws : List Int) : Bool := decide (us.length = F.di.length) && (numsB ws F.op.length 999 && (prW S ws ws.length && prU F S ws us us.length))
theorem prW_succ {S ws : List Int} {k : Nat} : prW S ws (k + 1) = (prW S ws k && !(decide (0 < lget ws k) && !flHas S k)) := by
  unfold prW; rw [List.range_succ, List.all_append]; simp
theorem prU_succ {F : Fld} {S ws us : List Int} {k : Nat} : prU F S ws us (k + 1) = (prU F S ws us k && (inB (lget us k) (-999) 999 && decide (lget us k ≤ offF F S ws k))) := by
  unfold prU; rw [List.range_succ, List.all_append]; simp
theorem prW_no {S ws : List Int} {k K : Nat} (hk : k < K) (h1 : 0 < lget ws k) (h2 : flHas S k = false) : prW S ws K = false := by
  unfold prW
  rw [List.all_eq_false]
  exact ⟨k, List.mem_range.2 hk, by simp [h1, h2]⟩
theorem prU_no {F : Fld} {S ws us : List Int} {k K : Nat} (hk : k < K) (h : (inB (lget us k) (-999) 999 && decide (lget us k ≤ offF F S ws k)) = false) : prU F S ws us K = false := by
  unfold prU
  rw [List.all_eq_false]
  exact ⟨k, List.mem_range.2 hk, by simp [h]⟩
theorem prW_iff {S ws : List Int} {k : Nat} : prW S ws k = true ↔ ∀ a, a < k → 0 < lget ws a → flHas S a = true := by
  unfold prW
  rw [List.all_eq_true]
  constructor
  · intro h a ha hp
    have := h a (List.mem_range.2 ha)
    simpa [hp] using this
  · intro h a ha
    have := h a (List.mem_range.1 ha)
    by_cases hp : 0 < lget ws a
    · simp [hp, this hp]
    · simp [hp]
theorem prU_iff {F : Fld} {S ws us : List Int} {k : Nat} : prU F S ws us k = true ↔ ∀ j, j < k → (-999 ≤ lget us j ∧ lget us j ≤ 999) ∧ lget us j ≤ offF F S ws j := by
  unfold prU
  rw [List.all_eq_true]
  constructor
  · intro h a ha
    have := h a (List.mem_range.2 ha)
    rw [Bool.and_eq_true, inB_iff, decide_eq_true_eq] at this; exact this
  · intro h a ha
    rw [Bool.and_eq_true, inB_iff, decide_eq_true_eq]; exact h a (List.mem_range.1 ha)
theorem prB_iff {F : Fld} {S us ws : List Int} : prB F S us ws = true ↔ us.length = F.di.length ∧ ((∀ x ∈ ws, 0 ≤ x ∧ x ≤ 999) ∧ ws.length = F.op.length) ∧ (∀ a, a < ws.length → 0 < lget ws a → flHas S a = true) ∧ ∀ j, j < us.length → (-999 ≤ lget us j ∧ lget us j ≤ 999) ∧ lget us j ≤ offF F S ws j := by
  unfold prB
  rw [Bool.and_eq_true, Bool.and_eq_true, Bool.and_eq_true, decide_eq_true_eq, numsB_iff, prW_iff, prU_iff]
set_option maxHeartbeats 400000 in
theorem l1Least_any (a b : Int) (w : World) :
    Calls Try.prog 71 #[.int .i64 a, .int .i64 b] w fun e w' => e = .returned (.int .i64 (min a b)) ∧ w = w' := by
  go_enter Try.func71, Try.ntmps71
  go_wp2
  all_goals go_ret
  all_goals refine ⟨ret_int ?_, rfl⟩
  all_goals omega
theorem lgetCell {w : World} {ad : Addr} {xs : List Int} {a : Int} (h : IntsAt w (some ad) xs) (h1 : a.toNat < xs.length) : w.cell? (ad.add a.toNat) = some (.int .i64 (lget xs a.toNat)) := by
  rw [h.some_ h1, lget_at h1]
set_option maxRecDepth 100000 in
set_option maxHeartbeats 2000000 in
theorem l7Offer_any (f : Value) (F : Fld) (A3 : Option Addr) (S : List Int) (n3 c3 : Nat) (A5 : Option Addr) (ws : List Int) (n5 c5 : Nat) (j : Nat) (w : World) (hf : FldAt w f F) (h3 : IntsAt w A3 S) (hn3 : S.length = n3) (h5 : IntsAt w A5 ws) (hn5 : ws.length = n5) (ho : openedB F S = true) (hw : ∀ x ∈ ws, 0 ≤ x ∧ x ≤ 999) (hl : ws.length = F.op.length) (hj : j < F.di.length) :
    Calls Try.prog 50 #[f, .slice A3 n3 c3, .slice A5 n5 c5, .int .i64 j] w fun e w' => e = .returned (.int .i64 (offF F S ws j)) ∧ Kp w w' := by
  obtain ⟨A, c, B, d, rfl, hA, hB⟩ := hf
  have hk0 : Kp w (w.alloc (.cells #[.slice A F.op.length c, .slice B F.di.length d] 30)) := (Kp.refl w).alloc _
  obtain ⟨d0, d1⟩ := box2 w (.slice A F.op.length c) (.slice B F.di.length d) 30
  have hFA := FldAt.kp (show FldAt w (.agg #[.slice A F.op.length c, .slice B F.di.length d]) F from ⟨A, c, B, d, rfl, hA, hB⟩) hk0
  replace h3 := h3.kp hk0
  replace h5 := h5.kp hk0
  replace hB := hB.kp hk0
  have HO := Lib.hid (openedB_parts ho)
  have HS := Lib.hid (set_mem HO.out.2.1)
  have hp : 0 < S.length := List.length_pos_iff.2 HO.out.2.2
  have hop := (goodF_iff.1 HO.out.1).1.1
  have hs7 : n3 ≤ 9223372036854775807 := hn3 ▸ h3.1
  have Hn3 := Lib.hid hn3; have Hn5 := Lib.hid hn5; have Hl := Lib.hid hl
  have HV := Lib.hid (fun s => valF_bd (s := s) HO.out.1 hj hw)
  have HG := Lib.hid (fun k (hk : k < S.length) => minTo_bd (g := offG F S ws j) (K := S.length) (M := 1098) (fun i _ => HV.out _) k (Nat.le_of_lt hk))
  obtain ⟨bd, A4, c4, hBe, hcr, hrr⟩ := hB.at_ hj
  have HBe := Lib.hid hBe
  clear hBe
  have hrl := goodRow HO.out.1 hj
  obtain ⟨rd, hAe⟩ : ∃ rd, A4 = some rd := by obtain ⟨rd, e, _⟩ := hrr.at_ (k := 0) (by omega); exact ⟨rd, e⟩
  subst hAe
  obtain ⟨wd, hWe⟩ : ∃ wd, A5 = some wd := by obtain ⟨wd, e, _⟩ := h5.at_ (k := 0) (by omega); exact ⟨wd, e⟩
  subst hWe
  have p3 : 0 < n3 := by omega
  have hOf : Hid (offF F S ws j = minTo (offG F S ws j) (n3 - 1)) := by show _ = _; rw [offF, hn3]
  have Hrl := Lib.hid hrl
  clear hA hn3 hn5 ho hw hl hrl hop
  obtain ⟨s0, hSe, hc0⟩ := h3.at_ hp
  obtain ⟨x1, x2⟩ := HS.out _ (List.getElem_mem hp)
  have y1 : S[0].toNat < F.di[j].length := by rw [Hrl.out]; omega
  have y2 : S[0].toNat < ws.length := by rw [Hl.out]; omega
  have y3 : S[0].toNat < n5 := by rw [← Hn5.out]; exact y2
  have hc1 := dCell hj hrr x1 (by omega)
  have hc2 := lgetCell h5 y2
  obtain ⟨v1, v2⟩ := HV.out S[0]
  obtain ⟨v3, v4⟩ := dAt_bd HO.out.1 hj S[0]
  have Hg0 : Hid (minTo (offG F S ws j) 0 = dAt F j S[0] + lget ws S[0].toNat) := by show _ = _; show offG F S ws j 0 = _; rw [offG_at hp]; rfl
  rw [show valF F ws j S[0] = dAt F j S[0] + lget ws S[0].toNat from rfl] at v1 v2
  subst hSe
  rw [show s0.add 0 = s0 from rfl] at hc0
  generalize hss : S[0] = z at *
  clear hss
  go_enter Try.func50, Try.ntmps50
  go_wp2_with fail
  have hsz : Hid ((w.alloc (.cells #[.slice A F.op.length c, .slice B F.di.length d] 30)).heap.size = w.heap.size + 1) := by show _ = _; simp
  generalize w.alloc (.cells #[.slice A F.op.length c, .slice B F.di.length d] 30) = wb at *
  have hkb : Kp wb wb := Kp.refl _
  have hkw := hk0
  have hBe := HBe.out
  subst hBe
  have q_d0 := hkb.get d0
  have q_d1 := hkb.get d1
  go_wp2_with fail
  go_quiet (fail)
  go_wp2_with fail
  have hkr := hkb.drewN nq
  go_loopw [9, 10] (fun bv iv wr => ∃ i k : Nat, Hid (i = k + 1) ∧ i ≤ n3 ∧ iv = .int .i64 i ∧ bv = .int .i64 (minTo (offG F S ws j) k) ∧ Kp wb wr) (fun _ iv _ => n3 - (intOf iv).toNat)
  case atStart => exact ⟨1, 0, rfl, p3, rfl, by rw [Hg0.out], hkr⟩
  case round =>
    clear hkr
    obtain ⟨i, k, Hik, hi, rfl, rfl, hkr⟩ := hrel
    obtain ⟨v5, v6⟩ := HG.out k (by have := Hik.out; rw [Hn3.out]; omega)
    by_cases hlt : i < n3
    · have lx : i < S.length := by rw [Hn3.out]; exact hlt
      have hc0 := h3.some_ lx
      obtain ⟨x1, x2⟩ := HS.out _ (List.getElem_mem lx)
      have y1 : S[i].toNat < F.di[j].length := by rw [Hrl.out]; omega
      have y2 : S[i].toNat < ws.length := by rw [Hl.out]; omega
      have y3 : S[i].toNat < n5 := by rw [← Hn5.out]; exact y2
      have hc1 := dCell hj hrr x1 (by omega)
      have hc2 := lgetCell h5 y2
      obtain ⟨v1, v2⟩ := HV.out S[i]
      obtain ⟨v3, v4⟩ := dAt_bd HO.out.1 hj S[i]
      have Hgk : Hid (minTo (offG F S ws j) i = min (minTo (offG F S ws j) k) (dAt F j S[i] + lget ws S[i].toNat)) := by
        show _ = _
        have e := Hik.out
        subst e
        show min (minTo (offG F S ws j) k) (offG F S ws j (k + 1)) = _
        rw [offG_at lx]; rfl
      rw [show valF F ws j S[i] = dAt F j S[i] + lget ws S[i].toNat from rfl] at v1 v2
      generalize hss : S[i] = z at *
      clear hss
      generalize minTo (offG F S ws j) k = q at *
      have CL := Lib.hid (fun (wx : World) => l1Least_any q (dAt F j z + lget ws z.toNat) wx)
      have q0 := hkr.get d0
      have q1 := hkr.get d1
      have q2 := hkr.get hcr
      have q3 := hkr.get hc0
      have q4 := hkr.get hc1
      have q5 := hkr.get hc2
      go_wp2_with fail
      go_quiet ((go_at_call 71; exact Calls.same_quiet (CL.out _)))
      go_wp2_with fail
      go_roundw
      case rel => exact ⟨i + 1, i, rfl, by omega, by go_num, by rw [Hgk.out], hkr.drewN _⟩
      case measure => simp [intOf]; omega
    · have e : n3 - 1 = k := by have := Hik.out; omega
      rw [e] at hOf
      go_wp2_with fail
      go_ret
      exact ⟨ret_int hOf.out.symm, hkw.trans hkr⟩
end Go.Proofs.Yteaeedeaoddpcaa

/- Openings as the clients come: plain words; the reference's wishes, first site and next site. No condition. -/
import Derived.Test.YtghpkjllcapbpaaPay
import Derived.Test.YtghpkjllcapbpaaGrd
import Derived.Test.YtghpkjllcapbpaaPut3
namespace Go.Proofs.Ytghpkjllcapbpaa
open Go.RowKit Go.Sort

def wT (F : Fld) (S : List Int) (a j : Nat) : Int := max 0 (nearF F j S - dAt F j (a : Int))
def wishT (F : Fld) (S : List Int) (a k : Nat) : Int := sumTo (wT F S a) k
def wishF (F : Fld) (m : Nat) (S : List Int) (a : Nat) : Int := wishT F S a m - opAt F (a : Int)
def outB (S : List Int) (a : Nat) : Bool := !(S.any fun x => x == (a : Int))
/-- The site that is wanted next when m clients have come, and by how much its wishes are above its cost. -/
def wantT (F : Fld) (m : Nat) (S : List Int) (k : Nat) : Int × Int := pickTo (outB S) (wishF F m S) k
def wantF (F : Fld) (m : Nat) (S : List Int) : Int := (wantT F m S F.op.length).1
def cstF (F : Fld) (i a : Nat) : Int := opAt F (a : Int) + dAt F i (a : Int)
def firstT (F : Fld) (i : Nat) : Nat → Nat
  | 0 => 0
  | a + 1 => if cstF F i a < cstF F i (firstT F i a) then a else firstT F i a
def firstF (F : Fld) (i : Nat) : Nat := firstT F i F.op.length
theorem first_yes {F : Fld} {i a : Nat} (h : cstF F i a < cstF F i (firstT F i a)) : firstT F i (a + 1) = a := if_pos h
theorem first_no {F : Fld} {i a : Nat} (h : ¬ cstF F i a < cstF F i (firstT F i a)) : firstT F i (a + 1) = firstT F i a := if_neg h
theorem first_one (F : Fld) (i : Nat) : firstT F i 1 = 0 := first_no (by show ¬ cstF F i 0 < cstF F i 0; omega)
theorem first_lt (F : Fld) (i : Nat) : ∀ k, 1 ≤ k → firstT F i k < k
  | 0, h => absurd h (by omega)
  | 1, _ => by rw [first_one]; omega
  | k + 2, _ => by
    have h1 := first_lt F i (k + 1) (by omega)
    by_cases h : cstF F i (k + 1) < cstF F i (firstT F i (k + 1))
    · rw [first_yes h]; omega
    · rw [first_no h]; omega
theorem wT_bd {F : Fld} (hg : goodF F = true) (S : List Int) (a j : Nat) (hj : j < F.di.length) : 0 ≤ wT F S a j ∧ wT F S a j ≤ 99 := by
  have h1 := nearF_bd hg S j
  have h2 := dAt_bd hg hj (a : Int)
  unfold wT; omega
theorem wishT_succ (F : Fld) (S : List Int) (a k : Nat) : wishT F S a (k + 1) = wishT F S a k + wT F S a k := sumTo_succ _ _
theorem wishT_bd {F : Fld} (hg : goodF F = true) (S : List Int) (a : Nat) : ∀ k : Nat, k ≤ F.di.length → 0 ≤ wishT F S a k ∧ wishT F S a k ≤ k * 99
  | 0, _ => by simp [wishT, sumTo_zero]
  | k + 1, hk => by
    have h1 := wishT_bd hg S a k (by omega)
    have h2 := wT_bd hg S a k (by omega)
    rw [wishT_succ]; omega
theorem want_yes {F : Fld} {m : Nat} {S : List Int} {a : Nat} (h1 : (S.any fun x => x == (a : Int)) = false) (h2 : (wantT F m S a).2 < wishF F m S a) : wantT F m S (a + 1) = ((a : Int), wishF F m S a) := pick_yes (by simp [outB, h1]) h2
theorem want_in {F : Fld} {m : Nat} {S : List Int} {a : Nat} (h1 : (S.any fun x => x == (a : Int)) = true) : wantT F m S (a + 1) = wantT F m S a := pick_no (by simp [outB, h1])
theorem want_less {F : Fld} {m : Nat} {S : List Int} {a : Nat} (h2 : ¬ (wantT F m S a).2 < wishF F m S a) : wantT F m S (a + 1) = wantT F m S a := pick_less h2
theorem want_new {F : Fld} {m : Nat} {S : List Int} (h : ¬ wantF F m S < 0) : wantF F m S ∉ S ∧ wantF F m S < F.op.length := by
  rcases pick_inv (outB S) (wishF F m S) F.op.length with e | ⟨a, h1, h2, _, e⟩
  · refine absurd ?_ h
    show (pickTo _ _ _).1 < 0
    rw [e]; simp
  · show (pickTo _ _ _).1 ∉ S ∧ (pickTo _ _ _).1 < _
    rw [e]
    refine ⟨fun hm => ?_, by simpa using h1⟩
    have h3 : (S.any fun x => x == (a : Int)) = true := List.any_eq_true.2 ⟨_, hm, by simp⟩
    simp [outB, h3] at h2
/-- As long as a site is wanted it is opened (at most k times). -/
def wRun (F : Fld) (m : Nat) : Nat → List Int → List Int → List Int × List Int
  | 0, row, S => (row, S)
  | k + 1, row, S => if wantF F m S < 0 then (row, S) else wRun F m k (row ++ [wantF F m S]) (putL S (wantF F m S))
theorem wRun_stop {F : Fld} {m k : Nat} {row S : List Int} (h : wantF F m S < 0) : wRun F m k row S = (row, S) := by
  cases k with
  | zero => rfl
  | succ k => exact if_pos h
theorem wRun_go {F : Fld} {m k : Nat} {row S : List Int} (h : ¬ wantF F m S < 0) : wRun F m (k + 1) row S = wRun F m k (row ++ [wantF F m S]) (putL S (wantF F m S)) := if_neg h
/-- The sites that are opened with client i, and all that are open then. -/
def onC (F : Fld) (i : Nat) (S : List Int) : List Int × List Int := if S = [] then wRun F (i + 1) F.op.length [(firstF F i : Int)] [(firstF F i : Int)] else wRun F (i + 1) F.op.length [] S
def onS (F : Fld) : Nat → List (List Int) × List Int
  | 0 => ([], [])
  | i + 1 => ((onS F i).1 ++ [(onC F i (onS F i).2).1], (onC F i (onS F i).2).2)
def onN (F : Fld) (i : Nat) : Int := nearF F i (onS F (i + 1)).2
def onL (F : Fld) (k : Nat) : Int := sumTo (onN F) k
theorem setB_one {F : Fld} (hg : goodF F = true) (i : Nat) : setB F [(firstF F i : Int)] = true := by
  have h := first_lt F i F.op.length (goodF_iff.1 hg).1.1
  refine ris_iff.2 ⟨by simp, fun x hx => ?_⟩
  have : x = (firstF F i : Int) := by simpa using hx
  subst this
  unfold firstF at *
  omega
theorem wRun_inv {F : Fld} {m : Nat} : ∀ k row S, setB F S = true → 0 ≤ k → (setB F (wRun F m k row S).2 = true ∧ (S ≠ [] → (wRun F m k row S).2 ≠ []))
  | 0, row, S, h, _ => ⟨h, fun h => h⟩
  | k + 1, row, S, h, _ => by
    by_cases hw : wantF F m S < 0
    · rw [wRun_stop hw]; exact ⟨h, fun h => h⟩
    · rw [wRun_go hw]
      have hn := want_new hw
      have h2 := wRun_inv (F := F) (m := m) k (row ++ [wantF F m S]) (putL S (wantF F m S)) (setB_put h (by omega) hn.2) (by omega)
      refine ⟨h2.1, fun _ => h2.2 (fun e => ?_)⟩
      have := (mem_putL (S := S) (a := wantF F m S) (x := wantF F m S)).2 (.inr rfl)
      rw [e] at this; cases this
theorem onC_set {F : Fld} (hg : goodF F = true) (i : Nat) {S : List Int} (h : setB F S = true) : setB F (onC F i S).2 = true ∧ (onC F i S).2 ≠ [] := by
  unfold onC
  by_cases he : S = []
  · rw [if_pos he]
    have h1 := wRun_inv (m := i + 1) F.op.length [(firstF F i : Int)] [(firstF F i : Int)] (setB_one hg i) (by omega)
    exact ⟨h1.1, h1.2 (by simp)⟩
  · rw [if_neg he]
    have h1 := wRun_inv (m := i + 1) F.op.length [] S h (by omega)
    exact ⟨h1.1, h1.2 he⟩
theorem onS_set {F : Fld} (hg : goodF F = true) : ∀ i, setB F (onS F i).2 = true
  | 0 => rfl
  | i + 1 => (onC_set hg i (onS_set hg i)).1
theorem onS_len (F : Fld) : ∀ i, (onS F i).1.length = i
  | 0 => rfl
  | i + 1 => by show ((onS F i).1 ++ [_]).length = _; rw [List.length_append, onS_len F i]; rfl
theorem onL_succ (F : Fld) (k : Nat) : onL F (k + 1) = onL F k + onN F k := sumTo_succ _ _
theorem onL_bd {F : Fld} (hg : goodF F = true) : ∀ k : Nat, 0 ≤ onL F k ∧ onL F k ≤ k * 99 := fun k => sumTo_bd (fun i => nearF_bd hg _ i) k
set_option maxRecDepth 100000 in
set_option maxHeartbeats 2000000 in
theorem l10Wishes_any (f : Value) (F : Fld) (m : Nat) (A0 : Option Addr) (S : List Int) (n c0 : Nat) (a : Nat) (w : World) (hf : FldAt w f F) (hS : IntsAt w A0 S) (hn : S.length = n) (hg : goodF F = true) (hs : setB F S = true) (hne : S ≠ []) (hm : m ≤ F.di.length) (ha : a < F.op.length) :
    Calls Try.prog 93 #[f, .int .i64 m, .slice A0 n c0, .int .i64 a] w fun e w' => e = .returned (.int .i64 (wishT F S a m)) ∧ Kp w w' := by
  obtain ⟨A, c, B, d, rfl, hA, hB⟩ := hf
  have hk0 : Kp w (w.alloc (.cells #[.slice A F.op.length c, .slice B F.di.length d] 54)) := (Kp.refl w).alloc _
  obtain ⟨d0, d1⟩ := box2 w (.slice A F.op.length c) (.slice B F.di.length d) 54
  have hFA := FldAt.kp (show FldAt w (.agg #[.slice A F.op.length c, .slice B F.di.length d]) F from ⟨A, c, B, d, rfl, hA, hB⟩) hk0
  replace hS := hS.kp hk0
  replace hB := hB.kp hk0
  have HG := Lib.hid hg; have HS := Lib.hid hs; have HE := Lib.hid hne; have Hn := Lib.hid hn
  have h7d := (goodF_iff.1 hg).2.2.1
  have HW := Lib.hid (wishT_bd hg S a)
  clear hA hg hs hne hn
  go_enter Try.func93, Try.ntmps93
  go_wp2_with fail
  have hsz : Hid ((w.alloc (.cells #[.slice A F.op.length c, .slice B F.di.length d] 54)).heap.size = w.heap.size + 1) := by show _ = _; simp
  generalize w.alloc (.cells #[.slice A F.op.length c, .slice B F.di.length d] 54) = wb at *
  have hkb : Kp wb wb := Kp.refl _
  have hkw := hk0
  have q_d0 := hkb.get d0
  have q_d1 := hkb.get d1
  go_wp2_with fail
  go_loopw [9, 10] (fun sv iv wr => ∃ k : Nat, k ≤ m ∧ iv = .int .i64 k ∧ sv = .int .i64 (wishT F S a k) ∧ Kp wb wr) (fun _ iv _ => m - (intOf iv).toNat)
  case atStart => exact ⟨0, by omega, rfl, rfl, hkb⟩
  case round =>
    clear hkb
    obtain ⟨k, hk, rfl, rfl, hkb⟩ := hrel
    obtain ⟨p1, p2⟩ := HW.out k (by omega)
    by_cases hlt : k < m
    · have ld : k < F.di.length := by omega
      obtain ⟨bd, A4, c4, hBe, hcr, hrr⟩ := hB.at_ ld
      have hrl := goodRow HG.out ld
      have lr : a < F.di[k].length := by rw [hrl]; exact ha
      obtain ⟨rd, rfl, hrc⟩ := hrr.at_ lr
      rw [show F.di[k][a] = dAt F k (a : Int) from by simp [dAt, List.getD, ld, lr]] at hrc
      have Hsu := Lib.hid (wishT_succ F S a k)
      have hwt : Hid (wT F S a k = max (nearF F k S - dAt F k (a : Int)) 0) := by show _ = _; unfold wT; omega
      obtain ⟨n1, n2⟩ := nearF_bd HG.out S k
      obtain ⟨n3, n4⟩ := dAt_bd HG.out ld (a : Int)
      have C1 := Lib.hid (fun (wx : World) (hx : Kp wb wx) => l2Nearest_any _ F k A0 S n c0 wx (hFA.kp hx) (hS.kp hx) Hn.out HG.out HS.out HE.out ld)
      generalize nearF F k S = p at *
      generalize dAt F k (a : Int) = q at *
      have C2 := Lib.hid (fun (wx : World) => l1Most_any (p - q) 0 wx)
      have hwr : IntKind.i64.wrap (p - q) = p - q := IntWalk.i64_in _ (by omega)
      have hwr2 : IntKind.i64.wrap (wishT F S a k + max (p - q) 0) = wishT F S a k + max (p - q) 0 := IntWalk.i64_in _ (by omega)
      subst hBe
      clear hrl
      clear q_d0 q_d1
      have q_d0 := hkb.get d0
      have q_d1 := hkb.get d1
      have q_hcr := hkb.get hcr
      have q_hrc := hkb.get hrc
      have tok1 : True := trivial
      go_wp2_with fail
      go_region_held3 (fun w' => w'.cell? ⟨w.heap.size, 0, none⟩ = some (.slice A F.op.length c) ∧ w'.cell? ⟨w.heap.size, 1, none⟩ = some (.slice (some bd) F.di.length d) ∧ w'.cell? (bd.add k) = some (.slice (some rd) F.di[k].length c4) ∧ w'.cell? (rd.add a) = some (.int .i64 q) ∧ Kp wb w')
        (first | (refine keepc4 d0 d1 hcr hrc ?_; exact (by repeat (first | with_reducible assumption | with_reducible exact Kp.refl _ | with_reducible refine Kp.drew ?_ | with_reducible refine Kp.alloc ?_ _ | with_reducible refine Kp.drewN ?_ _))) | fail)
        (first
          | (have _t := tok1; go_at_call 86; with_reducible refine Calls.mono (C1.out _ (by repeat (first | with_reducible assumption | with_reducible exact Kp.refl _ | with_reducible refine Kp.drew ?_ | with_reducible refine Kp.alloc ?_ _ | with_reducible refine Kp.drewN ?_ _))) ?_; rintro e wr1 ⟨rfl, hka⟩; have hr1 : Kp wb wr1 := Kp.trans (by repeat (first | with_reducible assumption | with_reducible exact Kp.refl _ | with_reducible refine Kp.drew ?_ | with_reducible refine Kp.alloc ?_ _ | with_reducible refine Kp.drewN ?_ _)) hka; have tok2 : True := trivial; clear tok1 _t)
          | (have _t := tok2; go_at_call 96; with_reducible refine Calls.mono (C2.out _) ?_; rintro e wr2 ⟨rfl, hw⟩; obtain rfl := hw; have tok3 : True := trivial; clear tok2 _t)
          | fail)
      go_wp2_with fail
      go_roundw
      case rel => exact ⟨k + 1, by omega, by go_num, by rw [Hsu.out, hwt.out] <;> go_num, hr1⟩
      case measure => simp [intOf]; omega
    · obtain rfl : k = m := by omega
      clear q_d0 q_d1
      have q_d0 := hkb.get d0
      have q_d1 := hkb.get d1
      go_wp2_with fail
      go_ret
      exact ⟨rfl, hkw.trans hkb⟩
end Go.Proofs.Ytghpkjllcapbpaa

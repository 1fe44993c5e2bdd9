/- BestLeader: reference and program. No condition. -/
import Derived.Test.YtblebedejddefaaGreatQAl
namespace Go.Proofs.YtblebedejddefaaGreat
open Go.RowKit Go.Sort

def lostF (F : Fld) (k : Int) (S : List Int) : Int := ((takenTo F S (folF F S k) F.di.length).length : Int)
def leadV (F : Fld) (k : Int) (S : List Int) : Int := if S = [] then 1000 else lostF F k S
def lenP (m : Int) (S : List Int) : Bool := decide ((S.length : Int) = m)
def leadF (F : Fld) (m k : Int) : List Int := bestL (leadV F k) ((setsL F.op.length).filter (lenP m))
def leadOk (F : Fld) (m k : Int) : Bool := goodF F && inB m 1 (F.op.length : Int) && inB k 1 ((F.op.length : Int) - m)
def leadL (F : Fld) (m k : Int) : List Int := if leadOk F m k = true then leadF F m k else []
def leadM (F : Fld) (m k : Int) : Int := if leadOk F m k = true then leadV F k (leadF F m k) else 0
theorem leadL_yes {F : Fld} {m k : Int} (h : leadOk F m k = true) : leadL F m k = leadF F m k := if_pos h
theorem leadL_no {F : Fld} {m k : Int} (h : leadOk F m k = false) : leadL F m k = [] := if_neg (by simp [h])
theorem leadM_yes {F : Fld} {m k : Int} (h : leadOk F m k = true) : leadM F m k = leadV F k (leadF F m k) := if_pos h
theorem leadM_no {F : Fld} {m k : Int} (h : leadOk F m k = false) : leadM F m k = 0 := if_neg (by simp [h])
theorem leadV_nil (F : Fld) (k : Int) : leadV F k [] = 1000 := if_pos rfl
theorem leadV_not {F : Fld} {k : Int} {S : List Int} (h : S ≠ []) : leadV F k S = lostF F k S := if_neg h
theorem lost_bd (F : Fld) (k : Int) (S : List Int) : 0 ≤ lostF F k S ∧ lostF F k S ≤ F.di.length := by
  have := takenTo_len F S (folF F S k) F.di.length
  unfold lostF
  omega
theorem lead_less {F : Fld} {k : Int} {S : List Int} (hd : F.di.length ≤ 7) (h : S ≠ []) : leadV F k S < leadV F k [] := by
  rw [leadV_nil, leadV_not h]
  have := lost_bd F k S
  omega
theorem lenP_fp (m : Int) : lenP m = fp [] m := by
  funext S
  have : meetB [] S = false := by
    unfold meetB
    rw [List.any_eq_false]
    intro x _
    simp
  unfold lenP fp
  rw [this]; simp
theorem leadOk_parts {F : Fld} {m k : Int} (h : leadOk F m k = true) : goodF F = true ∧ (1 ≤ m ∧ m ≤ (F.op.length : Int)) ∧ 1 ≤ k ∧ k ≤ (F.op.length : Int) - m := by
  simp only [leadOk, inB, Bool.and_eq_true, decide_eq_true_eq] at h
  exact ⟨h.1.1, h.1.2, h.2⟩
theorem lead_pos {n : Nat} {m : Int} (h1 : 1 ≤ m) (h2 : m ≤ (n : Int)) : 0 < ((setsL n).filter (lenP m)).length := by
  rw [lenP_fp]
  exact fol_pos h1 (by simpa using h2)
theorem lead_mem {F : Fld} {m k : Int} (h1 : 1 ≤ m) (h2 : m ≤ (F.op.length : Int)) : leadF F m k ∈ (setsL F.op.length).filter (lenP m) := bestL_mem (lead_pos h1 h2)
theorem lead_set {F : Fld} {m k : Int} (h1 : 1 ≤ m) (h2 : m ≤ (F.op.length : Int)) : (leadF F m k ≠ [] ∧ setB F (leadF F m k) = true) ∧ ((leadF F m k).length : Int) = m := by
  have h := List.mem_filter.1 (lead_mem (k := k) h1 h2)
  exact ⟨mem_setsL.1 h.1, of_decide_eq_true h.2⟩
theorem leadL_len (F : Fld) (m k : Int) : (leadL F m k).length ≤ 1048576 := by
  by_cases h : leadOk F m k = true
  · obtain ⟨h0, h1, h2⟩ := leadOk_parts h
    rw [leadL_yes h]
    have h3 := risB_len (lead_set (k := k) h1.1 h1.2).1.2
    have h4 := (goodF_iff.1 h0).1.2
    omega
  · rw [leadL_no (by simpa using h)]; simp
def leastV (F : Fld) (k : Int) (b : List Int) : Int := if b = [] then 0 else lostF F k b
theorem least_nil (F : Fld) (k : Int) : leastV F k [] = 0 := if_pos rfl
theorem least_not {F : Fld} {k : Int} {S : List Int} (h : S ≠ []) : leastV F k S = lostF F k S := if_neg h
set_option maxHeartbeats 1000000 in
theorem leadClo_any (F : Fld) (m k : Int) (A : Option Addr) (c : Nat) (B : Option Addr) (d : Nat) (p q : Nat) (w : World) (hf : FldAt w (.agg #[.slice A F.op.length c, .slice B F.di.length d]) F) (x0 : w.cell? ⟨p, 0, none⟩ = some (.slice A F.op.length c)) (x1 : w.cell? ⟨p, 1, none⟩ = some (.slice B F.di.length d)) (y0 : w.cell? ⟨q, 0, none⟩ = some (.int .i64 k))
    (Av : Option Addr) (S : List Int) (n cv : Nat) (hS : IntsAt w Av S) (hn : S.length = n) (hok : leadOk F m k = true) (hs : setB F S = true) (hse : S ≠ []) (hsm : (S.length : Int) = m) :
    Calls Tryz.prog 34 #[.slice Av n cv, .pointer (some ⟨p, 0, none⟩), .pointer (some ⟨q, 0, none⟩)] w fun e w' => e = .returned (.int .i64 (leadV F k S)) ∧ Kp w w' := by
  obtain ⟨hg, _, hk1, hk2⟩ := leadOk_parts hok
  have hfs := fol_set (F := F) (L := S) hk1 (by rw [hsm]; exact hk2)
  have C1 := Lib.hid (fun (wx : World) (hx : Kp w wx) => follower_any _ F Av S n cv k wx (hf.kp hx) (hS.kp hx) hn hg hs hse hk1 (by rw [hsm]; exact hk2))
  have C2 := Lib.hid (fun (wx : World) (hx : Kp w wx) (Ax : Option Addr) (nx cx : Nat) (hr : IntsAt wx Ax (folF F S k)) (hnx : (folF F S k).length = nx) => takes_any _ F Av S n cv Ax (folF F S k) nx cx wx (hf.kp hx) (hS.kp hx) hn hr hnx hg hs hse hfs.2)
  have Hd : Hid (leadV F k S = ((takenTo F S (folF F S k) F.di.length).length : Int)) := leadV_not hse
  clear hf hS hn hok hs hse hsm hg hfs
  have hkz : Kp w w := Kp.refl _
  go_enter Tryz.func34, Tryz.ntmps34
  go_wp2_with fail
  have q_x0 := hkz.get x0
  have q_x1 := hkz.get x1
  have q_y0 := hkz.get y0
  have tok1 : True := trivial
  go_wp2_with fail
  go_region_held3 (fun w' => w'.cell? ⟨p, 0, none⟩ = some (.slice A F.op.length c) ∧ w'.cell? ⟨p, 1, none⟩ = some (.slice B F.di.length d) ∧ w'.cell? ⟨q, 0, none⟩ = some (.int .i64 k) ∧ Kp w w')
    (first | (refine keepc3 x0 x1 y0 ?_; exact (by repeat (first | with_reducible assumption | with_reducible exact Kp.refl _ | with_reducible refine Kp.drew ?_ | with_reducible refine Kp.alloc ?_ _ | with_reducible refine Kp.drewN ?_ _ | refine Kp.setCell ?_ (by dsimp only; omega) _))) | fail)
    (first
      | (have _t := tok1; go_at_call 36; with_reducible refine Calls.mono (C1.out _ (by repeat (first | with_reducible assumption | with_reducible exact Kp.refl _ | with_reducible refine Kp.drew ?_ | with_reducible refine Kp.alloc ?_ _ | with_reducible refine Kp.drewN ?_ _ | refine Kp.setCell ?_ (by dsimp only; omega) _))) ?_; rintro e wr1 ⟨u, rfl, hu, hka⟩; have hr1 : Kp w wr1 := Kp.trans (by repeat (first | with_reducible assumption | with_reducible exact Kp.refl _ | with_reducible refine Kp.drew ?_ | with_reducible refine Kp.alloc ?_ _ | with_reducible refine Kp.drewN ?_ _ | refine Kp.setCell ?_ (by dsimp only; omega) _)) hka; obtain ⟨Au, cu, hve, hcu, hui⟩ := hu.read; subst hve; have tok2 : True := trivial; clear tok1 _t)
      | (have _t := tok2; go_at_call 35; with_reducible refine Calls.mono (C2.out _ hr1 Au _ cu hui rfl) ?_; rintro e wr2 ⟨v, rfl, hov, hka⟩; have hr2 : Kp w wr2 := Kp.trans (by repeat (first | with_reducible assumption | with_reducible exact Kp.refl _ | with_reducible refine Kp.drew ?_ | with_reducible refine Kp.alloc ?_ _ | with_reducible refine Kp.drewN ?_ _ | refine Kp.setCell ?_ (by dsimp only; omega) _)) hka; obtain ⟨At, ct, hvt⟩ := hov.shape; subst hvt; have tok3 : True := trivial; clear tok2 _t)
      | fail)
  all_goals
    go_wp2_with fail
    go_ret
    exact ⟨by rw [Hd.out]; rfl, hr2⟩
theorem lenClo53_any (m : Int) (q : Nat) (w : World) (y0 : w.cell? ⟨q, 0, none⟩ = some (.int .i64 m)) (Av : Option Addr) (S : List Int) (n cv : Nat) (hn : S.length = n) :
    Calls Tryz.prog 40 #[.slice Av n cv, .pointer (some ⟨q, 0, none⟩)] w fun e w' => e = .returned (.bool (!lenP m S)) ∧ ∃ q, w' = w.drewN q := by
  subst hn
  by_cases h : (S.length : Int) = m
  · have hdec2 : ((S.length : Int) != m) = false := by simp [h]
    have Hy : Hid (lenP m S = true) := decide_eq_true h
    clear h
    go_enter Tryz.func40, Tryz.ntmps40
    go_wp2_with fail
    go_ret
    exact ⟨by rw [Hy.out]; rfl, 0, rfl⟩
  · have hdec2 : ((S.length : Int) != m) = true := by simp [h]
    have Hy : Hid (lenP m S = false) := decide_eq_false h
    clear h
    go_enter Tryz.func40, Tryz.ntmps40
    go_wp2_with fail
    go_ret
    exact ⟨by rw [Hy.out]; rfl, 0, rfl⟩
set_option maxRecDepth 100000 in
set_option maxHeartbeats 2000000 in
theorem implBl_any (f : Value) (F : Fld) (m k : Int) (w : World) (hf : FldAt w f F) :
    Calls Tryz.prog 12 #[f, .int .i64 m, .int .i64 k] w fun e w' => ∃ v, e = .returned (.tuple #[v, .int .i64 (leadM F m k), .bool (leadOk F m k)]) ∧ Own w' w.heap.size v (leadL F m k) ∧ Kp w w' := by
  obtain ⟨A, c, B, d, rfl, hA, hB⟩ := hf
  have hk0 : Kp w (((w.alloc (.cells #[.slice A F.op.length c, .slice B F.di.length d] 27)).alloc (.cells #[.int .i64 m] 3)).alloc (.cells #[.int .i64 k] 3)) := (((Kp.refl w).alloc _).alloc _).alloc _
  obtain ⟨d0, d1⟩ := box2 w (.slice A F.op.length c) (.slice B F.di.length d) 27
  have hFA := FldAt.kp (show FldAt w (.agg #[.slice A F.op.length c, .slice B F.di.length d]) F from ⟨A, c, B, d, rfl, hA, hB⟩) hk0
  have d2 : ((w.alloc (.cells #[.slice A F.op.length c, .slice B F.di.length d] 27)).alloc (.cells #[.int .i64 m] 3)).cell? ⟨w.heap.size + 1, 0, none⟩ = some (.int .i64 m) := by
    rw [World.cell?_alloc_at _ _ _ _ (by simp)]; rfl
  replace d0 := (((Kp.refl _).alloc (.cells #[.int .i64 m] 3)).alloc (.cells #[.int .i64 k] 3)).get d0
  replace d1 := (((Kp.refl _).alloc (.cells #[.int .i64 m] 3)).alloc (.cells #[.int .i64 k] 3)).get d1
  replace d2 := ((Kp.refl _).alloc (.cells #[.int .i64 k] 3)).get d2
  have d3 : (((w.alloc (.cells #[.slice A F.op.length c, .slice B F.di.length d] 27)).alloc (.cells #[.int .i64 m] 3)).alloc (.cells #[.int .i64 k] 3)).cell? ⟨w.heap.size + 1 + 1, 0, none⟩ = some (.int .i64 k) := by
    rw [World.cell?_alloc_at _ _ _ _ (by simp)]; rfl
  have hsz : Hid ((((w.alloc (.cells #[.slice A F.op.length c, .slice B F.di.length d] 27)).alloc (.cells #[.int .i64 m] 3)).alloc (.cells #[.int .i64 k] 3)).heap.size = w.heap.size + 1 + 1 + 1) := by show _ = _; simp
  clear hA hB
  go_enter Tryz.func12, Tryz.ntmps12
  go_wp2_with fail
  generalize ((w.alloc (.cells #[.slice A F.op.length c, .slice B F.di.length d] 27)).alloc (.cells #[.int .i64 m] 3)).alloc (.cells #[.int .i64 k] 3) = wb at *
  have hkb : Kp wb wb := Kp.refl _
  have CC := Lib.hid (isField_any _ F _ (hFA.kp hkb))
  with_reducible refine Calls.mono CC.out ?_
  rintro e w1 ⟨rfl, hk1⟩
  clear CC
  replace hkb := hkb.trans hk1
  cases hg_ : goodF F
  · have Hno : Hid (leadOk F m k = false) := by show _ = _; rw [leadOk, hg_]; rfl
    clear hg_
    have q_d0 := hkb.get d0
    have q_d1 := hkb.get d1
    have q_d2 := hkb.get d2
    have q_d3 := hkb.get d3
    go_wp2_with fail
    go_ret3
    exact ⟨_, by rw [Hno.out, leadM_no Hno.out]; rfl, by rw [leadL_no Hno.out]; exact Own.nil _ _, hk0.trans hkb⟩
  have Hg := Lib.hid hg_; clear hg_
  have hg7 := (goodF_iff.1 Hg.out).1.2
  have q_d0 := hkb.get d0
  have q_d1 := hkb.get d1
  have q_d2 := hkb.get d2
  have q_d3 := hkb.get d3
  go_wp2_with fail
  with_reducible refine Calls.mono (between_any _ _ _ _) ?_
  rintro e w2 ⟨rfl, hw⟩
  obtain rfl := hw
  clear q_d0 q_d1 q_d2 q_d3
  cases hm_ : inB m 1 (F.op.length : Int)
  · have Hno : Hid (leadOk F m k = false) := by show _ = _; rw [leadOk, hm_]; simp
    clear hm_
    have q_d0 := hkb.get d0
    have q_d1 := hkb.get d1
    have q_d2 := hkb.get d2
    have q_d3 := hkb.get d3
    go_wp2_with fail
    go_ret3
    exact ⟨_, by rw [Hno.out, leadM_no Hno.out]; rfl, by rw [leadL_no Hno.out]; exact Own.nil _ _, hk0.trans hkb⟩
  have hmm : 1 ≤ m ∧ m ≤ (F.op.length : Int) := by simpa [inB] using hm_
  have Hm := Lib.hid hm_; clear hm_
  have hwr : IntKind.i64.wrap ((F.op.length : Int) - m) = (F.op.length : Int) - m := IntWalk.i64_in _ (by omega)
  have q_d0 := hkb.get d0
  have q_d1 := hkb.get d1
  have q_d2 := hkb.get d2
  have q_d3 := hkb.get d3
  go_wp2_with fail
  with_reducible refine Calls.mono (between_any _ _ _ _) ?_
  rintro e w3 ⟨rfl, hw⟩
  obtain rfl := hw
  clear q_d0 q_d1 q_d2 q_d3
  cases hk_ : inB k 1 ((F.op.length : Int) - m)
  · have Hno : Hid (leadOk F m k = false) := by show _ = _; rw [leadOk, hk_]; simp
    clear hk_
    have q_d0 := hkb.get d0
    have q_d1 := hkb.get d1
    have q_d2 := hkb.get d2
    have q_d3 := hkb.get d3
    go_wp2_with fail
    go_ret3
    exact ⟨_, by rw [Hno.out, leadM_no Hno.out]; rfl, by rw [leadL_no Hno.out]; exact Own.nil _ _, hk0.trans hkb⟩
  have Hok : Hid (leadOk F m k = true) := by show _ = _; rw [leadOk, Hg.out, Hm.out, hk_]; rfl
  clear hk_ hwr
  have HMM := Lib.hid hmm
  clear hmm
  have hwb := Lib.hid (hk0.trans hkb).le
  have q_d0 := hkb.get d0
  have q_d1 := hkb.get d1
  have q_d2 := hkb.get d2
  have q_d3 := hkb.get d3
  go_wp2_with fail
  have CC := Lib.hid (sets_any F.op.length w1 hg7)
  with_reducible refine Calls.mono CC.out ?_
  rintro e w4 ⟨v, rfl, hvn, hgo, hk4⟩
  clear CC q_d0 q_d1 q_d2 q_d3
  replace hkb := hkb.trans hk4
  have hgl := hgo.lt
  have e0 := hkb.get d0; have e1 := hkb.get d1; have e2 := hkb.get d2; have e3 := hkb.get d3
  have hFq := hFA.kp hkb
  have hkq := hk0.trans hkb
  have hb1 : w.heap.size + 1 + 1 + 1 ≤ w1.heap.size := by rw [← hsz.out]; exact (hk1).le
  have hap : ∀ i, i < w1.heap.size → ¬ v.ownBlock = some i := fun i hi e => by have := (hgl i e).1; omega
  have hsl : (setsL F.op.length).length ≤ 127 := by rw [setsL_len]; have h128 : 2 ^ F.op.length ≤ 2 ^ 7 := Nat.pow_le_pow_right (by omega) hg7; omega
  have hfp := lead_pos (n := F.op.length) HMM.out.1 HMM.out.2
  have hne0 : setsL F.op.length ≠ [] := fun e => by rw [e] at hfp; simp at hfp
  have CD := Lib.hid (del_any hgo hvn hne0 (by omega) 40 #[.pointer (some ⟨w.heap.size + 1, 0, none⟩)] (fun S => !lenP m S) (fun _ => True)
    (callFunc_of Tryz.func40 (by kernel_rfl) (by kernel_rfl)) (fun _ _ => trivial) trivial
    (fun W Av S n cv hT _ hi hn => lenClo53_any m _ W (cell_turn e2 hT (hap _ (by show w.heap.size + 1 < _; omega))) Av S n cv hn))
  simp only [Bool.not_not] at CD
  clear hne0 hgo
  have q_d0 := hkb.get d0
  have q_d1 := hkb.get d1
  have q_d2 := hkb.get d2
  have q_d3 := hkb.get d3
  go_wp2_with fail
  with_reducible refine Calls.mono CD.out ?_
  rintro e w3 ⟨ad, cc, rfl, hrows, hT⟩
  clear CD
  have hkA : Kp wb w3 := hk1.trans (hk4.turn hT (fun i hi => (hgl i hi).1))
  have g0 := hkA.get d0; have g1 := hkA.get d1; have g3 := hkA.get d3
  have hFC := hFA.kp hkA
  have hcf := callFunc_of Tryz.func34 (by kernel_rfl) (by kernel_rfl)
  have CV : Hid (∀ (S : List Int) (Av : Option Addr) (n cv : Nat) (w' : World), Kp w3 w' → IntsAt w' Av S → S.length = n → (S ≠ [] ∧ setB F S = true) → (S.length : Int) = m → Calls Tryz.prog 34 #[.slice Av n cv, .pointer (some ⟨w.heap.size, 0, none⟩), .pointer (some ⟨w.heap.size + 1 + 1, 0, none⟩)] w' fun e w'' => e = .returned (.int .i64 (leadV F k S)) ∧ Kp w' w'') := by
    show ∀ (S : List Int), _
    intro S Av n cv w' hk hi hn hq1 hq2
    exact leadClo_any F m k A c B d _ _ w' (hFC.kp hk) (hk.get g0) (hk.get g1) (hk.get g3) Av S n cv hi hn Hok.out hq1.2 hq1.1 hq2
  have CL := Lib.hid (least_any 34 #[] #[.pointer (some ⟨w.heap.size, 0, none⟩), .pointer (some ⟨w.heap.size + 1 + 1, 0, none⟩)] (leadV F k) (fun S => (S ≠ [] ∧ setB F S = true) ∧ (S.length : Int) = m) _ (some ad) _ _ cc w3 hrows rfl hfp
    ⟨hcf, fun S Av cv w' hk hq hi _ => CV.out S Av S.length cv w' hk hi rfl hq.1 hq.2⟩
    (fun S hS => ⟨mem_setsL.1 (List.mem_filter.1 hS).1, of_decide_eq_true (List.mem_filter.1 hS).2⟩))
  have HS := Lib.hid (lead_set (F := F) (k := k) HMM.out.1 HMM.out.2)
  clear hrows hvn hap hgl hfp e0 e1 e2 e3 q_d0 q_d1 q_d2 q_d3
  go_wp2_with fail
  with_reducible refine Calls.mono CL.out ?_
  rintro e w6 ⟨u, rfl, hu, hk6⟩
  clear CL
  change RowP w6 _ u (leadF F m k) at hu
  obtain ⟨Au, cu, hve, hcu, hui⟩ := hu.read
  subst hve
  have CC := Lib.hid (CV.out (leadF F m k) Au _ cu w6 hk6 hui rfl HS.out.1 HS.out.2)
  clear hcu
  go_wp2_with fail
  with_reducible refine Calls.mono CC.out ?_
  rintro e w5 ⟨rfl, hk5⟩
  clear CC
  go_wp2_with fail
  go_ret3
  exact ⟨_, by rw [Hok.out, leadM_yes Hok.out]; rfl, by rw [leadL_yes Hok.out]; exact ((hu.2 _ rfl).mono (by omega)).kp hk5, hk0.trans (hkA.trans (hk6.trans hk5))⟩
set_option maxRecDepth 100000 in
set_option maxHeartbeats 2000000 in
theorem specBl_any (f : Value) (F : Fld) (m k : Int) (w : World) (hf : FldAt w f F) :
    Calls Tryz.prog 13 #[f, .int .i64 m, .int .i64 k] w fun e w' => ∃ v, e = .returned (.tuple #[v, .int .i64 (leadM F m k), .bool (leadOk F m k)]) ∧ Own w' w.heap.size v (leadL F m k) ∧ Kp w w' := by
  obtain ⟨A, c, B, d, rfl, hA, hB⟩ := hf
  have hk0 : Kp w (w.alloc (.cells #[.slice A F.op.length c, .slice B F.di.length d] 27)) := (Kp.refl w).alloc _
  obtain ⟨d0, d1⟩ := box2 w (.slice A F.op.length c) (.slice B F.di.length d) 27
  have hFA := FldAt.kp (show FldAt w (.agg #[.slice A F.op.length c, .slice B F.di.length d]) F from ⟨A, c, B, d, rfl, hA, hB⟩) hk0
  clear hA hB
  go_enter Tryz.func13, Tryz.ntmps13
  go_wp2_with fail
  have hsz : Hid ((w.alloc (.cells #[.slice A F.op.length c, .slice B F.di.length d] 27)).heap.size = w.heap.size + 1) := by show _ = _; simp
  generalize w.alloc (.cells #[.slice A F.op.length c, .slice B F.di.length d] 27) = wb at *
  have hkb : Kp wb wb := Kp.refl _
  have hkw := hk0
  have ho0 := own_new0 wb w.heap.size (by rw [hsz.out]; exact Nat.le_succ _)
  have hkn := (Kp.refl wb).alloc (.cells #[] 3)
  rw [hsz.out] at ho0
  have q_0 := hkn.get d0
  have q_1 := hkn.get d1
  have CC := Lib.hid (l2Good_any _ F _ (hFA.kp hkn))
  with_reducible refine Calls.mono CC.out ?_
  rintro e w1 ⟨rfl, hk1⟩
  clear CC q_0 q_1
  replace hkb := hkn.trans hk1
  have ho1 := ho0.kp hk1
  cases hg_ : goodF F
  · have Hno : Hid (leadOk F m k = false) := by show _ = _; rw [leadOk, hg_]; rfl
    clear hg_
    have q_d0 := hkb.get d0
    have q_d1 := hkb.get d1
    go_wp2_with fail
    go_ret3
    exact ⟨_, by rw [Hno.out, leadM_no Hno.out]; rfl, by rw [leadL_no Hno.out]; exact ho1, hkw.trans hkb⟩
  have Hg := Lib.hid hg_; clear hg_
  have hg7 := (goodF_iff.1 Hg.out).1.2
  have hd7 := (goodF_iff.1 Hg.out).2.2.1
  have q_d0 := hkb.get d0
  have q_d1 := hkb.get d1
  go_wp2_with fail
  with_reducible refine Calls.mono (l1In_any _ _ _ _) ?_
  rintro e w1 ⟨rfl, hw⟩
  obtain rfl := hw
  clear q_d0 q_d1
  cases hm_ : inB m 1 (F.op.length : Int)
  · have Hno : Hid (leadOk F m k = false) := by show _ = _; rw [leadOk, hm_]; simp
    clear hm_
    have q_d0 := hkb.get d0
    have q_d1 := hkb.get d1
    go_wp2_with fail
    go_ret3
    exact ⟨_, by rw [Hno.out, leadM_no Hno.out]; rfl, by rw [leadL_no Hno.out]; exact ho1, hkw.trans hkb⟩
  have hmm : 1 ≤ m ∧ m ≤ (F.op.length : Int) := by simpa [inB] using hm_
  have Hm := Lib.hid hm_; clear hm_
  have hwr : IntKind.i64.wrap ((F.op.length : Int) - m) = (F.op.length : Int) - m := IntWalk.i64_in _ (by omega)
  have q_d0 := hkb.get d0
  have q_d1 := hkb.get d1
  go_wp2_with fail
  with_reducible refine Calls.mono (l1In_any _ _ _ _) ?_
  rintro e w2 ⟨rfl, hw⟩
  obtain rfl := hw
  clear q_d0 q_d1
  cases hk_ : inB k 1 ((F.op.length : Int) - m)
  · have Hno : Hid (leadOk F m k = false) := by show _ = _; rw [leadOk, hk_]; simp
    clear hk_
    have q_d0 := hkb.get d0
    have q_d1 := hkb.get d1
    go_wp2_with fail
    go_ret3
    exact ⟨_, by rw [Hno.out, leadM_no Hno.out]; rfl, by rw [leadL_no Hno.out]; exact ho1, hkw.trans hkb⟩
  have Hok : Hid (leadOk F m k = true) := by show _ = _; rw [leadOk, Hg.out, Hm.out, hk_]; rfl
  clear hk_ hwr
  have HP := Lib.hid (leadOk_parts Hok.out)
  have HS := Lib.hid (lead_set (F := F) (k := k) hmm.1 hmm.2)
  clear hmm
  have q_d0 := hkb.get d0
  have q_d1 := hkb.get d1
  go_wp2_with fail
  have CC := Lib.hid (l2Sets_any F.op.length w1 hg7)
  with_reducible refine Calls.mono CC.out ?_
  rintro e w3 ⟨v, rfl, hvn, hgo, hk3⟩
  clear CC q_d0 q_d1
  replace hkb := hkb.trans hk3
  have hsl : (setsL F.op.length).length ≤ 127 := by rw [setsL_len]; have h128 : 2 ^ F.op.length ≤ 2 ^ 7 := Nat.pow_le_pow_right (by omega) hg7; omega
  obtain ⟨ad, cx, hve, hcx, hrows⟩ := hgo.rows_some (by omega) hvn
  subst hve
  clear hgo hvn
  obtain ⟨rows, hre⟩ : ∃ rows, rows = setsL F.op.length := ⟨_, rfl⟩
  rw [← hre] at hrows hcx hsl ⊢
  have Hpk : Hid (pk0 (lenP m) (leadV F k) rows rows.length = leadF F m k) := by show _ = _; rw [hre]; exact pk0_all (fun s hs => lead_less hd7 (mem_setsL.1 hs).1)
  have Hset : Hid (∀ S ∈ rows, S ≠ [] ∧ setB F S = true) := by show ∀ S ∈ rows, _; rw [hre]; exact fun S hS => mem_setsL.1 hS
  obtain ⟨n, hml⟩ : ∃ n, n = rows.length := ⟨_, rfl⟩
  rw [← hml] at hsl ⊢
  replace hml := Lib.hid hml
  clear hre
  have g0 := hkb.get d0
  have g1 := hkb.get d1
  have hFl := hFA.kp hkb
  have hkl := hkw.trans hkb
  obtain ⟨wl, rfl⟩ : ∃ wl : World, wl = w3 := ⟨_, rfl⟩
  have ho2 := RowP.of_own (ho1.kp hk3) (by simp)
  clear ho0 ho1 hkn hk1 hkb d0 d1
  go_wp2_with fail
  go_loopw [9, 10, 12] (fun bv lv iv wr => ∃ (k' : Nat) (Ab : Option Addr) (cb : Nat), k' ≤ n ∧ iv = .int .i64 k' ∧ lv = .int .i64 (leastV F k (pk0 (lenP m) (leadV F k) rows k')) ∧ bv = .slice Ab (pk0 (lenP m) (leadV F k) rows k').length cb ∧ RowP wr (some w.heap.size) (.slice Ab (pk0 (lenP m) (leadV F k) rows k').length cb) (pk0 (lenP m) (leadV F k) rows k') ∧ Kp wl wr) (fun _ _ iv _ => n - (intOf iv).toNat)
  case atStart => exact ⟨0, _, _, by omega, rfl, rfl, rfl, ho2, Kp.refl _⟩
  case round =>
    clear ho2
    obtain ⟨j, Ab, cb, hj, rfl, rfl, rfl, hb, hkr⟩ := hrel
    by_cases hlt : j < n
    · have lx : j < rows.length := by rw [← hml.out]; exact hlt
      obtain ⟨A3, c3, hcl, hc3, hri, hrq⟩ := (hrows.kp hkr).some_ lx
      have q1 := Lib.hid (Hset.out _ (List.getElem_mem lx))
      have z0 := hkr.get g0
      have z1 := hkr.get g1
      have hkz : Kp wr wr := Kp.refl _
      by_cases hlen : (rows[j].length : Int) = m
      · have hdec2 : ((rows[j].length : Int) != m) = false := by simp [hlen]
        have Hp : Hid (lenP m rows[j] = true) := decide_eq_true hlen
        have hfs := Lib.hid (fol_set (F := F) (L := rows[j]) (k := k) HP.out.2.2.1 (by rw [hlen]; exact HP.out.2.2.2))
        have h7 := Lib.hid (risB_len q1.out.2)
        obtain ⟨ad3, hA3, _, _⟩ := hrq.some_addr q1.out.1
        subst hA3
        have hv1 := Lib.hid (leadV_not (F := F) (k := k) q1.out.1)
        have C1 := Lib.hid (fun (wx : World) (hx : Kp wr wx) => l9Follow_any _ F (some ad3) rows[j] _ c3 k wx (hFl.kp (hkr.trans hx)) (hri.kp hx) rfl HP.out.1 q1.out.2 q1.out.1)
        have C2 := Lib.hid (fun (wx : World) (hx : Kp wr wx) (Ax : Option Addr) (nx cx : Nat) (hr : IntsAt wx Ax (folF F rows[j] k)) (hnx : (folF F rows[j] k).length = nx) => l9Taken_any _ F (some ad3) rows[j] _ c3 Ax (folF F rows[j] k) nx cx wx (hFl.kp (hkr.trans hx)) (hri.kp hx) rfl hr hnx HP.out.1 q1.out.2 q1.out.1 hfs.out.2)
        have C3 := Lib.hid (fun (wx : World) (hx : Kp wr wx) => l1Own_any ad3 rows[j] _ c3 wx (hri.kp hx) rfl (by have := h7.out; omega))
        have hlo : Hid (lostF F k rows[j] = ((takenTo F rows[j] (folF F rows[j] k) F.di.length).length : Int)) := rfl
        clear hlen
        by_cases hbe : pk0 (lenP m) (leadV F k) rows j = []
        · have Hy : Hid (pk0 (lenP m) (leadV F k) rows (j + 1) = rows[j]) := pk0_yes lx Hp.out (by rw [hbe]; exact lead_less hd7 q1.out.1)
          have hb0 : (pk0 (lenP m) (leadV F k) rows j).length = 0 := by rw [hbe]; rfl
          clear hbe hb
          have q_z0 := hkz.get z0
          have q_z1 := hkz.get z1
          have q_hcl := hkz.get hcl
          go_wp2_with fail
          clear q_z0 q_z1 q_hcl
          have q_z0 := hkz.get z0
          have q_z1 := hkz.get z1
          have q_hcl := hkz.get hcl
          have tok1 : True := trivial
          go_wp2_with fail
          go_region_held3 (fun w' => w'.cell? ⟨w.heap.size, 0, none⟩ = some (.slice A F.op.length c) ∧ w'.cell? ⟨w.heap.size, 1, none⟩ = some (.slice B F.di.length d) ∧ w'.cell? (ad.add j) = some (.slice (some ad3) rows[j].length c3) ∧ Kp wr w')
            (first | (refine keepc3 z0 z1 hcl ?_; exact (by repeat (first | with_reducible assumption | with_reducible exact Kp.refl _ | with_reducible refine Kp.drew ?_ | with_reducible refine Kp.alloc ?_ _ | with_reducible refine Kp.drewN ?_ _ | refine Kp.setCell ?_ (by dsimp only; omega) _))) | fail)
            (first
              | (have _t := tok1; go_at_call 45; with_reducible refine Calls.mono (C1.out _ (by repeat (first | with_reducible assumption | with_reducible exact Kp.refl _ | with_reducible refine Kp.drew ?_ | with_reducible refine Kp.alloc ?_ _ | with_reducible refine Kp.drewN ?_ _ | refine Kp.setCell ?_ (by dsimp only; omega) _))) ?_; rintro e wr1 ⟨u1, rfl, hu1, hka⟩; have hr1 : Kp wr wr1 := Kp.trans (by repeat (first | with_reducible assumption | with_reducible exact Kp.refl _ | with_reducible refine Kp.drew ?_ | with_reducible refine Kp.alloc ?_ _ | with_reducible refine Kp.drewN ?_ _ | refine Kp.setCell ?_ (by dsimp only; omega) _)) hka; obtain ⟨Au1, cu1, hve1, hcu1, hui1⟩ := hu1.read; subst hve1; have tok2 : True := trivial; clear tok1 _t)
              | (have _t := tok2; go_at_call 44; with_reducible refine Calls.mono (C2.out _ hr1 Au1 _ cu1 hui1 rfl) ?_; rintro e wr2 ⟨v2, rfl, ho2, hka⟩; have hr2 : Kp wr wr2 := Kp.trans (by repeat (first | with_reducible assumption | with_reducible exact Kp.refl _ | with_reducible refine Kp.drew ?_ | with_reducible refine Kp.alloc ?_ _ | with_reducible refine Kp.drewN ?_ _ | refine Kp.setCell ?_ (by dsimp only; omega) _)) hka; obtain ⟨At2, ct2, hve2⟩ := ho2.shape; subst hve2; have tok3 : True := trivial; clear tok2 _t)
              | fail)
          all_goals
            have hc4 := hr2.get hcl
            go_wp2_with fail
            with_reducible refine Calls.mono (C3.out _ hr2) ?_
            rintro e w8 ⟨v, rfl, hov, hk8⟩
            obtain ⟨Av, cv, hve⟩ := hov.shape
            subst hve
            have how := RowP.of_own (hov.mono (Nat.le_trans (hkl.trans hkr).le hr2.le)) (by have := h7.out; omega)
            go_wp2_with fail
            go_roundw
            case rel => exact ⟨j + 1, Av, cv, by omega, by go_num, by rw [Hy.out, least_not q1.out.1]; rfl, by rw [Hy.out], by rw [Hy.out]; exact how, hkr.trans (hr2.trans hk8)⟩
            case measure => simp [intOf]; omega
        · have hdec3 : (((pk0 (lenP m) (leadV F k) rows j).length : Int) == 0) = false := by
            simp; exact hbe
          have hv2 := Lib.hid (leadV_not (F := F) (k := k) hbe)
          have hl2 := Lib.hid (least_not (F := F) (k := k) hbe)
          clear hbe
          by_cases hgt : ((takenTo F rows[j] (folF F rows[j] k) F.di.length).length : Int) < leastV F k (pk0 (lenP m) (leadV F k) rows j)
          · have Hy : Hid (pk0 (lenP m) (leadV F k) rows (j + 1) = rows[j]) := pk0_yes lx Hp.out (by rw [hv1.out, hv2.out, hlo.out, ← hl2.out]; exact hgt)
            have q_z0 := hkz.get z0
            have q_z1 := hkz.get z1
            have q_hcl := hkz.get hcl
            go_wp2_with fail
            clear q_z0 q_z1 q_hcl
            have q_z0 := hkz.get z0
            have q_z1 := hkz.get z1
            have q_hcl := hkz.get hcl
            have tok1 : True := trivial
            go_wp2_with fail
            go_region_held3 (fun w' => w'.cell? ⟨w.heap.size, 0, none⟩ = some (.slice A F.op.length c) ∧ w'.cell? ⟨w.heap.size, 1, none⟩ = some (.slice B F.di.length d) ∧ w'.cell? (ad.add j) = some (.slice (some ad3) rows[j].length c3) ∧ Kp wr w')
              (first | (refine keepc3 z0 z1 hcl ?_; exact (by repeat (first | with_reducible assumption | with_reducible exact Kp.refl _ | with_reducible refine Kp.drew ?_ | with_reducible refine Kp.alloc ?_ _ | with_reducible refine Kp.drewN ?_ _ | refine Kp.setCell ?_ (by dsimp only; omega) _))) | fail)
              (first
                | (have _t := tok1; go_at_call 45; with_reducible refine Calls.mono (C1.out _ (by repeat (first | with_reducible assumption | with_reducible exact Kp.refl _ | with_reducible refine Kp.drew ?_ | with_reducible refine Kp.alloc ?_ _ | with_reducible refine Kp.drewN ?_ _ | refine Kp.setCell ?_ (by dsimp only; omega) _))) ?_; rintro e wr1 ⟨u1, rfl, hu1, hka⟩; have hr1 : Kp wr wr1 := Kp.trans (by repeat (first | with_reducible assumption | with_reducible exact Kp.refl _ | with_reducible refine Kp.drew ?_ | with_reducible refine Kp.alloc ?_ _ | with_reducible refine Kp.drewN ?_ _ | refine Kp.setCell ?_ (by dsimp only; omega) _)) hka; obtain ⟨Au1, cu1, hve1, hcu1, hui1⟩ := hu1.read; subst hve1; have tok2 : True := trivial; clear tok1 _t)
                | (have _t := tok2; go_at_call 44; with_reducible refine Calls.mono (C2.out _ hr1 Au1 _ cu1 hui1 rfl) ?_; rintro e wr2 ⟨v2, rfl, ho2, hka⟩; have hr2 : Kp wr wr2 := Kp.trans (by repeat (first | with_reducible assumption | with_reducible exact Kp.refl _ | with_reducible refine Kp.drew ?_ | with_reducible refine Kp.alloc ?_ _ | with_reducible refine Kp.drewN ?_ _ | refine Kp.setCell ?_ (by dsimp only; omega) _)) hka; obtain ⟨At2, ct2, hve2⟩ := ho2.shape; subst hve2; have tok3 : True := trivial; clear tok2 _t)
                | fail)
            all_goals
              have hc4 := hr2.get hcl
              go_wp2_with fail
              with_reducible refine Calls.mono (C3.out _ hr2) ?_
              rintro e w8 ⟨v, rfl, hov, hk8⟩
              obtain ⟨Av, cv, hve⟩ := hov.shape
              subst hve
              have how := RowP.of_own (hov.mono (Nat.le_trans (hkl.trans hkr).le hr2.le)) (by have := h7.out; omega)
              go_wp2_with fail
              go_roundw
              case rel => exact ⟨j + 1, Av, cv, by omega, by go_num, by rw [Hy.out, least_not q1.out.1]; rfl, by rw [Hy.out], by rw [Hy.out]; exact how, hkr.trans (hr2.trans hk8)⟩
              case measure => simp [intOf]; omega
          · have Hy : Hid (pk0 (lenP m) (leadV F k) rows (j + 1) = pk0 (lenP m) (leadV F k) rows j) := pk0_no lx (fun h => hgt (by have h3 := h.2; rw [hv1.out, hv2.out, hlo.out, ← hl2.out] at h3; exact h3))
            have q_z0 := hkz.get z0
            have q_z1 := hkz.get z1
            have q_hcl := hkz.get hcl
            go_wp2_with fail
            clear q_z0 q_z1 q_hcl
            have q_z0 := hkz.get z0
            have q_z1 := hkz.get z1
            have q_hcl := hkz.get hcl
            have tok1 : True := trivial
            go_wp2_with fail
            go_region_held3 (fun w' => w'.cell? ⟨w.heap.size, 0, none⟩ = some (.slice A F.op.length c) ∧ w'.cell? ⟨w.heap.size, 1, none⟩ = some (.slice B F.di.length d) ∧ w'.cell? (ad.add j) = some (.slice (some ad3) rows[j].length c3) ∧ Kp wr w')
              (first | (refine keepc3 z0 z1 hcl ?_; exact (by repeat (first | with_reducible assumption | with_reducible exact Kp.refl _ | with_reducible refine Kp.drew ?_ | with_reducible refine Kp.alloc ?_ _ | with_reducible refine Kp.drewN ?_ _ | refine Kp.setCell ?_ (by dsimp only; omega) _))) | fail)
              (first
                | (have _t := tok1; go_at_call 45; with_reducible refine Calls.mono (C1.out _ (by repeat (first | with_reducible assumption | with_reducible exact Kp.refl _ | with_reducible refine Kp.drew ?_ | with_reducible refine Kp.alloc ?_ _ | with_reducible refine Kp.drewN ?_ _ | refine Kp.setCell ?_ (by dsimp only; omega) _))) ?_; rintro e wr1 ⟨u1, rfl, hu1, hka⟩; have hr1 : Kp wr wr1 := Kp.trans (by repeat (first | with_reducible assumption | with_reducible exact Kp.refl _ | with_reducible refine Kp.drew ?_ | with_reducible refine Kp.alloc ?_ _ | with_reducible refine Kp.drewN ?_ _ | refine Kp.setCell ?_ (by dsimp only; omega) _)) hka; obtain ⟨Au1, cu1, hve1, hcu1, hui1⟩ := hu1.read; subst hve1; have tok2 : True := trivial; clear tok1 _t)
                | (have _t := tok2; go_at_call 44; with_reducible refine Calls.mono (C2.out _ hr1 Au1 _ cu1 hui1 rfl) ?_; rintro e wr2 ⟨v2, rfl, ho2, hka⟩; have hr2 : Kp wr wr2 := Kp.trans (by repeat (first | with_reducible assumption | with_reducible exact Kp.refl _ | with_reducible refine Kp.drew ?_ | with_reducible refine Kp.alloc ?_ _ | with_reducible refine Kp.drewN ?_ _ | refine Kp.setCell ?_ (by dsimp only; omega) _)) hka; obtain ⟨At2, ct2, hve2⟩ := ho2.shape; subst hve2; have tok3 : True := trivial; clear tok2 _t)
                | fail)
            all_goals
              go_wp2_with fail
              go_roundw
              case rel => exact ⟨j + 1, Ab, cb, by omega, by go_num, by rw [Hy.out], by rw [Hy.out], by rw [Hy.out]; exact hb.kp hr2, hkr.trans hr2⟩
              case measure => simp [intOf]; omega
      · have hdec2 : ((rows[j].length : Int) != m) = true := by simp [hlen]
        have Hy : Hid (pk0 (lenP m) (leadV F k) rows (j + 1) = pk0 (lenP m) (leadV F k) rows j) := pk0_no lx (fun h => hlen (of_decide_eq_true h.1))
        clear hlen
        have q_z0 := hkz.get z0
        have q_z1 := hkz.get z1
        have q_hcl := hkz.get hcl
        go_wp2_with fail
        go_roundw
        case rel => exact ⟨j + 1, Ab, cb, by omega, by go_num, by rw [Hy.out], by rw [Hy.out], by rw [Hy.out]; exact hb, hkr⟩
        case measure => simp [intOf]; omega
    · obtain rfl : j = n := by omega
      have Hy : Hid (pk0 (lenP m) (leadV F k) rows j = leadF F m k) := by show _ = _; rw [hml.out]; exact Hpk.out
      go_wp2_with fail
      go_ret3
      exact ⟨_, by rw [Hok.out, leadM_yes Hok.out, Hy.out, leadV_not HS.out.1.1, least_not HS.out.1.1]; rfl, by rw [leadL_yes Hok.out, ← Hy.out]; exact hb.2 _ rfl, hkl.trans hkr⟩
end Go.Proofs.YtblebedejddefaaGreat

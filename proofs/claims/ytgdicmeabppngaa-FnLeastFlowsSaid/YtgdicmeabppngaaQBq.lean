/- WholeFlow: the program. No condition. -/
import Derived.Test.YtgdicmeabppngaaQBp
import Derived.Laws.EntriesVeiled
namespace Go.Proofs.Ytgdicmeabppngaa
open Go.RowKit Go.Sort

def remN (needs : List Int) (j n : Nat) : Int := sumTo (fun i => lget needs (j + i)) n
theorem remN_succ (needs : List Int) (j : Nat) : ∀ n, remN needs j (n + 1) = lget needs j + remN needs (j + 1) n
  | 0 => by simp [remN, sumTo, mapTo]
  | n + 1 => by
    have ih := remN_succ needs j n
    unfold remN at ih ⊢
    rw [sumTo_succ, ih, sumTo_succ, show j + (n + 1) = j + 1 + n from by omega]; omega
def roomL (S : List Int) (M : Nat) (left : Nat → Int) : Int := sumTo (fun a => if flHas S a = true then left a else 0) M
theorem roomL_upd {S : List Int} {M s : Nat} (left : Nat → Int) (hs : s < M) (h : flHas S s = true) (z : Int) : roomL S M (upd left s z) = roomL S M left + (z - left s) := by
  unfold roomL
  rw [show (fun a => if flHas S a = true then upd left s z a else 0) = upd (fun a => if flHas S a = true then left a else 0) s z from by
    funext a
    by_cases e : a = s
    · subst e; rw [upd_at, if_pos h, upd_at]
    · rw [upd_ne e, upd_ne e]]
  rw [sumTo_upd, if_pos hs, if_pos h]
theorem wh_none {F : Fld} {needs S : List Int} {M : Nat} (hS : ∀ x ∈ S, 0 ≤ x ∧ x < (M : Int)) : ∀ (n : Nat) (left : Nat → Int) (begun : List Int) (cost : Int), (∀ a, 0 ≤ left a) → roomL S M left < remN needs begun.length n → whGo F needs S false n left begun cost none = none
  | 0, left, begun, cost, h0, h => by
    have : 0 ≤ roomL S M left := sumTo_nn (fun a _ => by split; exact h0 a; omega)
    have h2 : remN needs begun.length 0 = 0 := rfl
    omega
  | n + 1, left, begun, cost, h0, h => by
    rw [whGo_no]
    have key : ∀ k, k ≤ S.length → whTo F needs S false n left begun cost none k = none := by
      intro k
      induction k with
      | zero => intro _; rfl
      | succ k ih =>
        intro hk
        rw [whTo_succ (by omega), ih (by omega)]
        split
        · rfl
        · rename_i hlt
          have hm := hS _ (List.getElem_mem (show k < S.length by omega))
          refine wh_none hS n _ _ _ (fun a => ?_) ?_
          · unfold upd
            split
            · omega
            · exact h0 a
          · rw [roomL_upd left (by omega) (flHas_iff.2 (by rw [Int.toNat_of_nonneg hm.1]; exact List.getElem_mem _)), List.length_append, List.length_singleton]
            rw [remN_succ] at h
            omega
    exact key _ (Nat.le_refl _)
theorem wh_impl {F : Fld} {rooms needs S : List Int} (h : haulB F rooms needs S = true) : whL F rooms needs S = whV1 (whGo F needs S false F.di.length (lget rooms) [] 0 none) ∧ whC F rooms needs S = whV2 (whGo F needs S false F.di.length (lget rooms) [] 0 none) ∧ whF F rooms needs S = whV3 (whGo F needs S false F.di.length (lget rooms) [] 0 none) := by
  have hP := haul_p h
  cases hl : lfOk F rooms needs S
  · have hn : whGo F needs S false F.di.length (lget rooms) [] 0 none = none := by
      refine wh_none (M := F.op.length) (fun x hx => set_mem hP.set_ x hx) _ _ _ _ (fun a => (hP.rb a).1) ?_
      have h1 : roomL S F.op.length (lget rooms) = roomS rooms S := hP.rs
      have h2 : remN needs ([] : List Int).length F.di.length = needs.sum := by rw [← hP.ns]; unfold remN; exact sumTo_congr (fun j _ => by simp)
      have h3 : ¬ needs.sum ≤ roomS rooms S := fun hle => by
        unfold lfOk at hl
        rw [h, decide_eq_true hle] at hl
        cases hl
      omega
    rw [hn]
    exact wh_no hl
  · have e : whR F rooms needs S = whGo F needs S false F.di.length (lget rooms) [] 0 none := wh_same (fun j a => (whAdd_bd hP.good hP.nb j a).1) _ _ _ _ _
    rw [← e]
    exact wh_yes hl
set_option maxRecDepth 100000 in
set_option maxHeartbeats 1000000 in
theorem implWh_any (f : Value) (F : Fld) (A1 : Option Addr) (rooms : List Int) (n1 c1 : Nat) (A2 : Option Addr) (needs : List Int) (n2 c2 : Nat) (A3 : Option Addr) (S : List Int) (n3 c3 : Nat) (w : World) (hf : FldAt w f F) (h1 : IntsAt w A1 rooms) (hn1 : rooms.length = n1) (h2 : IntsAt w A2 needs) (hn2 : needs.length = n2) (h3 : IntsAt w A3 S) (hn3 : S.length = n3) :
    Calls Try.prog 12 #[f, .slice A1 n1 c1, .slice A2 n2 c2, .slice A3 n3 c3] w fun e w' => ∃ v, e = .returned (.tuple #[v, .int .i64 (whC F rooms needs S), .bool (whF F rooms needs S)]) ∧ Own w' w.heap.size v (whL F rooms needs S) ∧ Kp w w' := by
  obtain ⟨A, c, B, d, rfl, hA, hB⟩ := id hf
  have hk0 : Kp w (((w.alloc (.cells #[.slice A F.op.length c, .slice B F.di.length d] 27)).alloc (.cells #[.slice A2 n2 c2] 24)).alloc (.cells #[.slice A3 n3 c3] 24)) := (((Kp.refl w).alloc _).alloc _).alloc _
  have d0 : (((w.alloc (.cells #[.slice A F.op.length c, .slice B F.di.length d] 27)).alloc (.cells #[.slice A2 n2 c2] 24)).alloc (.cells #[.slice A3 n3 c3] 24)).rangeAt w.heap.size 0 [.slice A F.op.length c, .slice B F.di.length d] := World.rangeAt_alloc (World.rangeAt_alloc (range_new' _ _ _ rfl) _) _
  have d1 : (((w.alloc (.cells #[.slice A F.op.length c, .slice B F.di.length d] 27)).alloc (.cells #[.slice A2 n2 c2] 24)).alloc (.cells #[.slice A3 n3 c3] 24)).rangeAt (w.heap.size + 1) 0 [.slice A2 n2 c2] := World.rangeAt_alloc (range_new' _ [_] _ (by simp only [World.size_alloc])) _
  have d2 : (((w.alloc (.cells #[.slice A F.op.length c, .slice B F.di.length d] 27)).alloc (.cells #[.slice A2 n2 c2] 24)).alloc (.cells #[.slice A3 n3 c3] 24)).rangeAt (w.heap.size + 2) 0 [.slice A3 n3 c3] := range_new' _ [_] _ (by simp only [World.size_alloc])
  have hsz : Hid ((((w.alloc (.cells #[.slice A F.op.length c, .slice B F.di.length d] 27)).alloc (.cells #[.slice A2 n2 c2] 24)).alloc (.cells #[.slice A3 n3 c3] 24)).heap.size = w.heap.size + 3) := by show _ = _; simp only [World.size_alloc]
  have CC := Lib.hid (isHaul_any _ F A1 rooms n1 c1 A2 needs n2 c2 A3 S n3 c3 _ (hf.kp hk0) (h1.kp hk0) hn1 (h2.kp hk0) hn2 (h3.kp hk0) hn3)
  have Hn1 := Lib.hid hn1; have Hn2 := Lib.hid hn2; have Hn3 := Lib.hid hn3; have H1 := Lib.hid h1; have H2 := Lib.hid h2; have H3 := Lib.hid h3; have HF := Lib.hid hf
  have f0 := d0 0 _ rfl; have f1 := d0 1 _ rfl; have f2 := d1 0 _ rfl; have f3 := d2 0 _ rfl
  have D0 := Lib.hid d0; have D1 := Lib.hid d1; have D2 := Lib.hid d2
  clear hA hB hf h1 h2 h3 hn1 hn2 hn3 d0 d1 d2
  go_enter Try.func12, Try.ntmps12
  go_wp2_with fail
  with_reducible refine Calls.mono CC.out ?_
  rintro e w1 ⟨rfl, hk1⟩
  clear CC f0 f1 f2 f3
  have hkw := hk0.trans hk1
  have hszl := hk1.le
  rw [hsz.out] at hszl
  cases hh_ : haulB F rooms needs S
  · have Hno := Lib.hid (wh_no (F := F) (rooms := rooms) (needs := needs) (S := S) (by rw [lfOk, hh_]; rfl))
    clear hh_
    go_wp2_with fail
    go_ret3
    exact ⟨_, by rw [Hno.out.2.1, Hno.out.2.2]; rfl, by rw [Hno.out.1]; exact Own.nil _ _, hkw⟩
  have HH := Lib.hid hh_
  have HP := Lib.hid (haul_p hh_)
  have HW := Lib.hid (wh_impl hh_)
  clear hh_
  have h7 := (goodF_iff.1 HP.out.good).1
  have h8 := (goodF_iff.1 HP.out.good).2.2.1
  have hM1 : Hid (n1 = F.op.length) := by show _ = _; rw [← Hn1.out, HP.out.rl]
  obtain rfl := hM1.out
  obtain ⟨a1, rfl, -⟩ := H1.out.at_ (k := 0) (by rw [Hn1.out]; omega)
  have hk2 : Kp w1 ((((w1.alloc (.cells #[.slice none 0 0] 24)).alloc (.cells #[.int .i64 0] 3)).alloc (.cells #[.bool false] 4)).alloc (.cells #[] 3)) := ((((Kp.refl w1).alloc _).alloc _).alloc _).alloc _
  have e0 : ((((w1.alloc (.cells #[.slice none 0 0] 24)).alloc (.cells #[.int .i64 0] 3)).alloc (.cells #[.bool false] 4)).alloc (.cells #[] 3)).rangeAt w1.heap.size 0 [.slice none 0 0] := World.rangeAt_alloc (World.rangeAt_alloc (World.rangeAt_alloc (range_new' _ [_] _ rfl) _) _) _
  have e1 : ((((w1.alloc (.cells #[.slice none 0 0] 24)).alloc (.cells #[.int .i64 0] 3)).alloc (.cells #[.bool false] 4)).alloc (.cells #[] 3)).rangeAt (w1.heap.size + 1) 0 [.int .i64 0] := World.rangeAt_alloc (World.rangeAt_alloc (range_new' _ [_] _ (by simp only [World.size_alloc])) _) _
  have e2 : ((((w1.alloc (.cells #[.slice none 0 0] 24)).alloc (.cells #[.int .i64 0] 3)).alloc (.cells #[.bool false] 4)).alloc (.cells #[] 3)).rangeAt (w1.heap.size + 2) 0 [.bool false] := World.rangeAt_alloc (range_new' _ [_] _ (by simp only [World.size_alloc])) _
  have t0 : ((((w1.alloc (.cells #[.slice none 0 0] 24)).alloc (.cells #[.int .i64 0] 3)).alloc (.cells #[.bool false] 4)).alloc (.cells #[] 3)).there w1.heap.size 0 1 := World.there_alloc (World.there_alloc (World.there_alloc (there_new' _ #[.slice none 0 0] _ rfl) _) _) _
  have t1 : ((((w1.alloc (.cells #[.slice none 0 0] 24)).alloc (.cells #[.int .i64 0] 3)).alloc (.cells #[.bool false] 4)).alloc (.cells #[] 3)).there (w1.heap.size + 1) 0 1 := World.there_alloc (World.there_alloc (there_new' _ #[.int .i64 0] _ (by simp only [World.size_alloc])) _) _
  have t2 : ((((w1.alloc (.cells #[.slice none 0 0] 24)).alloc (.cells #[.int .i64 0] 3)).alloc (.cells #[.bool false] 4)).alloc (.cells #[] 3)).there (w1.heap.size + 2) 0 1 := World.there_alloc (there_new' _ #[.bool false] _ (by simp only [World.size_alloc])) _
  have ho0 : Own ((((w1.alloc (.cells #[.slice none 0 0] 24)).alloc (.cells #[.int .i64 0] 3)).alloc (.cells #[.bool false] 4)).alloc (.cells #[] 3)) (w1.heap.size + 3) (.slice (some ⟨w1.heap.size + 3, 0, none⟩) 0 0) [] := by
    have := own_new0 (((w1.alloc (.cells #[.slice none 0 0] 24)).alloc (.cells #[.int .i64 0] 3)).alloc (.cells #[.bool false] 4)) (w1.heap.size + 3) (by simp only [World.size_alloc]; omega)
    simpa only [World.size_alloc] using this
  have hsz4 : Hid (((((w1.alloc (.cells #[.slice none 0 0] 24)).alloc (.cells #[.int .i64 0] 3)).alloc (.cells #[.bool false] 4)).alloc (.cells #[] 3)).heap.size = w1.heap.size + 4) := by show _ = _; simp only [World.size_alloc]
  have CC := Lib.hid (clone_some a1 rooms F.op.length c1 _ (H1.out.kp (hkw.trans hk2)) Hn1.out (by omega))
  have E0 := Lib.hid e0; have E1 := Lib.hid e1; have E2 := Lib.hid e2; have T0 := Lib.hid t0; have T1 := Lib.hid t1; have T2 := Lib.hid t2; have HO := Lib.hid ho0; have Hk2 := Lib.hid hk2
  clear e0 e1 e2 t0 t1 t2 ho0 hk2
  go_wp2_with fail
  with_reducible refine Calls.mono CC.out ?_
  rintro e w2 ⟨v, rfl, hown, hk3⟩
  clear CC
  obtain ⟨g, cl, rfl⟩ := hown.at0 (n := F.op.length) Hn1.out (by omega)
  have hcf := callFunc_of Try.func33 (by kernel_rfl) (by kernel_rfl)
  have hk5 : Kp w2 (((w2.alloc (.cells #[.slice (some ⟨w1.heap.size + 3, 0, none⟩) 0 0] 24)).alloc (.cells #[.slice (some ⟨g, 0, none⟩) F.op.length cl] 24)).alloc (.cells #[.func (.func 33) #[] #[.pointer (some ⟨w.heap.size + 1, 0, none⟩), .pointer (some ⟨w1.heap.size + 2, 0, none⟩), .pointer (some ⟨w1.heap.size + 1, 0, none⟩), .pointer (some ⟨w2.heap.size, 0, none⟩), .pointer (some ⟨w1.heap.size, 0, none⟩), .pointer (some ⟨w.heap.size + 2, 0, none⟩), .pointer (some ⟨w2.heap.size + 1, 0, none⟩), .pointer (some ⟨w2.heap.size + 2, 0, none⟩), .pointer (some ⟨w.heap.size, 0, none⟩)]] 60)) := (((Kp.refl w2).alloc _).alloc _).alloc _
  have e3 : (((w2.alloc (.cells #[.slice (some ⟨w1.heap.size + 3, 0, none⟩) 0 0] 24)).alloc (.cells #[.slice (some ⟨g, 0, none⟩) F.op.length cl] 24)).alloc (.cells #[.func (.func 33) #[] #[.pointer (some ⟨w.heap.size + 1, 0, none⟩), .pointer (some ⟨w1.heap.size + 2, 0, none⟩), .pointer (some ⟨w1.heap.size + 1, 0, none⟩), .pointer (some ⟨w2.heap.size, 0, none⟩), .pointer (some ⟨w1.heap.size, 0, none⟩), .pointer (some ⟨w.heap.size + 2, 0, none⟩), .pointer (some ⟨w2.heap.size + 1, 0, none⟩), .pointer (some ⟨w2.heap.size + 2, 0, none⟩), .pointer (some ⟨w.heap.size, 0, none⟩)]] 60)).rangeAt w2.heap.size 0 [.slice (some ⟨w1.heap.size + 3, 0, none⟩) 0 0] := World.rangeAt_alloc (World.rangeAt_alloc (range_new' _ [_] _ rfl) _) _
  have e4 : (((w2.alloc (.cells #[.slice (some ⟨w1.heap.size + 3, 0, none⟩) 0 0] 24)).alloc (.cells #[.slice (some ⟨g, 0, none⟩) F.op.length cl] 24)).alloc (.cells #[.func (.func 33) #[] #[.pointer (some ⟨w.heap.size + 1, 0, none⟩), .pointer (some ⟨w1.heap.size + 2, 0, none⟩), .pointer (some ⟨w1.heap.size + 1, 0, none⟩), .pointer (some ⟨w2.heap.size, 0, none⟩), .pointer (some ⟨w1.heap.size, 0, none⟩), .pointer (some ⟨w.heap.size + 2, 0, none⟩), .pointer (some ⟨w2.heap.size + 1, 0, none⟩), .pointer (some ⟨w2.heap.size + 2, 0, none⟩), .pointer (some ⟨w.heap.size, 0, none⟩)]] 60)).rangeAt (w2.heap.size + 1) 0 [.slice (some ⟨g, 0, none⟩) F.op.length cl] := World.rangeAt_alloc (range_new' _ [_] _ (by simp only [World.size_alloc])) _
  have e5 : (((w2.alloc (.cells #[.slice (some ⟨w1.heap.size + 3, 0, none⟩) 0 0] 24)).alloc (.cells #[.slice (some ⟨g, 0, none⟩) F.op.length cl] 24)).alloc (.cells #[.func (.func 33) #[] #[.pointer (some ⟨w.heap.size + 1, 0, none⟩), .pointer (some ⟨w1.heap.size + 2, 0, none⟩), .pointer (some ⟨w1.heap.size + 1, 0, none⟩), .pointer (some ⟨w2.heap.size, 0, none⟩), .pointer (some ⟨w1.heap.size, 0, none⟩), .pointer (some ⟨w.heap.size + 2, 0, none⟩), .pointer (some ⟨w2.heap.size + 1, 0, none⟩), .pointer (some ⟨w2.heap.size + 2, 0, none⟩), .pointer (some ⟨w.heap.size, 0, none⟩)]] 60)).rangeAt (w2.heap.size + 2) 0 [.func (.func 33) #[] #[.pointer (some ⟨w.heap.size + 1, 0, none⟩), .pointer (some ⟨w1.heap.size + 2, 0, none⟩), .pointer (some ⟨w1.heap.size + 1, 0, none⟩), .pointer (some ⟨w2.heap.size, 0, none⟩), .pointer (some ⟨w1.heap.size, 0, none⟩), .pointer (some ⟨w.heap.size + 2, 0, none⟩), .pointer (some ⟨w2.heap.size + 1, 0, none⟩), .pointer (some ⟨w2.heap.size + 2, 0, none⟩), .pointer (some ⟨w.heap.size, 0, none⟩)]] := range_new' _ [_] _ (by simp only [World.size_alloc])
  have t3 : (((w2.alloc (.cells #[.slice (some ⟨w1.heap.size + 3, 0, none⟩) 0 0] 24)).alloc (.cells #[.slice (some ⟨g, 0, none⟩) F.op.length cl] 24)).alloc (.cells #[.func (.func 33) #[] #[.pointer (some ⟨w.heap.size + 1, 0, none⟩), .pointer (some ⟨w1.heap.size + 2, 0, none⟩), .pointer (some ⟨w1.heap.size + 1, 0, none⟩), .pointer (some ⟨w2.heap.size, 0, none⟩), .pointer (some ⟨w1.heap.size, 0, none⟩), .pointer (some ⟨w.heap.size + 2, 0, none⟩), .pointer (some ⟨w2.heap.size + 1, 0, none⟩), .pointer (some ⟨w2.heap.size + 2, 0, none⟩), .pointer (some ⟨w.heap.size, 0, none⟩)]] 60)).there w2.heap.size 0 1 := World.there_alloc (World.there_alloc (there_new' _ #[.slice (some ⟨w1.heap.size + 3, 0, none⟩) 0 0] _ rfl) _) _
  have y3 : TyAt (((w2.alloc (.cells #[.slice (some ⟨w1.heap.size + 3, 0, none⟩) 0 0] 24)).alloc (.cells #[.slice (some ⟨g, 0, none⟩) F.op.length cl] 24)).alloc (.cells #[.func (.func 33) #[] #[.pointer (some ⟨w.heap.size + 1, 0, none⟩), .pointer (some ⟨w1.heap.size + 2, 0, none⟩), .pointer (some ⟨w1.heap.size + 1, 0, none⟩), .pointer (some ⟨w2.heap.size, 0, none⟩), .pointer (some ⟨w1.heap.size, 0, none⟩), .pointer (some ⟨w.heap.size + 2, 0, none⟩), .pointer (some ⟨w2.heap.size + 1, 0, none⟩), .pointer (some ⟨w2.heap.size + 2, 0, none⟩), .pointer (some ⟨w.heap.size, 0, none⟩)]] 60)) w2.heap.size 24 := (TyAt.new _ _ _ rfl).kp (((Kp.refl _).alloc _).alloc _)
  have y4 : TyAt (((w2.alloc (.cells #[.slice (some ⟨w1.heap.size + 3, 0, none⟩) 0 0] 24)).alloc (.cells #[.slice (some ⟨g, 0, none⟩) F.op.length cl] 24)).alloc (.cells #[.func (.func 33) #[] #[.pointer (some ⟨w.heap.size + 1, 0, none⟩), .pointer (some ⟨w1.heap.size + 2, 0, none⟩), .pointer (some ⟨w1.heap.size + 1, 0, none⟩), .pointer (some ⟨w2.heap.size, 0, none⟩), .pointer (some ⟨w1.heap.size, 0, none⟩), .pointer (some ⟨w.heap.size + 2, 0, none⟩), .pointer (some ⟨w2.heap.size + 1, 0, none⟩), .pointer (some ⟨w2.heap.size + 2, 0, none⟩), .pointer (some ⟨w.heap.size, 0, none⟩)]] 60)) (w2.heap.size + 1) 24 := (TyAt.new _ _ _ (by simp only [World.size_alloc])).kp ((Kp.refl _).alloc _)
  have y5 : TyAt (((w2.alloc (.cells #[.slice (some ⟨w1.heap.size + 3, 0, none⟩) 0 0] 24)).alloc (.cells #[.slice (some ⟨g, 0, none⟩) F.op.length cl] 24)).alloc (.cells #[.func (.func 33) #[] #[.pointer (some ⟨w.heap.size + 1, 0, none⟩), .pointer (some ⟨w1.heap.size + 2, 0, none⟩), .pointer (some ⟨w1.heap.size + 1, 0, none⟩), .pointer (some ⟨w2.heap.size, 0, none⟩), .pointer (some ⟨w1.heap.size, 0, none⟩), .pointer (some ⟨w.heap.size + 2, 0, none⟩), .pointer (some ⟨w2.heap.size + 1, 0, none⟩), .pointer (some ⟨w2.heap.size + 2, 0, none⟩), .pointer (some ⟨w.heap.size, 0, none⟩)]] 60)) (w2.heap.size + 2) 60 := TyAt.new _ _ _ (by simp only [World.size_alloc])
  have hsz5 := hk3.le
  rw [hsz4.out] at hsz5
  have hle := hk1.le
  rw [hsz.out] at hle
  have hkc := Hk2.out.trans hk3
  have hkw2 : Kp w w2 := (hkw.trans hkc)
  have ho5 := (HO.out.kp hk3).kp hk5
  have hown5 := (hown.mono (base' := w1.heap.size + 3) (by rw [hsz4.out]; omega)).kp hk5
  have hgl := (hown.lt g rfl)
  rw [hsz4.out] at hgl
  have hq : WhS w (((w2.alloc (.cells #[.slice (some ⟨w1.heap.size + 3, 0, none⟩) 0 0] 24)).alloc (.cells #[.slice (some ⟨g, 0, none⟩) F.op.length cl] 24)).alloc (.cells #[.func (.func 33) #[] #[.pointer (some ⟨w.heap.size + 1, 0, none⟩), .pointer (some ⟨w1.heap.size + 2, 0, none⟩), .pointer (some ⟨w1.heap.size + 1, 0, none⟩), .pointer (some ⟨w2.heap.size, 0, none⟩), .pointer (some ⟨w1.heap.size, 0, none⟩), .pointer (some ⟨w.heap.size + 2, 0, none⟩), .pointer (some ⟨w2.heap.size + 1, 0, none⟩), .pointer (some ⟨w2.heap.size + 2, 0, none⟩), .pointer (some ⟨w.heap.size, 0, none⟩)]] 60)) w.heap.size w1.heap.size w2.heap.size (.slice A F.op.length c) (.slice B F.di.length d) (.slice A2 n2 c2) (.slice A3 n3 c3) (.func (.func 33) #[] #[.pointer (some ⟨w.heap.size + 1, 0, none⟩), .pointer (some ⟨w1.heap.size + 2, 0, none⟩), .pointer (some ⟨w1.heap.size + 1, 0, none⟩), .pointer (some ⟨w2.heap.size, 0, none⟩), .pointer (some ⟨w1.heap.size, 0, none⟩), .pointer (some ⟨w.heap.size + 2, 0, none⟩), .pointer (some ⟨w2.heap.size + 1, 0, none⟩), .pointer (some ⟨w2.heap.size + 2, 0, none⟩), .pointer (some ⟨w.heap.size, 0, none⟩)]) g F.op.length cl (.slice (some ⟨w1.heap.size + 3, 0, none⟩) 0 0) (.slice none 0 0) [] rooms [] 0 false := by
    have k1 := (hk1.trans hkc).trans hk5
    have k2 := hk3.trans hk5
    exact ⟨hkw2.trans hk5, ⟨rfl, by omega, by omega⟩,
      k1.get (D0.out 0 _ rfl), k1.get (D0.out 1 _ rfl), k1.get (D1.out 0 _ rfl), k1.get (D2.out 0 _ rfl),
      e5 0 _ rfl, k2.get (E0.out 0 _ rfl), k2.get (E1.out 0 _ rfl), k2.get (E2.out 0 _ rfl), e3 0 _ rfl, e4 0 _ rfl,
      there_kp T0.out k2, there_kp T1.out k2, there_kp T2.out k2, t3, y3, y4, y5,
      ho5, hown5, Own.nil _ _, Hn1.out, fun k hk => by have h1 : w1.heap.size + 3 = k := (by simpa [Value.ownBlock] using hk); omega, fun k hk => by simp [Value.ownBlock] at hk, fun k hk => by simp [Value.ownBlock]⟩
  have CL := Lib.hid (whClo F rooms needs S HP.out w w.heap.size w1.heap.size w2.heap.size A c B d A2 n2 c2 A3 n3 c3 g cl HF.out H2.out Hn2.out H3.out Hn3.out F.di.length 0 [] rooms 0 none _ 0 (.slice none 0 0) _ rfl (by omega) (by omega) (by omega) HP.out.rb ⟨fun l c e => (by cases e), fun l c e => (by cases e)⟩ hq)
  clear e3 e4 e5 t3 y3 y4 y5 hk5 hown5 ho5 hq
  go_wp2_with fail
  refine Calls.mono CL.out ?_
  rintro e w7 ⟨rfl, gl', cll', vb', hq⟩
  clear CL
  obtain ⟨vA, vc, rfl⟩ := hq.ob.shape
  have z0 := hq.b0; have z1 := hq.l0; have z2 := hq.k0
  go_wp2_with fail
  go_region
  go_wp2_with fail
  go_ret3
  exact ⟨_, by rw [HW.out.2.1, HW.out.2.2]; rfl, by rw [HW.out.1]; exact (hq.ob.mono (by have := hkw.le; omega)).kp (by repeat (first | with_reducible assumption | with_reducible exact Kp.refl _ | with_reducible refine Kp.drew ?_ | with_reducible refine Kp.alloc ?_ _ | with_reducible refine Kp.drewN ?_ _ | refine Kp.setCell ?_ (by dsimp only; omega) _)), hq.kp.trans (by repeat (first | with_reducible assumption | with_reducible exact Kp.refl _ | with_reducible refine Kp.drew ?_ | with_reducible refine Kp.alloc ?_ _ | with_reducible refine Kp.drewN ?_ _ | refine Kp.setCell ?_ (by dsimp only; omega) _))⟩
end Go.Proofs.Ytgdicmeabppngaa

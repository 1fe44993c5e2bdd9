/- IsSeason: the program's walk. No condition. -/
import Derived.Test.YtjoebikljmkhfaaSea6
namespace Go.Proofs.Ytjoebikljmkhfaa
open Go.RowKit

theorem grid3 {w : World} {A B C : Option Addr} {xs ys zs : List Int} {a b c : Nat} (h1 : IntsAt w A xs) (h2 : IntsAt w B ys) (h3 : IntsAt w C zs) :
    GridAt (w.alloc (.cells #[.slice A xs.length a, .slice B ys.length b, .slice C zs.length c] 22)) (some ⟨w.heap.size, 0, none⟩) [xs, ys, zs] := by
  have hk : Kp w (w.alloc (.cells #[.slice A xs.length a, .slice B ys.length b, .slice C zs.length c] 22)) := (Kp.refl w).alloc _
  refine ⟨by simp, fun k hk3 => ?_⟩
  have : k = 0 ∨ k = 1 ∨ k = 2 := by simp at hk3; omega
  rcases this with rfl | rfl | rfl
  · exact ⟨_, A, a, rfl, by rw [add0, World.cell?_alloc_at _ _ _ _ rfl]; rfl, h1.kp hk⟩
  · exact ⟨_, B, b, rfl, by rw [add0, World.cell?_alloc_at _ _ _ _ rfl]; rfl, h2.kp hk⟩
  · exact ⟨_, C, c, rfl, by rw [add0, World.cell?_alloc_at _ _ _ _ rfl]; rfl, h3.kp hk⟩
theorem allB_append (xs ys : List Int) (lo hi : Int) : allB (xs ++ ys) lo hi = (allB xs lo hi && allB ys lo hi) := by simp [allB]
theorem allB_three (xs ys zs : List Int) (lo hi : Int) : allB [xs, ys, zs].flatten lo hi = (allB xs lo hi && allB ys lo hi && allB zs lo hi) := by
  simp [allB, Bool.and_assoc]
theorem goodS_is {S : Sea} (h1 : inB S.op.length 1 5 = true) (h2 : S.cl.length = S.op.length) (h3 : S.ke.length = S.op.length) : goodS S = (allB [S.op, S.cl, S.ke].flatten 0 99 && decide (S.ro.length ≤ 5) && S.ro.all (roundB S.op.length)) := by
  rw [allB_three, goodS, h1, rowB, rowB, rowB, h2, h3]
  simp
set_option maxRecDepth 100000 in
set_option maxHeartbeats 1000000 in
theorem implIsSeason_any (f : Value) (S : Sea) (w : World) (hf : SeaAt w f S) :
    Calls Try.prog 32 #[f] w fun e w' => e = .returned (.bool (goodS S)) ∧ Kp w w' := by
  have hmf : ∀ (fn : Fn) (first cap : Array Value) (w : World), (Instr.makeFunc fn first cap).run Try.prog w = .ok (.func fn first cap) w := fun _ _ _ _ => rfl
  obtain ⟨A, a, B, b, C, c, D, d, rfl, hA, hB, hC, hD⟩ := hf
  have hk0 : Kp w (w.alloc (.cells #[.slice A S.op.length a, .slice B S.cl.length b, .slice C S.ke.length c, .slice D S.ro.length d] 31)) := (Kp.refl w).alloc _
  obtain ⟨d0, d1, d2, d3⟩ := box4 w (.slice A S.op.length a) (.slice B S.cl.length b) (.slice C S.ke.length c) (.slice D S.ro.length d) 31
  have hSA := SeaAt.kp (show SeaAt w (.agg #[.slice A S.op.length a, .slice B S.cl.length b, .slice C S.ke.length c, .slice D S.ro.length d]) S from ⟨A, a, B, b, C, c, D, d, rfl, hA, hB, hC, hD⟩) hk0
  replace hA := hA.kp hk0
  replace hB := hB.kp hk0
  replace hC := hC.kp hk0
  replace hD := hD.kp hk0
  have hol := hA.1; have hrl := hD.1; have hcll := hB.1; have hkel := hC.1
  have hk1 : Kp (w.alloc (.cells #[.slice A S.op.length a, .slice B S.cl.length b, .slice C S.ke.length c, .slice D S.ro.length d] 31)) ((w.alloc (.cells #[.slice A S.op.length a, .slice B S.cl.length b, .slice C S.ke.length c, .slice D S.ro.length d] 31)).alloc (.cells #[.int .i64 (S.op.length : Int)] 3)) := (Kp.refl _).alloc _
  have dn : ((w.alloc (.cells #[.slice A S.op.length a, .slice B S.cl.length b, .slice C S.ke.length c, .slice D S.ro.length d] 31)).alloc (.cells #[.int .i64 (S.op.length : Int)] 3)).cell? ⟨w.heap.size + 1, 0, none⟩ = some (.int .i64 (S.op.length : Int)) := by
    rw [World.cell?_alloc_at _ _ _ _ (by simp)]; rfl
  replace d0 := hk1.get d0; replace d1 := hk1.get d1; replace d2 := hk1.get d2; replace d3 := hk1.get d3
  replace hA := hA.kp hk1; replace hB := hB.kp hk1; replace hC := hC.kp hk1; replace hD := hD.kp hk1
  replace hk0 := hk0.trans hk1
  clear hk1 hSA
  go_enter Try.func32, Try.ntmps32
  go_wp2_with fail
  generalize ((w.alloc (.cells #[.slice A S.op.length a, .slice B S.cl.length b, .slice C S.ke.length c, .slice D S.ro.length d] 31)).alloc (.cells #[.int .i64 (S.op.length : Int)] 3)) = wb at *
  with_reducible refine Calls.mono (between_any _ _ _ _) ?_
  rintro e w1 ⟨rfl, hw⟩
  obtain rfl := hw
  cases h1 : inB (S.op.length : Int) 1 5
  · have Hno : Hid (goodS S = false) := by show goodS S = false; rw [goodS, h1]; rfl
    clear h1
    go_wp2_with fail
    go_ret
    exact ⟨ret_bool Hno.out.symm, hk0⟩
  have H1 := Lib.hid h1; clear h1
  by_cases hcl : S.cl.length = S.op.length
  case neg =>
    have hb1 : ((S.cl.length : Int) != (S.op.length : Int)) = true := by simp; omega
    have Hno : Hid (goodS S = false) := by show goodS S = false; rw [goodS, rowB, rowB]; simp [hcl]
    clear hcl
    go_wp2_with fail
    go_ret
    exact ⟨ret_bool Hno.out.symm, hk0⟩
  have hb1 : ((S.cl.length : Int) != (S.op.length : Int)) = false := by simp [hcl]
  by_cases hke : S.ke.length = S.op.length
  case neg =>
    have hb2 : ((S.ke.length : Int) != (S.op.length : Int)) = true := by simp; omega
    have Hno : Hid (goodS S = false) := by show goodS S = false; rw [goodS, rowB, rowB, rowB]; simp [hke]
    clear hke hcl
    go_wp2_with fail
    go_ret
    exact ⟨ret_bool Hno.out.symm, hk0⟩
  have hb2 : ((S.ke.length : Int) != (S.op.length : Int)) = false := by simp [hke]
  have HI := Lib.hid (goodS_is H1.out hcl hke)
  have hn5 := (inB_iff.1 H1.out).2
  have hsum : Hid (rowSum [S.op, S.cl, S.ke] ≤ 1048576) := by show _ ≤ _; simp [rowSum]; omega
  clear hcl hke
  go_wp2_with fail
  have hkb : Kp wb (wb.alloc (.cells #[.slice A S.op.length a, .slice B S.cl.length b, .slice C S.ke.length c] 22)) := (Kp.refl wb).alloc _
  have CC := Lib.hid (concat_any (some ⟨wb.heap.size, 0, none⟩) [S.op, S.cl, S.ke] 3 3 _ (grid3 (a := a) (b := b) (c := c) hA hB hC) rfl hsum.out)
  with_reducible refine Calls.mono CC.out ?_
  rintro e w2 ⟨v, rfl, ho, hk2⟩
  clear CC
  replace hkb := hkb.trans hk2
  obtain ⟨Av, cv, hve, hiv⟩ := ho.ints (by rw [flat_len]; have := hsum.out; omega)
  generalize [S.op, S.cl, S.ke].flatten = fl at *
  subst hve
  have q_d0 := hkb.get d0
  have q_d1 := hkb.get d1
  have q_d2 := hkb.get d2
  have q_d3 := hkb.get d3
  have q_dn := hkb.get dn
  go_wp2_with fail
  have CC := Lib.hid (areBetween_any Av _ _ cv 0 99 _ hiv rfl)
  with_reducible refine Calls.mono CC.out ?_
  rintro e w3 ⟨rfl, hk3⟩
  clear CC q_d0 q_d1 q_d2 q_d3 q_dn
  replace hkb := hkb.trans hk3
  cases h4 : allB fl 0 99
  · have Hno : Hid (goodS S = false) := by show goodS S = false; rw [HI.out, h4]; rfl
    clear h4
    have q_d0 := hkb.get d0
    have q_d1 := hkb.get d1
    have q_d2 := hkb.get d2
    have q_d3 := hkb.get d3
    have q_dn := hkb.get dn
    go_wp2_with fail
    go_ret
    exact ⟨ret_bool Hno.out.symm, hk0.trans hkb⟩
  have H4 := Lib.hid h4; clear h4
  by_cases h5 : S.ro.length ≤ 5
  case neg =>
    have Hno : Hid (goodS S = false) := by show goodS S = false; rw [HI.out]; simp [h5]
    have q_d0 := hkb.get d0
    have q_d1 := hkb.get d1
    have q_d2 := hkb.get d2
    have q_d3 := hkb.get d3
    have q_dn := hkb.get dn
    go_wp2_with fail
    go_ret
    exact ⟨ret_bool Hno.out.symm, hk0.trans hkb⟩
  have q_d0 := hkb.get d0
  have q_d1 := hkb.get d1
  have q_d2 := hkb.get d2
  have q_d3 := hkb.get d3
  have q_dn := hkb.get dn
  go_wp2_with fail
  have CC := Lib.hid (containsFunc3_any 42 #[.pointer (some ⟨w.heap.size + 1, 0, none⟩)] (fun cs => !roundB S.op.length cs) D S.ro _ d _ (hD.kp hkb) rfl (callFunc_of Try.func42 (by kernel_rfl) (by kernel_rfl)) (fun k hk A' c' w' hk' hg => seaClo1_any A' _ c' S.op.length _ w' hg ((hkb.trans hk').get dn)))
  with_reducible refine Calls.mono CC.out ?_
  rintro e w4 ⟨rfl, hk4⟩
  clear CC q_d0 q_d1 q_d2 q_d3 q_dn
  replace hkb := hkb.trans hk4
  have hfin : Hid ((!S.ro.any fun cs => !roundB S.op.length cs) = goodS S) := by
    show _ = _
    rw [HI.out, H4.out, List.all_eq_not_any_not]; simp [h5]
  have q_d0 := hkb.get d0
  have q_d1 := hkb.get d1
  have q_d2 := hkb.get d2
  have q_d3 := hkb.get d3
  have q_dn := hkb.get dn
  go_wp2_with fail
  go_ret
  exact ⟨ret_bool hfin.out, hk0.trans hkb⟩
end Go.Proofs.Ytjoebikljmkhfaa

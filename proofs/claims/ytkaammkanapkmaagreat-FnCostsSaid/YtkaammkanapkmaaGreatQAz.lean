/- The drawing of arguments for the laws on costs. No condition. -/
import Derived.Test.YtkaammkanapkmaaGreatQAy
namespace Go.Proofs.YtkaammkanapkmaaGreat
open Go.RowKit Go.Sort

set_option maxRecDepth 100000 in
set_option maxHeartbeats 1000000 in
theorem drawCostTable_any (A : Option Addr) (n c : Nat) (w : World) (hb : BytesAt w A n) :
    Calls Tryz.prog 5 #[.slice A n c] w fun e w' => ∃ v, e = .returned v ∧ DFld w' w.heap.size v ∧ Kp w w' := by
  have t0 := there_newD w [.slice none 0 0, .slice none 0 0] 27
  simp only [List.length_cons, List.length_nil, Nat.zero_add, Nat.reduceAdd] at t0
  have k1 : Kp w (w.alloc (.cells #[.slice none 0 0, .slice none 0 0] 27)) := (Kp.refl w).alloc _
  have k2 : Kp _ ((w.alloc (.cells #[.slice none 0 0, .slice none 0 0] 27)).alloc (.cells #[.slice A n c, .int .i64 0, .int .u64 0] 45)) := (Kp.refl _).alloc _
  have cu := cur_new (c := c) (t := 45) (hb.kp k1)
  have ta := turn_thereD (Turn.of_kp (S := fun _ => False) k2) t0 (fun h => h)
  have hz : Hid (((w.alloc (.cells #[.slice none 0 0, .slice none 0 0] 27)).alloc (.cells #[.slice A n c, .int .i64 0, .int .u64 0] 45)).heap.size = w.heap.size + 2) := by show _ = _; simp
  have k0 := k1.trans k2
  rw [World.size_alloc] at cu
  have CF := Lib.hid (fieldOf_any (w.heap.size + 1) 0 6 _ cu (by omega) (by omega))
  clear k1 k2 t0
  go_enter Tryz.func5, Tryz.ntmps5
  go_wp2_with fail
  generalize (w.alloc (.cells #[.slice none 0 0, .slice none 0 0] 27)).alloc (.cells #[.slice A n c, .int .i64 0, .int .u64 0] 45) = wa at *
  with_reducible refine Calls.mono CF.out ?_
  rintro e w1 ⟨v, rfl, hv, c1, u1⟩
  clear CF
  rw [hz.out] at hv
  have t2 := turn_thereD u1 ta (by omega)
  have kk : Kp w w1 := k0.turn u1 (fun i hi => by omega)
  obtain ⟨A9, n9, c9, B9, k9, d9, rfl, _⟩ := hv.shape
  have HE := Lib.hid (drw_ret hv (by omega) t2 kk (Nat.le_refl _))
  go_wp2_with (first | (refine wpList_store_mid rfl 27 (.tmp 2) (.tmp 8) rfl w.heap.size 0 #[.slice A9 n9 c9, .slice B9 k9 d9] rfl rfl t2 (by kernel_rfl) (by simp [Value.oneCell']) ?_) | fail)
  obtain ⟨z0, z1, z2, z3, _⟩ := HE.out
  exact bodyPost_ret (v := .agg #[.slice A9 n9 c9, .slice B9 k9 d9]) (by simp [results, Tryz.results5, go_sem, z0, z1]) rfl ⟨_, rfl, z2, z3⟩
/-- A field and a list have been drawn. -/
def FlPost (w : World) (e : Ending) (w' : World) : Prop := ∃ v l, e = .returned (.tuple #[v, l]) ∧ DFld w' w.heap.size v ∧ DInts w' w.heap.size l ∧ Kp w w'
set_option maxRecDepth 100000 in
set_option maxHeartbeats 2000000 in
theorem drawCostOfClients_any (A : Option Addr) (n c : Nat) (w : World) (hb : BytesAt w A n) :
    Calls Tryz.prog 8 #[.slice A n c] w fun e w' => FlPost w e w' := by
  have t0 := there_newD w [.slice none 0 0, .slice none 0 0] 27
  simp only [List.length_cons, List.length_nil, Nat.zero_add, Nat.reduceAdd] at t0
  have k1 : Kp w (w.alloc (.cells #[.slice none 0 0, .slice none 0 0] 27)) := (Kp.refl w).alloc _
  have k2 : Kp _ ((w.alloc (.cells #[.slice none 0 0, .slice none 0 0] 27)).alloc (.cells #[.slice A n c, .int .i64 0, .int .u64 0] 45)) := (Kp.refl _).alloc _
  have cu := cur_new (c := c) (t := 45) (hb.kp k1)
  have ta := turn_thereD (Turn.of_kp (S := fun _ => False) k2) t0 (fun h => h)
  have hz : Hid (((w.alloc (.cells #[.slice none 0 0, .slice none 0 0] 27)).alloc (.cells #[.slice A n c, .int .i64 0, .int .u64 0] 45)).heap.size = w.heap.size + 2) := by show _ = _; simp
  have k0 := k1.trans k2
  rw [World.size_alloc] at cu
  have CF := Lib.hid (field_any (w.heap.size + 1) 0 _ cu (by omega))
  clear k1 k2 t0
  go_enter Tryz.func8, Tryz.ntmps8
  go_wp2_with fail
  generalize (w.alloc (.cells #[.slice none 0 0, .slice none 0 0] 27)).alloc (.cells #[.slice A n c, .int .i64 0, .int .u64 0] 45) = wa at *
  with_reducible refine Calls.mono CF.out ?_
  rintro e w1 ⟨v, rfl, hv, c1, u1⟩
  clear CF
  rw [hz.out] at hv
  obtain ⟨A9, n9, c9, B9, k9, d9, rfl, hn9⟩ := hv.shape
  have kv : Kp w1 (w1.alloc (.cells #[.slice A9 n9 c9, .slice B9 k9 d9] 27)) := (Kp.refl w1).alloc _
  obtain ⟨d0, d1⟩ := box2 w1 (.slice A9 n9 c9) (.slice B9 k9 d9) 27
  have hvb : w.heap.size + 2 ≤ w1.heap.size := by have := u1.size; rw [hz.out] at this; exact this
  have tv := turn_thereD (Turn.of_kp (S := fun _ => False) kv) (turn_thereD u1 ta (by omega)) (fun h => h)
  have kk : Kp w (w1.alloc (.cells #[.slice A9 n9 c9, .slice B9 k9 d9] 27)) := (k0.turn u1 (fun i hi => by omega)).trans kv
  have hfv := hv.kp kv
  have cv := c1.kp kv
  clear hv c1 u1 ta k0 cu hz
  go_wp2_with fail
  generalize w1.alloc (.cells #[.slice A9 n9 c9, .slice B9 k9 d9] 27) = wr at *
  generalize w1.heap.size = bv at *
  obtain ⟨nn, hnn⟩ : ∃ nn : Nat, min (k9 : Int) 7 = (nn : Int) := ⟨min k9 7, by omega⟩
  have hn7 : nn ≤ 7 := by omega
  have CL := Lib.hid (l1Least_any (k9 : Int) 7 wr)
  rw [hnn] at CL
  obtain ⟨P, HP, hpw, hP⟩ := pow_wrap (nn : Int) (by omega) (by omega)
  rw [Int.toNat_natCast] at hpw
  have hP1 : 1 ≤ P := by rw [HP.out]; exact Nat.one_le_two_pow
  have CP := Lib.hid (pick_any (w.heap.size + 1) _ P wr cv (by omega) (by omega))
  have hbv : bv ≠ w.heap.size + 1 := by omega
  clear hnn
  with_reducible refine Calls.mono CL.out ?_
  rintro e w1 ⟨rfl, hw⟩
  obtain rfl := hw
  clear CL
  go_wp2_with fail
  with_reducible refine Calls.mono CP.out ?_
  rintro e w2 ⟨r, rfl, hr, c2, u2⟩
  clear CP
  obtain ⟨q, rfl⟩ := Int.eq_ofNat_of_zero_le hr.1
  have hq : q < P := by have := hr.2.2 (by omega); omega
  have CB := Lib.hid (l2Bits_any nn q w2 (by omega) (by omega))
  have e0 := turn_cellD u2 d0 hbv
  have e1 := turn_cellD u2 d1 hbv
  have t2 := turn_thereD u2 tv (by omega)
  have k2 : Kp w w2 := kk.turn u2 (fun i hi => by omega)
  have f2 := hfv.turn u2 (fun i hi => by omega)
  have hb2 : w.heap.size + 2 ≤ w2.heap.size := by have := u2.size; have h1 := World.block_lt_of_cell? _ _ d0; simp only at h1; omega
  clear hr d0 d1 tv kk hfv cv u2
  go_wp2_with fail
  with_reducible refine Calls.mono CB.out ?_
  rintro e w3 ⟨v, rfl, ho, hk3⟩
  clear CB
  have hbl := bitsL_len nn q
  obtain ⟨ys, hys⟩ : ∃ ys, bitsL nn q = ys := ⟨_, rfl⟩
  rw [hys] at ho hbl
  have c3 := c2.kp hk3
  have T3 : Tp (w.heap.size + 1) w2 w3 := Turn.of_kp hk3
  have CP := Lib.hid (one_any (w.heap.size + 1) _ 16 w3 c3 (by omega) (by omega))
  clear hys c2 hk3
  go_wp2_with fail
  with_reducible refine Calls.mono CP.out ?_
  rintro e w4 ⟨b, rfl, c4, u4⟩
  clear CP
  have ho4 := own_low ho u4 (fun i hi => by omega)
  have T4 := T3.trans u4
  clear ho c3 T3 u4
  cases b
  · obtain ⟨AL, cL, rfl⟩ := ho4.shape
    have hld : DInts w4 (w.heap.size + 2) (.slice AL ys.length cL) := ⟨ys, ho4.mono hb2, by omega⟩
    have s0 := turn_cellD T4 e0 hbv
    have s1 := turn_cellD T4 e1 hbv
    have td := turn_thereD T4 t2 (by omega)
    have kd : Kp w _ := k2.turn T4 (fun i hi => by omega)
    have hfd := f2.turn T4 (fun i hi => by omega)
    have HE := Lib.hid (drw_ret hfd (by omega) td kd (Nat.le_refl _))
    have hi2 : ∀ i, w.heap.size + 2 ≤ i → ¬ i = w.heap.size := fun i hi => by omega
    have hsz3 : w.heap.size ≤ w.heap.size + 2 := by omega
    go_wp2_with (first | (refine wpList_store_mid rfl 27 (.tmp 2) (.tmp 31) rfl w.heap.size 0 #[.slice A9 n9 c9, .slice B9 k9 d9] rfl rfl td (by kernel_rfl) (by simp [Value.oneCell']) ?_) | fail)
    obtain ⟨z0, z1, z2, z3, z4⟩ := HE.out
    exact bodyPost_ret (v := .tuple #[.agg #[.slice A9 n9 c9, .slice B9 k9 d9], .slice AL (ys.length) cL]) (by simp [results, Tryz.results8, go_sem, z0, z1]) rfl ⟨_, _, rfl, z2, (hld.turn z4 (fun i hi => hi2 i hi)).mono hsz3, z3⟩
  · have CC := amongLit_any (w.heap.size + 1) _ [-1, 0, 7] w4 c4 (by omega) (by simp) (by simp)
    simp only [List.map_cons, List.map_nil, List.length_cons, List.length_nil, Nat.zero_add, Nat.reduceAdd] at CC
    replace CC := Lib.hid CC
    go_wp2_with fail
    with_reducible refine Calls.mono CC.out ?_
    rintro e w5 ⟨z, rfl, _, c5, u5⟩
    clear CC
    have ho5 := own_low ho4 u5 (fun i hi => by omega)
    have T5 := T4.trans u5
    have hb5 : w2.heap.size ≤ w5.heap.size := T5.size
    have hys2 : ys.length < 1048576 := by omega
    obtain ⟨N6, hN6⟩ : ∃ N6, ys.length + 1 = N6 := ⟨_, rfl⟩
    have hl6 : (ys ++ [z]).length = N6 := by rw [List.length_append, ← hN6]; rfl
    clear ho4 c4 T4 u5
    have hi2 : ∀ i, w.heap.size + 2 ≤ i → ¬ i = w.heap.size := fun i hi => by omega
    have hsz3 : w.heap.size ≤ w.heap.size + 2 := by omega
    go_wp2_with (first | (at_builtin; go_loud (refine wpl_app rfl (.tmp 25) (.tmp 29) rfl w2.heap.size _ ys z rfl rfl ho5 hb5 hys2 ?_); intro v6 w6 ho6 ht6 h46; have T6 := tp_own T5 ht6 (fun i e => (ho5.lt i e).1); obtain ⟨AL, cL, hv6⟩ := ho6.shape; rw [hl6] at hv6; subst hv6; have s0 := turn_cellD T6 e0 hbv; have s1 := turn_cellD T6 e1 hbv; have td := turn_thereD T6 t2 (by omega); have kd : Kp w w6 := k2.turn T6 (fun i hi => by omega); have hfd := f2.turn T6 (fun i hi => by omega); have hld : DInts w6 (w.heap.size + 2) (.slice AL N6 cL) := ⟨ys ++ [z], ho6.mono hb2, by omega⟩; have HE := Lib.hid (drw_ret hfd (by omega) td kd (Nat.le_refl _))) | (refine wpList_store_mid rfl 27 (.tmp 2) (.tmp 31) rfl w.heap.size 0 #[.slice A9 n9 c9, .slice B9 k9 d9] rfl rfl td (by kernel_rfl) (by simp [Value.oneCell']) ?_) | fail)
    obtain ⟨z0, z1, z2, z3, z4⟩ := HE.out
    exact bodyPost_ret (v := .tuple #[.agg #[.slice A9 n9 c9, .slice B9 k9 d9], .slice AL N6 cL]) (by simp [results, Tryz.results8, go_sem, z0, z1]) rfl ⟨_, _, rfl, z2, (hld.turn z4 (fun i hi => hi2 i hi)).mono hsz3, z3⟩
end Go.Proofs.YtkaammkanapkmaaGreat

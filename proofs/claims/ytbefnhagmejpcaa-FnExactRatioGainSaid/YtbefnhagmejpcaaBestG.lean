/- All sets, as the reference gathers them for gains. No condition. -/
import Derived.Test.YtbefnhagmejpcaaMost
namespace Go.Proofs.Ytbefnhagmejpcaa
open Go.RowKit Go.Sort

set_option maxRecDepth 100000 in
set_option maxHeartbeats 1000000 in
theorem l8All_any (f : Value) (F : Fld) (w : World) (hf : FldAt w f F) (hg : goodF F = true) :
    Calls Try.prog 33 #[f] w fun e w' => ∃ v, e = .returned v ∧ v ≠ .slice none 0 0 ∧ GOwn w' (some w.heap.size) w.heap.size v (allS F.op.length) ∧ Kp w w' := by
  have hn7 := (goodF_iff.1 hg).1.2
  obtain ⟨A, c, B, d, rfl, hA, hB⟩ := hf
  have hk0 : Kp w (w.alloc (.cells #[.slice A F.op.length c, .slice B F.di.length d] 29)) := (Kp.refl w).alloc _
  obtain ⟨d0, d1⟩ := box2 w (.slice A F.op.length c) (.slice B F.di.length d) 29
  have hFA := FldAt.kp (show FldAt w (.agg #[.slice A F.op.length c, .slice B F.di.length d]) F from ⟨A, c, B, d, rfl, hA, hB⟩) hk0
  clear hA hB hg
  go_enter Try.func33, Try.ntmps33
  go_wp2_with fail
  have hsz : Hid ((w.alloc (.cells #[.slice A F.op.length c, .slice B F.di.length d] 29)).heap.size = w.heap.size + 1) := by show _ = _; simp
  generalize w.alloc (.cells #[.slice A F.op.length c, .slice B F.di.length d] 29) = wb at *
  have hkb : Kp wb wb := Kp.refl _
  have hkw := hk0
  have u1 := own_new0 wb (w.heap.size + 1) (by rw [hsz.out]; exact Nat.le_refl _)
  have o1 := gown_one (base := w.heap.size + 1 + 1) (w := wb.alloc (.cells #[] 3)) (by simp; rw [hsz.out]; exact Nat.le_refl _) (RowP.of_own u1 (by simp)) (.inr (by simp))
  have hkc : Kp wb ((wb.alloc (.cells #[] 3)).alloc (.cells #[.slice (some ⟨wb.heap.size, 0, none⟩) 0 0] 22)) := ((Kp.refl wb).alloc _).alloc _
  simp only [World.size_alloc] at o1
  rw [hsz.out] at o1 hkc
  have hzc : Hid (((wb.alloc (.cells #[] 3)).alloc (.cells #[.slice (some ⟨w.heap.size + 1, 0, none⟩) 0 0] 22)).heap.size = w.heap.size + 1 + 1 + 1) := by show _ = _; simp; rw [hsz.out]
  have q_0 := hkc.get d0
  clear u1 hkb
  generalize (wb.alloc (.cells #[] 3)).alloc (.cells #[.slice (some ⟨w.heap.size + 1, 0, none⟩) 0 0] 22) = wc at *
  go_wp2_with fail
  have CC := Lib.hid (l2Sets_any F.op.length wc hn7)
  with_reducible refine Calls.mono CC.out ?_
  rintro e ws ⟨v2, rfl, hvn, hgo, hk1⟩
  clear CC
  have HLs : Hid ((setsL F.op.length).length ≤ 127) := by
    show _ ≤ _
    rw [setsL_len]
    have : 2 ^ F.op.length ≤ 2 ^ 7 := Nat.pow_le_pow_right (by omega) hn7
    omega
  obtain ⟨ad2, c2, hve, _, hrows⟩ := hgo.rows_some (by have := HLs.out; omega) hvn
  subst hve
  have hkb1 := (hkw.trans hkc).trans hk1
  have o11 := o1.kp hk1
  have hrm := hrows.mono (b' := w.heap.size + 1) (by rw [hzc.out]; omega)
  clear o1 hgo hvn
  have hap := Lib.hid (fun k (hk : k < (setsL F.op.length).length) (ad : Addr) (u : Value) (e : some ad2 = some ad) (hc : ws.cell? (ad.add k) = some u) (_ : RowP ws (some (w.heap.size + 1)) u (setsL F.op.length)[k]) (_ : (setsL F.op.length)[k] ≠ [] ∨ some (w.heap.size + 1) ≠ none) (g : Nat) (hg : u.ownBlock = some g) => (show (Value.slice (some ⟨w.heap.size + 1 + 1, 0, none⟩) 1 1).ownBlock ≠ some g from by
    obtain ⟨ad', u', e1, e2, e3⟩ := hrows.2 k hk
    cases e
    cases e1
    rw [e2] at hc
    cases hc
    have h1 := ((e3.2 _ rfl).lt g hg).1
    rw [hzc.out] at h1
    intro h2
    have h3 := own_blk' h2
    omega))
  have hs1 : w.heap.size + 1 + 1 ≤ ws.heap.size := by have := hk1.le; rw [hzc.out] at this; omega
  have hl3 : ([[]] : List (List Int)).length + (setsL F.op.length).length ≤ 4194304 := by have := HLs.out; simp; omega
  go_wp2_with (at_builtin; go_loud (refine wpl_appg_all rfl (.tmp 4) (.tmp 8) rfl (w.heap.size + 1 + 1) (.slice (some ⟨w.heap.size + 1 + 1, 0, none⟩) 1 1) [[]] (setsL F.op.length) (some ad2) _ c2 rfl rfl o11 hrm hap.out rfl hs1 hl3 ?_; intro v' w' ho' ht' h4'))
  have hkl : Kp w w' := hkb1.turn ht' (fun i hi => by have h3 := own_blk' hi; omega)
  go_ret
  exact ⟨_, rfl, ho'.not_nil (by simp), (ho'.mono (by omega)).lo_mono (Nat.le_succ _), hkl⟩
theorem pow_two_le7 {n : Nat} (h : n ≤ 7) : 2 ^ n ≤ 128 := Nat.pow_le_pow_right (by omega) h
theorem allS_most {F : Fld} (h : goodF F = true) : (allS F.op.length).length ≤ 128 := by rw [allS_len]; exact pow_two_le7 (goodF_iff.1 h).1.2
theorem fil_pos {p : List Int → Bool} {n : Nat} (h : p [] = true) : 0 < ((allS n).filter p).length := by simp [allS, h]
theorem fil_most {F : Fld} (hg : goodF F = true) (p : List Int → Bool) : ((allS F.op.length).filter p).length ≤ 128 := Nat.le_trans (List.length_filter_le _ _) (allS_most hg)
/-- The best one of the sets that pass. -/
def bgF (F : Fld) (worth : Int) (p : List Int → Bool) : List Int := bestL (negG F worth) ((allS F.op.length).filter p)
theorem bg_mem {F : Fld} {worth : Int} {p : List Int → Bool} (h : p [] = true) : bgF F worth p ∈ (allS F.op.length).filter p := bestL_mem (fil_pos h)
theorem bg_set {F : Fld} {worth : Int} {p : List Int → Bool} (h : p [] = true) : setB F (bgF F worth p) = true := allS_ris _ (List.mem_filter.1 (bg_mem h)).1
theorem bg_len {F : Fld} {worth : Int} {p : List Int → Bool} (h : p [] = true) : (bgF F worth p).length ≤ F.op.length := set_len (bg_set h)
end Go.Proofs.Ytbefnhagmejpcaa

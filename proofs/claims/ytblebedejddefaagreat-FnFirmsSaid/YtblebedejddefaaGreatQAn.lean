/- Bytes of the call's own: append of bytes; Small functions of the laws on costs: too many bytes, equal lists, a sum, a part of the bytes; Small functions of the law on firms: a number in a list; the sites that serve; The best one is no worse than any; Two firms, leaders and followers: the answers of the law, as it compares them; Sums over the first numbers; A number of a list, 0 behind its end; A slice of the call's own: one slot read and written; one that was made; A table of numbers of the call's own, read and written. No condition. -/
import Derived.Test.YtblebedejddefaaGreatQAb
import Derived.Test.YtblebedejddefaaGreatQAc
import Derived.Test.YtblebedejddefaaGreatQAa
import Derived.Test.YtblebedejddefaaGreatQAj
import Derived.Test.YtblebedejddefaaGreatQAd
import Derived.Test.YtblebedejddefaaGreatQAh
import Derived.Test.YtblebedejddefaaGreatQAm
namespace Go.Proofs.YtblebedejddefaaGreat
open Go.RowKit Go.Sort

theorem infoByte : (Tryz.prog.info? 5).map (fun i => (i.zero, i.size, i.bytes)) = some (some (.int .u8 0), 1, 1) := by kernel_rfl
/-- A slice of bytes of the call's own. -/
def OwnB (w : World) (base : Nat) (v : Value) (xs : List Int) : Prop := w.ownsRow base 5 1 v xs.length (xs.map (Value.int .u8)) ∧ ∀ x ∈ xs, 0 ≤ x ∧ x < 256
/-- What the bytes read as. -/
theorem BytesAt.list {w : World} {A : Option Addr} {n : Nat} (h : BytesAt w A n) : ∃ ys : List Int, ys.length = n ∧ (∀ y ∈ ys, 0 ≤ y ∧ y < 256) ∧ ∀ k (hk : k < ys.length), ∃ ad, A = some ad ∧ w.cell? (ad.add k) = some (.int .u8 ys[k]) := by
  refine ⟨(List.range n).map fun k => if hk : k < n then (h.2 k hk).choose_spec.choose else 0, by simp, ?_, ?_⟩
  · intro y hy
    rw [List.mem_map] at hy
    obtain ⟨k, hk, rfl⟩ := hy
    have hk2 := List.mem_range.1 hk
    rw [dif_pos hk2]
    exact (h.2 k hk2).choose_spec.choose_spec.2.2
  · intro k hk
    have hk2 : k < n := by simpa using hk
    simp only [List.getElem_map, List.getElem_range]
    rw [dif_pos hk2]
    exact ⟨_, (h.2 k hk2).choose_spec.choose_spec.1, (h.2 k hk2).choose_spec.choose_spec.2.1⟩
/-- A part of the bytes. -/
theorem BytesAt.cut {w : World} {ad : Addr} {n k : Nat} (h : BytesAt w (some ad) n) (hk : k ≤ n) : BytesAt w (some (ad.add k)) (n - k) :=
  ⟨by have := h.1; omega, fun j hj => by
    obtain ⟨a, b, e, hc, hb⟩ := h.2 (k + j) (by omega)
    cases e
    refine ⟨ad.add k, b, rfl, ?_, hb⟩
    rw [Addr.add_add]; exact hc⟩
theorem OwnB.bytes {w : World} {base : Nat} {v : Value} {xs : List Int} (h : OwnB w base v xs) (hl : xs.length ≤ 9223372036854775807) : ∃ A c, v = .slice A xs.length c ∧ BytesAt w A xs.length := by
  rcases h.1.2 with ⟨rfl, h0⟩ | ⟨g, cap, cur, rfl, _, _, _⟩
  · refine ⟨none, 0, by rw [h0], hl, fun k hk => ?_⟩
    rw [h0] at hk; omega
  · refine ⟨_, cap, rfl, hl, fun k hk => ⟨_, xs[k], rfl, ?_, h.2 _ (List.getElem_mem hk)⟩⟩
    exact World.ownsRow.cells h.1 (g := g) rfl k (.int .u8 xs[k]) (by simp [hk])
theorem OwnB.kp {w w' : World} {base : Nat} {v : Value} {xs : List Int} (h : OwnB w base v xs) (hk : Kp w w') : OwnB w' base v xs := ⟨hk.own h.1, h.2⟩
theorem OwnB.lt {w : World} {base : Nat} {v : Value} {xs : List Int} (h : OwnB w base v xs) : ∀ i, v.ownBlock = some i → base ≤ i ∧ i < w.heap.size := h.1.lt
theorem ownB_new0 (w : World) (base : Nat) (hb : base ≤ w.heap.size) : OwnB (w.alloc (.cells #[] 5)) base (.slice (some ⟨w.heap.size, 0, none⟩) 0 0) [] :=
  ⟨World.ownsRow_lit w #[] 0 hb (by unfold maxLen; omega) (by simp), by simp⟩
theorem run_appB {W : World} (ty : TypeId) (base : Nat) (v : Value) (xs ys : List Int) (A : Option Addr) (m c : Nat)
    (hown : OwnB W base v xs) (hm : ys.length = m) (hb : ∀ y ∈ ys, 0 ≤ y ∧ y < 256) (hy : ∀ k (hk : k < ys.length), ∃ ad, A = some ad ∧ W.cell? (ad.add k) = some (.int .u8 ys[k])) (hbase : base ≤ W.heap.size) (hlen : xs.length + ys.length ≤ 4194304) :
    ∃ v' w', (Builtin.append_ #[22, 22] ty #[v, .slice A m c]).run Tryz.prog W = .ok v' w' ∧ OwnB w' base v' (xs ++ ys) ∧ W.grownBy w' v.ownBlock ∧ (v'.ownBlock = v.ownBlock ∨ ∀ g, v'.ownBlock = some g → W.heap.size ≤ g) := by
  obtain ⟨i0, hi, hz0, hz1, hz2⟩ := info_parts infoByte
  have hb2 : ∀ x ∈ xs ++ ys, 0 ≤ x ∧ x < 256 := fun x hx => (List.mem_append.1 hx).elim (hown.2 x) (hb x)
  rcases A with _ | ad
  · have hys : ys = [] := by
      rcases ys with _ | ⟨y, ys⟩
      · rfl
      · obtain ⟨ad, h, _⟩ := hy 0 (by simp)
        cases h
    subst hys
    obtain rfl : m = 0 := by simpa using hm.symm
    refine ⟨v, W, ?_, by simpa using hown, World.grownBy.refl W _, .inl rfl⟩
    rcases hown.1.2 with ⟨rfl, hn0⟩ | ⟨g, cap, cur, rfl, _, _, hnc, _⟩
    · simp [Builtin.append_, run_underlying Tryz.underlying22, sizeOf, typeInfo, hi, Builtin.lenOf, Builtin.firstCells]
    · simp [Builtin.append_, run_underlying Tryz.underlying22, sizeOf, typeInfo, hi, Builtin.lenOf, Builtin.firstCells, hnc, storeCells]
  · obtain ⟨v', w', hrun, h2, h3, _, h5⟩ := run_append_own_at (P := Tryz.prog) W base 22 ty 5 i0 (.int .u8 0) 1 1 Tryz.underlying22 hi hz0 hz1 hz2 rfl (by decide) v xs.length (xs.map (Value.int .u8)) hown.1 ad m c (ys.map (Value.int .u8)) (by simp [hm]) (by
      intro j u hj
      by_cases hlt : j < ys.length
      · rw [List.getElem?_map, List.getElem?_eq_getElem hlt] at hj
        have e : u = .int .u8 ys[j] := by simpa using hj.symm
        obtain ⟨ad', e', hc⟩ := hy j hlt
        cases e'
        rw [e]; exact hc
      · rw [List.getElem?_eq_none (by simpa using hlt)] at hj; cases hj) (ints_oneCell _ _) (by unfold maxLen; omega) (by omega) hbase
    refine ⟨v', w', hrun, ⟨?_, hb2⟩, h3, ?_⟩
    · rw [List.length_append, List.map_append, hm]
      exact h2
    · rcases h5 with e | e
      · exact .inl e
      · exact .inr (fun g hg => by rw [e] at hg; simp at hg; omega)
theorem step_appB {ops : Array Oper} {o : Oper} {a : Act} {K : Act → World → Prop} {Q : Exit → Act → World → Prop} {E : Prop} {W : World} (hgd : o.guard = none) (s x : Operand)
    (ho : o.op = .call { callee := .builtin .append, args := #[s, x], argTypes := #[22, 22] }) (base : Nat) (v : Value) (xs ys : List Int) (A : Option Addr) (m c : Nat)
    (hs : a.eval s = v) (hx : a.eval x = .slice A m c) (hown : OwnB W base v xs) (hm : ys.length = m) (hb : ∀ y ∈ ys, 0 ≤ y ∧ y < 256) (hy : ∀ k (hk : k < ys.length), ∃ ad, A = some ad ∧ W.cell? (ad.add k) = some (.int .u8 ys[k])) (hbase : base ≤ W.heap.size) (hlen : xs.length + ys.length ≤ 4194304)
    (h : ∀ v' w', OwnB w' base v' (xs ++ ys) → Turn (fun i => v.ownBlock = some i) W w' → (v'.ownBlock = v.ownBlock ∨ ∀ g, v'.ownBlock = some g → W.heap.size ≤ g) → K (a.put o.dst v') w') :
    if Region.wanted o (yielded ops a.tmps) = true then Oper.wp Tryz.prog o a W K Q else E := by
  have hw : Region.wanted o (yielded ops a.tmps) = true := by simp [Region.wanted, hgd]
  rw [if_pos hw]
  obtain ⟨v', w', hrun, h2, h3, h4⟩ := run_appB (W := W) o.type base v xs ys A m c hown hm hb hy hbase hlen
  unfold Oper.wp execOp
  simp only [ho, resolve, invoke, builtin, Sem.run_bind, Sem.run_pure, Result.andThen_ok, List.map_toArray, List.map_cons, List.map_nil, hs, hx, hrun]
  exact h v' w' h2 (Turn.of_grown h3) h4
theorem wpl_appB {ops : Array Oper} {rest : List Oper} {o : Oper} {a : Act} {Q : Exit → Act → World → Prop} {W : World} (hgd : o.guard = none) (s x : Operand)
    (ho : o.op = .call { callee := .builtin .append, args := #[s, x], argTypes := #[22, 22] }) (base : Nat) (v : Value) (xs ys : List Int) (A : Option Addr) (m c : Nat)
    (hs : a.eval s = v) (hx : a.eval x = .slice A m c) (hown : OwnB W base v xs) (hm : ys.length = m) (hb : ∀ y ∈ ys, 0 ≤ y ∧ y < 256) (hy : ∀ k (hk : k < ys.length), ∃ ad, A = some ad ∧ W.cell? (ad.add k) = some (.int .u8 ys[k])) (hbase : base ≤ W.heap.size) (hlen : xs.length + ys.length ≤ 4194304)
    (h : ∀ v' w', OwnB w' base v' (xs ++ ys) → Turn (fun i => v.ownBlock = some i) W w' → (v'.ownBlock = v.ownBlock ∨ ∀ g, v'.ownBlock = some g → W.heap.size ≤ g) → wpList Tryz.prog ops Q rest (a.put o.dst v') w') :
    wpList Tryz.prog ops Q (o :: rest) a W := by
  obtain ⟨v', w', hrun, h2, h3, h4⟩ := run_appB (W := W) o.type base v xs ys A m c hown hm hb hy hbase hlen
  exact Lib.wpList_append_run _ hgd s x _ _ ho _ _ hs hx v' w' hrun (h v' w' h2 (Turn.of_grown h3) h4)
theorem wpl_appB1 {ops : Array Oper} {rest : List Oper} {o : Oper} {a : Act} {Q : Exit → Act → World → Prop} {W : World} (hgd : o.guard = none) (s x : Operand)
    (ho : o.op = .call { callee := .builtin .append, args := #[s, x], argTypes := #[22, 22] }) (base : Nat) (v : Value) (xs : List Int) (z : Int)
    (hs : a.eval s = v) (hx : a.eval x = .slice (some ⟨W.heap.size, 0, none⟩) 1 1) (hown : OwnB W base v xs) (hz : 0 ≤ z ∧ z < 256) (hbase : base ≤ W.heap.size) (hlen : xs.length < 1048576)
    (h : ∀ v' w', OwnB w' base v' (xs ++ [z]) → Turn (fun i => v.ownBlock = some i) W w' → wpList Tryz.prog ops Q rest (a.put o.dst v') w') :
    wpList Tryz.prog ops Q (o :: rest) a (W.alloc (.cells #[.int .u8 z] 5)) := by
  have hka : Kp W (W.alloc (.cells #[.int .u8 z] 5)) := (Kp.refl W).alloc _
  refine wpl_appB hgd s x ho base v xs [z] _ 1 1 hs hx (hown.kp hka) rfl (fun y hy => by rw [List.mem_singleton.1 hy]; exact hz) (fun k hk => ?_) (by simp; omega) (by simp; omega) (fun v' w' h1 h2 _ => h v' w' h1 ((Turn.of_kp hka).trans h2))
  obtain rfl : k = 0 := by simpa using hk
  exact ⟨_, rfl, by rw [add0, World.cell?_alloc_at _ _ _ _ rfl]; rfl⟩
theorem wrap_u8_bd (x : Int) : 0 ≤ IntKind.u8.wrap x ∧ IntKind.u8.wrap x < 256 := by
  have : IntKind.u8.wrap x = x % 256 := by simp [IntKind.wrap, IntKind.bits, IntKind.signed]
  omega
end Go.Proofs.YtblebedejddefaaGreat

namespace Go.Proofs.YtblebedejddefaaGreat
open Go.RowKit Go.Sort

theorem vBig_any (A : Option Addr) (n c : Nat) (w : World) :
    Calls Tryz.prog 4 #[.slice A n c] w fun e w' => e = .returned (.bool (decide (65536 < (n : Int)))) ∧ w = w' := by
  go_enter Tryz.func4, Tryz.ntmps4
  go_wp2_with fail
  go_ret
  exact ⟨rfl, rfl⟩
set_option maxRecDepth 100000 in
set_option maxHeartbeats 1000000 in
/-- Two slices that read as the same list. -/
theorem vInts_same (A B : Option Addr) (xs : List Int) (n c d : Nat) (w : World) (hA : IntsAt w A xs) (hB : IntsAt w B xs) (hn : xs.length = n) :
    Calls Tryz.prog 20 #[.slice A n c, .slice B n d] w fun e w' => e = .returned (.bool true) ∧ Kp w w' := by
  have Hn := Lib.hid hn
  have hn63 : n ≤ 9223372036854775807 := hn ▸ hA.1
  clear hn
  have e0 : ((n : Int) != (n : Int)) = false := by simp
  go_enter Tryz.func20, Tryz.ntmps20
  go_wp2_with fail
  go_loopw [5] (fun iv wr => ∃ i : Nat, iv = .int .i64 i ∧ i ≤ n ∧ Kp w wr) (fun iv _ => n - (intOf iv).toNat)
  case atStart => exact ⟨0, rfl, by omega, Kp.refl _⟩
  case round =>
    obtain ⟨i, rfl, hi, hkr⟩ := hrel
    by_cases hlt : i < n
    · have lx : i < xs.length := by rw [Hn.out]; exact hlt
      obtain ⟨a, rfl, h1⟩ := (hA.kp hkr).at_ lx
      obtain ⟨b, rfl, h2⟩ := (hB.kp hkr).at_ lx
      obtain ⟨z, hz⟩ : ∃ z, xs[i] = z := ⟨_, rfl⟩
      rw [hz] at h1 h2
      have e1 : (z != z) = false := by simp
      have hkd : Kp w wr.drew := hkr.trans (Kp.refl wr).drew
      have iI : (i : Int) < (n : Int) := by omega
      go_wp2_with fail
      go_still (by kernel_rfl)
      change Exit.then _ _ _ _ wr.drew
      generalize wr.drew = wd at *
      go_wp2_with fail
      go_roundw
      case rel => exact ⟨i + 1, by go_num, by omega, hkd⟩
      case measure => simp [intOf]; omega
    · obtain rfl : i = n := by omega
      go_wp2_with fail
      go_ret
      exact ⟨rfl, hkr⟩
theorem OwnB.cap {w : World} {base n c : Nat} {v : Value} {A : Option Addr} {xs : List Int} (h : OwnB w base v xs) (e : v = .slice A n c) : xs.length ≤ c := by
  rcases h.1.2 with ⟨rfl, h0⟩ | ⟨g, cap, cur, rfl, _, _, h4, _⟩
  · omega
  · cases e; exact h4
set_option maxRecDepth 100000 in
set_option maxHeartbeats 1000000 in
/-- A part of the bytes and one more. -/
theorem vCut_any (A : Option Addr) (n c k : Nat) (w : World) (hA : BytesAt w A n) (hn : n ≤ 65536) (hc : n ≤ c) (hk : k ≤ n) :
    Calls Tryz.prog 11 #[.slice A n c, .int .i64 k] w fun e w' => ∃ A' n' c', e = .returned (.slice A' n' c') ∧ (BytesAt w' A' n' ∧ n' ≤ c' ∧ n' ≤ 65537) ∧ Kp w w' := by
  have hd : decide ((n : Int) < (k : Int)) = false := decide_eq_false (by omega)
  have hkI : (k : Int) ≤ (n : Int) := by omega
  have hk0 : (0 : Int) ≤ (k : Int) := by omega
  have ho := ownB_new0 w w.heap.size (Nat.le_refl _)
  have hka : Kp w (w.alloc (.cells #[] 5)) := (Kp.refl w).alloc _
  have hbs : w.heap.size ≤ (w.alloc (.cells #[] 5)).heap.size := hka.le
  rcases A with _ | ad
  · obtain rfl : n = 0 := by
      rcases Nat.eq_zero_or_pos n with h | h
      · exact h
      · obtain ⟨a, b, e, _⟩ := hA.2 0 h
        cases e
    obtain rfl : k = 0 := by omega
    obtain ⟨ys, hm, hb, hy⟩ := (hA.kp hka).list
    have hlen : ([] : List Int).length + ys.length ≤ 4194304 := by simp; omega
    have hlen1 : (([] : List Int) ++ ys).length < 1048576 := by simp; omega
    go_enter Tryz.func11, Tryz.ntmps11
    go_wp2_with (first | (at_builtin; refine wpl_appB rfl (.tmp 11) (.tmp 14) rfl w.heap.size _ [] ys (none) (0) (c) rfl rfl ho hm hb hy hbs hlen ?_; intro v1 w1 ho1 ht1 h41; have kk := hka.turn ht1 (fun i e => (ho.lt i e).1); have hbs1 := kk.le) | (at_builtin; refine wpl_appB1 rfl (.tmp 15) (.tmp 18) rfl w.heap.size _ ([] ++ ys) _ rfl rfl ho1 (show (0 : Int) ≤ 0 ∧ (0 : Int) < 256 from by omega) hbs1 hlen1 ?_; intro v2 w2 ho2 ht2; have k2 := kk.turn ht2 (fun i e => (ho1.lt i e).1); obtain ⟨A2, c2, hv2, hb2⟩ := ho2.bytes (by simp; omega); have hcl := ho2.cap hv2; subst hv2) | fail)
    go_ret
    exact ⟨_, _, _, rfl, ⟨by simpa [hm] using hb2, by simpa [hm] using hcl, by omega⟩, k2⟩
  · by_cases hck : c = k
    · obtain rfl : n = k := by omega
      subst hck
      obtain ⟨ys, hm, hb, hy⟩ : ∃ ys : List Int, ys.length = 0 ∧ (∀ y ∈ ys, 0 ≤ y ∧ y < 256) ∧ ∀ k (hk : k < ys.length), ∃ a, some ad = some a ∧ (w.alloc (.cells #[] 5)).cell? (a.add k) = some (.int .u8 ys[k]) := ⟨[], rfl, by simp, fun k hk => by simp at hk⟩
      have hlen : ([] : List Int).length + ys.length ≤ 4194304 := by simp; omega
      have hlen1 : (([] : List Int) ++ ys).length < 1048576 := by simp; omega
      go_enter Tryz.func11, Tryz.ntmps11
      go_wp2_with (first | (at_builtin; refine wpl_appB rfl (.tmp 11) (.tmp 14) rfl w.heap.size _ [] ys (some ad) (0) (0) rfl rfl ho hm hb hy hbs hlen ?_; intro v1 w1 ho1 ht1 h41; have kk := hka.turn ht1 (fun i e => (ho.lt i e).1); have hbs1 := kk.le) | (at_builtin; refine wpl_appB1 rfl (.tmp 15) (.tmp 18) rfl w.heap.size _ ([] ++ ys) _ rfl rfl ho1 (wrap_u8_bd _) hbs1 hlen1 ?_; intro v2 w2 ho2 ht2; have k2 := kk.turn ht2 (fun i e => (ho1.lt i e).1); obtain ⟨A2, c2, hv2, hb2⟩ := ho2.bytes (by simp; omega); have hcl := ho2.cap hv2; subst hv2) | fail)
      go_ret
      exact ⟨_, _, _, rfl, ⟨by simpa [hm] using hb2, by simpa [hm] using hcl, by omega⟩, k2⟩
    · have hck2 : ((c : Int) == (k : Int)) = false := by simp; omega
      obtain ⟨ys, hm, hb, hy⟩ := ((hA.kp hka).cut hk).list
      have hlen : ([] : List Int).length + ys.length ≤ 4194304 := by simp; omega
      have hlen1 : (([] : List Int) ++ ys).length < 1048576 := by simp; omega
      go_enter Tryz.func11, Tryz.ntmps11
      go_wp2_with (first | (at_builtin; refine wpl_appB rfl (.tmp 11) (.tmp 14) rfl w.heap.size _ [] ys (some (ad.add k)) (n - k) (c - k) rfl rfl ho hm hb hy hbs hlen ?_; intro v1 w1 ho1 ht1 h41; have kk := hka.turn ht1 (fun i e => (ho.lt i e).1); have hbs1 := kk.le) | (at_builtin; refine wpl_appB1 rfl (.tmp 15) (.tmp 18) rfl w.heap.size _ ([] ++ ys) _ rfl rfl ho1 (wrap_u8_bd _) hbs1 hlen1 ?_; intro v2 w2 ho2 ht2; have k2 := kk.turn ht2 (fun i e => (ho1.lt i e).1); obtain ⟨A2, c2, hv2, hb2⟩ := ho2.bytes (by simp; omega); have hcl := ho2.cap hv2; subst hv2) | fail)
      go_ret
      exact ⟨_, _, _, rfl, ⟨by simpa [hm] using hb2, by simpa [hm] using hcl, by omega⟩, k2⟩
set_option maxRecDepth 100000 in
set_option maxHeartbeats 1000000 in
theorem vCut_over (A : Option Addr) (n c k : Nat) (w : World) (hA : BytesAt w A n) (hn : n ≤ 65536) (hc : n ≤ c) (hk : n < k) :
    Calls Tryz.prog 11 #[.slice A n c, .int .i64 k] w fun e w' => ∃ A' n' c', e = .returned (.slice A' n' c') ∧ (BytesAt w' A' n' ∧ n' ≤ c' ∧ n' ≤ 65537) ∧ Kp w w' := by
  have hd : decide ((n : Int) < (k : Int)) = true := decide_eq_true (by omega)
  have ho := ownB_new0 w w.heap.size (Nat.le_refl _)
  have hka : Kp w (w.alloc (.cells #[] 5)) := (Kp.refl w).alloc _
  have hbs : w.heap.size ≤ (w.alloc (.cells #[] 5)).heap.size := hka.le
  rcases A with _ | ad
  · obtain rfl : n = 0 := by
      rcases Nat.eq_zero_or_pos n with h | h
      · exact h
      · obtain ⟨a, b, e, _⟩ := hA.2 0 h
        cases e
    obtain ⟨ys, hm, hb, hy⟩ := (hA.kp hka).list
    have hlen : ([] : List Int).length + ys.length ≤ 4194304 := by simp; omega
    have hlen1 : (([] : List Int) ++ ys).length < 1048576 := by simp; omega
    go_enter Tryz.func11, Tryz.ntmps11
    go_wp2_with (first | (at_builtin; refine wpl_appB rfl (.tmp 11) (.tmp 14) rfl w.heap.size _ [] ys (none) (0) (c) rfl rfl ho hm hb hy hbs hlen ?_; intro v1 w1 ho1 ht1 h41; have kk := hka.turn ht1 (fun i e => (ho.lt i e).1); have hbs1 := kk.le) | (at_builtin; refine wpl_appB1 rfl (.tmp 15) (.tmp 18) rfl w.heap.size _ ([] ++ ys) _ rfl rfl ho1 (show (0 : Int) ≤ 0 ∧ (0 : Int) < 256 from by omega) hbs1 hlen1 ?_; intro v2 w2 ho2 ht2; have k2 := kk.turn ht2 (fun i e => (ho1.lt i e).1); obtain ⟨A2, c2, hv2, hb2⟩ := ho2.bytes (by simp; omega); have hcl := ho2.cap hv2; subst hv2) | fail)
    go_ret
    exact ⟨_, _, _, rfl, ⟨by simpa [hm] using hb2, by simpa [hm] using hcl, by omega⟩, k2⟩
  · have hkI : (n : Int) ≤ (n : Int) := by omega
    have hk0 : (0 : Int) ≤ (n : Int) := by omega
    have hkc : (n : Int) ≤ (c : Int) := by omega
    obtain ⟨ys, hm, hb, hy⟩ : ∃ ys : List Int, ys.length = 0 ∧ (∀ y ∈ ys, 0 ≤ y ∧ y < 256) ∧ ∀ (B : Option Addr), ∀ k (hk : k < ys.length), ∃ a, B = some a ∧ (w.alloc (.cells #[] 5)).cell? (a.add k) = some (.int .u8 ys[k]) := ⟨[], rfl, by simp, fun B k hk => by simp at hk⟩
    have hlen : ([] : List Int).length + ys.length ≤ 4194304 := by simp; omega
    have hlen1 : (([] : List Int) ++ ys).length < 1048576 := by simp; omega
    by_cases hck : c = n
    · subst hck
      replace hy := hy (some ad)
      go_enter Tryz.func11, Tryz.ntmps11
      go_wp2_with (first | (at_builtin; refine wpl_appB rfl (.tmp 11) (.tmp 14) rfl w.heap.size _ [] ys (some ad) (0) (0) rfl rfl ho hm hb hy hbs hlen ?_; intro v1 w1 ho1 ht1 h41; have kk := hka.turn ht1 (fun i e => (ho.lt i e).1); have hbs1 := kk.le) | (at_builtin; refine wpl_appB1 rfl (.tmp 15) (.tmp 18) rfl w.heap.size _ ([] ++ ys) _ rfl rfl ho1 (wrap_u8_bd _) hbs1 hlen1 ?_; intro v2 w2 ho2 ht2; have k2 := kk.turn ht2 (fun i e => (ho1.lt i e).1); obtain ⟨A2, c2, hv2, hb2⟩ := ho2.bytes (by simp; omega); have hcl := ho2.cap hv2; subst hv2) | fail)
      go_ret
      exact ⟨_, _, _, rfl, ⟨by simpa [hm] using hb2, by simpa [hm] using hcl, by omega⟩, k2⟩
    · have hck2 : ((c : Int) == (n : Int)) = false := by simp; omega
      replace hy := hy (some (ad.add n))
      go_enter Tryz.func11, Tryz.ntmps11
      go_wp2_with (first | (at_builtin; refine wpl_appB rfl (.tmp 11) (.tmp 14) rfl w.heap.size _ [] ys (some (ad.add n)) (0) (c - n) rfl rfl ho hm hb hy hbs hlen ?_; intro v1 w1 ho1 ht1 h41; have kk := hka.turn ht1 (fun i e => (ho.lt i e).1); have hbs1 := kk.le) | (at_builtin; refine wpl_appB1 rfl (.tmp 15) (.tmp 18) rfl w.heap.size _ ([] ++ ys) _ rfl rfl ho1 (wrap_u8_bd _) hbs1 hlen1 ?_; intro v2 w2 ho2 ht2; have k2 := kk.turn ht2 (fun i e => (ho1.lt i e).1); obtain ⟨A2, c2, hv2, hb2⟩ := ho2.bytes (by simp; omega); have hcl := ho2.cap hv2; subst hv2) | fail)
      go_ret
      exact ⟨_, _, _, rfl, ⟨by simpa [hm] using hb2, by simpa [hm] using hcl, by omega⟩, k2⟩
/-- A part of the bytes and one more, for any k. -/
theorem vCut_all (A : Option Addr) (n c k : Nat) (w : World) (hA : BytesAt w A n) (hn : n ≤ 65536) (hc : n ≤ c) :
    Calls Tryz.prog 11 #[.slice A n c, .int .i64 k] w fun e w' => ∃ A' n' c', e = .returned (.slice A' n' c') ∧ (BytesAt w' A' n' ∧ n' ≤ c' ∧ n' ≤ 65537) ∧ Kp w w' := by
  by_cases hk : k ≤ n
  · exact vCut_any A n c k w hA hn hc hk
  · exact vCut_over A n c k w hA hn hc (by omega)
end Go.Proofs.YtblebedejddefaaGreat

namespace Go.Proofs.YtblebedejddefaaGreat
open Go.RowKit Go.Sort

set_option maxRecDepth 100000 in
set_option maxHeartbeats 1000000 in
theorem vHas_any (A : Option Addr) (xs : List Int) (n c : Nat) (x : Int) (w : World) (hA : IntsAt w A xs) (hn : xs.length = n) :
    Calls Tryz.prog 21 #[.slice A n c, .int .i64 x] w fun e w' => e = .returned (.bool (xs.any fun y => y == x)) ∧ Kp w w' := by
  have Hn := Lib.hid hn
  have hn63 : n ≤ 9223372036854775807 := hn ▸ hA.1
  clear hn
  go_enter Tryz.func21, Tryz.ntmps21
  go_wp2_with fail
  go_loopw [5] (fun iv wr => ∃ i : Nat, iv = .int .i64 i ∧ i ≤ n ∧ Hid ((xs.take i).any (fun y => y == x) = false) ∧ Kp w wr) (fun iv _ => n - (intOf iv).toNat)
  case atStart => exact ⟨0, rfl, by omega, Lib.hid rfl, Kp.refl _⟩
  case round =>
    obtain ⟨i, rfl, hi, Hno, hkr⟩ := hrel
    by_cases hlt : i < n
    · have lx : i < xs.length := by rw [Hn.out]; exact hlt
      obtain ⟨a, rfl, h1⟩ := (hA.kp hkr).at_ lx
      obtain ⟨z, hz⟩ : ∃ z, xs[i] = z := ⟨_, rfl⟩
      rw [hz] at h1
      have iI : (i : Int) < (n : Int) := by omega
      have Hst : Hid ((xs.take (i + 1)).any (fun y => y == x) = (z == x)) := by
        show _ = _
        rw [List.take_succ_eq_append_getElem lx, List.any_append, Hno.out, hz]; simp
      cases hzx : (z == x)
      · rw [hzx] at Hst
        have hne : (z == x) = false := hzx
        go_wp2_with fail
        go_roundw
        case rel => exact ⟨i + 1, by go_num, by omega, Hst, hkr⟩
        case measure => simp [intOf]; omega
      · have hyes : Hid (xs.any (fun y => y == x) = true) := by
          show _ = _
          rw [List.any_eq_true]
          exact ⟨z, hz ▸ List.getElem_mem lx, hzx⟩
        go_wp2_with fail
        go_ret
        exact ⟨by rw [hyes.out]; rfl, hkr⟩
    · obtain rfl : i = n := by omega
      have hno : Hid (xs.any (fun y => y == x) = false) := by
        show _ = _
        have := Hno.out
        rwa [List.take_of_length_le (by rw [Hn.out]; omega)] at this
      go_wp2_with fail
      go_ret
      exact ⟨by rw [hno.out]; rfl, hkr⟩
def sbL (F : Fld) (S : List Int) : List Int := if openedB F S = true then mapTo (fun i => siteF F i S) F.di.length else []
theorem sbL_yes {F : Fld} {S : List Int} (h : openedB F S = true) : sbL F S = mapTo (fun i => siteF F i S) F.di.length := if_pos h
theorem sbL_no {F : Fld} {S : List Int} (h : openedB F S = false) : sbL F S = [] := if_neg (by simp [h])
set_option maxRecDepth 100000 in
set_option maxHeartbeats 400000 in
theorem implSb_any (f : Value) (F : Fld) (A0 : Option Addr) (S : List Int) (n c0 : Nat) (w : World) (hf : FldAt w f F) (hS : IntsAt w A0 S) (hn : S.length = n) :
    Calls Tryz.prog 22 #[f, .slice A0 n c0] w fun e w' => ∃ v, e = .returned (.tuple #[v, .bool (openedB F S)]) ∧ Own w' w.heap.size v (sbL F S) ∧ Kp w w' := by
  obtain ⟨A, c, B, d, rfl, hA, hB⟩ := hf
  have hk0 : Kp w (w.alloc (.cells #[.slice A F.op.length c, .slice B F.di.length d] 27)) := (Kp.refl w).alloc _
  obtain ⟨d0, d1⟩ := box2 w (.slice A F.op.length c) (.slice B F.di.length d) 27
  have hFA := FldAt.kp (show FldAt w (.agg #[.slice A F.op.length c, .slice B F.di.length d]) F from ⟨A, c, B, d, rfl, hA, hB⟩) hk0
  replace hS := hS.kp hk0
  have Hn := Lib.hid hn
  clear hA hB hn
  go_enter Tryz.func22, Tryz.ntmps22
  go_wp2_with fail
  have hsz : Hid ((w.alloc (.cells #[.slice A F.op.length c, .slice B F.di.length d] 27)).heap.size = w.heap.size + 1) := by show _ = _; simp
  generalize w.alloc (.cells #[.slice A F.op.length c, .slice B F.di.length d] 27) = wb at *
  have hkb : Kp wb wb := Kp.refl _
  have hkw := hk0
  have CC := Lib.hid (isOpened_any _ F A0 S n c0 _ (hFA.kp hkb) (hS.kp hkb) Hn.out)
  with_reducible refine Calls.mono CC.out ?_
  rintro e w1 ⟨rfl, hk1⟩
  clear CC
  replace hkb := hkb.trans hk1
  cases ho : openedB F S
  · have Hl := Lib.hid (sbL_no ho)
    have Ho := Lib.hid ho
    clear ho
    have q_d0 := hkb.get d0
    have q_d1 := hkb.get d1
    go_wp2_with fail
    go_ret2
    exact ⟨.slice none 0 0, by rw [Ho.out]; rfl, by rw [Hl.out]; exact Own.nil _ _, hkw.trans hkb⟩
  · have Hl := Lib.hid (sbL_yes ho)
    have Ho := Lib.hid ho
    obtain ⟨g1, g2, g3⟩ := openedB_parts ho
    have HG := Lib.hid g1; have HS := Lib.hid g2; have HE := Lib.hid g3
    clear ho g1 g2 g3
    have hle := (hkw.trans hkb).le
    have q_d0 := hkb.get d0
    have q_d1 := hkb.get d1
    go_wp2_with fail
    have CC := Lib.hid (served_any _ F A0 S n c0 _ (hFA.kp hkb) (hS.kp hkb) Hn.out HG.out HS.out HE.out)
    with_reducible refine Calls.mono CC.out ?_
    rintro e w2 ⟨v, rfl, ho, hk2⟩
    clear CC q_d0 q_d1
    replace hkb := hkb.trans hk2
    obtain ⟨Av, cv, hve⟩ := ho.shape
    subst hve
    have q_d0 := hkb.get d0
    have q_d1 := hkb.get d1
    go_wp2_with fail
    go_ret2
    exact ⟨.slice Av (mapTo (fun i => siteF F i S) F.di.length).length cv, by rw [Ho.out]; rfl, by rw [Hl.out]; exact ho.mono hle, hkw.trans hkb⟩
end Go.Proofs.YtblebedejddefaaGreat

namespace Go.Proofs.YtblebedejddefaaGreat
open Go.RowKit Go.Sort

theorem bestTo_le {v : List Int → Int} {rows : List (List Int)} : ∀ k, k ≤ rows.length → ∀ S ∈ rows.take k, v (bestTo v rows k) ≤ v S
  | 0, _, S, h => by simp at h
  | k + 1, hk, S, h => by
    have hk' : k < rows.length := by omega
    rw [bestTo_succ hk']
    have hstep : v (bestStep v (bestTo v rows k) rows[k]) ≤ v (bestTo v rows k) ∧ v (bestStep v (bestTo v rows k) rows[k]) ≤ v rows[k] := by
      unfold bestStep
      by_cases hlt : v rows[k] < v (bestTo v rows k)
      · rw [if_pos hlt]; omega
      · rw [if_neg hlt]; omega
    rw [List.take_succ_eq_append_getElem hk', List.mem_append] at h
    rcases h with h | h
    · have := bestTo_le (v := v) k (by omega) S h; omega
    · have e : S = rows[k] := by simpa using h
      rw [e]; exact hstep.2
theorem bestL_le {v : List Int → Int} {rows : List (List Int)} : ∀ S ∈ rows, v (bestL v rows) ≤ v S := fun S h => by
  rw [← bestTo_all]
  exact bestTo_le _ (Nat.le_refl _) S (by rw [List.take_length]; exact h)
end Go.Proofs.YtblebedejddefaaGreat

namespace Go.Proofs.YtblebedejddefaaGreat
open Go.RowKit Go.Sort

theorem openedB_of {F : Fld} {S : List Int} (hg : goodF F = true) (hs : setB F S = true) (hne : S ≠ []) : openedB F S = true := by
  unfold openedB
  rw [hg, hs, decide_eq_true (List.length_pos_iff.2 hne)]; rfl
theorem mem_allO {F : Fld} {O : List Int} (h : ∀ y ∈ O, 0 ≤ y ∧ y < (F.op.length : Int)) {x : Int} : x ∈ allO F O ↔ x ∈ O := by
  unfold allO
  rw [mem_bitsL]
  constructor
  · rintro ⟨h0, h1, h2⟩
    rw [bagN_bit (fun y hy => (h y hy).1), decide_eq_true_eq] at h2
    rw [show ((x.toNat : Nat) : Int) = x from by omega] at h2
    exact h2
  · intro hx
    have := h x hx
    refine ⟨this.1, this.2, ?_⟩
    rw [bagN_bit (fun y hy => (h y hy).1), decide_eq_true_eq, show ((x.toNat : Nat) : Int) = x from by omega]
    exact hx
/-- The value stays the same along the play. -/
theorem out_value {F : Fld} {K : Nat} (hK : K ≤ F.op.length) : ∀ i, i ≤ K → (playN F (K - i) (outL F K i)).1 = (playN F K []).1
  | 0, _ => rfl
  | i + 1, hi => by
    have ih := out_value hK i (by omega)
    obtain ⟨s, h1, _, _, h4, _⟩ := play_site F (K - (i + 1)) (O := outL F K i) (by rw [outL_len]; omega)
    have e : K - (i + 1) + 1 = K - i := by omega
    rw [e] at h1 h4
    have e2 : outL F K (i + 1) = outL F K i ++ [(s : Int)] := by
      show outL F K i ++ [_] = _
      rw [h1]
    rw [e2, ← ih, h4]
    rfl
def cntE (O : List Int) (x : Int) : Nat → Nat
  | 0 => 0
  | i + 1 => cntE O x i + if (decide (O.getD i 0 = x) && decide (i % 2 = 0)) = true then 1 else 0
theorem cntE_le (O : List Int) (x : Int) : ∀ i, cntE O x i ≤ i
  | 0 => Nat.le_refl _
  | i + 1 => by
    have := cntE_le O x i
    show cntE O x i + _ ≤ _
    split <;> omega
theorem cntE_is {O : List Int} (h : O.Nodup) (x : Int) : ∀ i, i ≤ O.length → cntE O x i = if (∃ j, j < i ∧ j % 2 = 0 ∧ O.getD j 0 = x) then 1 else 0
  | 0, _ => by
    show 0 = _
    rw [if_neg]
    rintro ⟨j, hj, _⟩
    omega
  | i + 1, hi => by
    have ih := cntE_is h x i (by omega)
    show cntE O x i + _ = _
    rw [ih]
    by_cases hc : O.getD i 0 = x ∧ i % 2 = 0
    · have e1 : (decide (O.getD i 0 = x) && decide (i % 2 = 0)) = true := by rw [decide_eq_true hc.1, decide_eq_true hc.2]; rfl
      have hx : ¬ ∃ j, j < i ∧ j % 2 = 0 ∧ O.getD j 0 = x := by
        rintro ⟨j, hj, _, h2⟩
        have := getD_inj h (by omega) (by omega) (h2.trans hc.1.symm)
        omega
      rw [if_neg hx, if_pos e1, if_pos ⟨i, by omega, hc.2, hc.1⟩]
    · have e1 : ¬ (decide (O.getD i 0 = x) && decide (i % 2 = 0)) = true := by
        simp only [Bool.and_eq_true, decide_eq_true_eq]; exact hc
      rw [if_neg e1]
      by_cases hx : ∃ j, j < i ∧ j % 2 = 0 ∧ O.getD j 0 = x
      · obtain ⟨j, h1, h2, h3⟩ := hx
        rw [if_pos ⟨j, h1, h2, h3⟩, if_pos ⟨j, by omega, h2, h3⟩]
      · rw [if_neg hx, if_neg]
        rintro ⟨j, h1, h2, h3⟩
        by_cases e : j = i
        · subst e; exact hc ⟨h3, h2⟩
        · exact hx ⟨j, by omega, h2, h3⟩
theorem cntE_all {O : List Int} (h : O.Nodup) (x : Int) : cntE O x O.length = if evB O x = true then 1 else 0 := by
  rw [cntE_is h x _ (Nat.le_refl _)]
  by_cases he : evB O x = true
  · rw [if_pos he, if_pos (evB_iff.1 he)]
  · rw [if_neg he, if_neg (fun h => he (evB_iff.2 h))]
/-- The sites that have been opened, in order. -/
def allT (O : List Int) (a : Nat) : List Int := ((List.range a).filter fun i : Nat => O.any fun y => y == (i : Int)).map fun (i : Nat) => (i : Int)
theorem allT_yes {O : List Int} {a : Nat} (h : (O.any fun y => y == (a : Int)) = true) : allT O (a + 1) = allT O a ++ [(a : Int)] := by
  unfold allT
  rw [List.range_succ, List.filter_append, List.map_append]
  simp [h]
theorem allT_no {O : List Int} {a : Nat} (h : (O.any fun y => y == (a : Int)) = false) : allT O (a + 1) = allT O a := by
  unfold allT
  rw [List.range_succ, List.filter_append, List.map_append]
  simp [h]
theorem mem_allT {O : List Int} {a : Nat} {x : Int} : x ∈ allT O a ↔ x ∈ O ∧ 0 ≤ x ∧ x < (a : Int) := by
  unfold allT
  rw [List.mem_map]
  constructor
  · rintro ⟨i, hi, rfl⟩
    rw [List.mem_filter, List.mem_range, List.any_eq_true] at hi
    obtain ⟨h1, y, hy, e⟩ := hi
    have : y = (i : Int) := by simpa using e
    subst this
    exact ⟨hy, by omega, by omega⟩
  · rintro ⟨h1, h2, h3⟩
    refine ⟨x.toNat, List.mem_filter.2 ⟨List.mem_range.2 (by omega), List.any_eq_true.2 ⟨x, h1, by simp; omega⟩⟩, by omega⟩
theorem allT_sorted (O : List Int) (a : Nat) : (allT O a).Pairwise (· < ·) := by
  unfold allT
  rw [List.pairwise_map]
  exact (List.pairwise_lt_range.filter _).imp (fun h => by omega)
theorem allT_len (O : List Int) (a : Nat) : (allT O a).length ≤ a := by
  unfold allT
  rw [List.length_map]
  exact Nat.le_trans (List.length_filter_le _ _) (by simp)
/-- The play and the value. -/
structure FmA (F : Fld) (O S : List Int) (k v : Int) (K : Nat) : Prop where
  kk : k = (K : Int) ∧ 1 ≤ K ∧ 2 * K ≤ F.op.length ∧ F.op.length ≤ 7 ∧ F.di.length ≤ 7
  len : O.length = 2 * K
  slen : S.length = 2 * K
  nd : O.Nodup
  op : openedB F S = true
  val : v = ((wonTo F O S F.di.length : Nat) : Int)
  sb : sbL F S = mapTo (fun i => siteF F i S) F.di.length
theorem fm_parts {F : Fld} {k : Int} (h : duelB F k = true) : FmA F (fpL F k) (allT (fpL F k) F.op.length) k (fvV F k) k.toNat := by
  obtain ⟨hg, n, rfl, h1, h2⟩ := duel_parts h
  have hF := goodF_iff.1 hg
  have hf := fpL_yes h rfl
  obtain ⟨X, Y, hD⟩ := out_duel h2 (2 * n) (Nat.le_refl _)
  rw [← hf] at hD
  have hlen : (fpL F (n : Int)).length = 2 * n := by rw [hf, outL_len]
  have hmem : ∀ x, x ∈ allT (fpL F (n : Int)) F.op.length ↔ x ∈ fpL F (n : Int) := fun x => by
    rw [mem_allT]
    exact ⟨fun h => h.1, fun h => ⟨h, hD.rg x h⟩⟩
  have hset : setB F (allT (fpL F (n : Int)) F.op.length) = true := ris_iff.2 ⟨allT_sorted _ _, fun x hx => by
    have := (mem_allT.1 hx).2
    omega⟩
  have hsl : (allT (fpL F (n : Int)) F.op.length).length = 2 * n := by
    have a1 := nd_len _ _ ((allT_sorted (fpL F (n : Int)) F.op.length).imp (fun h => by omega)) (fun x hx => (hmem x).1 hx)
    have a2 := nd_len _ _ hD.nd (fun x hx => (hmem x).2 hx)
    omega
  have hop : openedB F (allT (fpL F (n : Int)) F.op.length) = true := by
    refine openedB_of hg hset (fun e => ?_)
    rw [e] at hsl
    simp at hsl; omega
  have hall : allO F (fpL F (n : Int)) = allT (fpL F (n : Int)) F.op.length := rising_ext (allO_sorted _ _) (allT_sorted _ _) (fun x => by
    rw [hmem]
    exact mem_allO hD.rg)
  refine ⟨⟨by omega, by omega, by omega, hF.1.2, hF.2.2.1⟩, by rw [hlen]; omega, by rw [hsl]; omega, hD.nd, hop, ?_, sbL_yes hop⟩
  have hv := out_value (F := F) (K := 2 * n) h2 (2 * n) (Nat.le_refl _)
  rw [Nat.sub_self, ← hf] at hv
  have hv2 : wonV F (fpL F (n : Int)) = (playN F (2 * n) []).1 := hv
  rw [fvV_yes h, show ((n : Int)).toNat = n from by omega, ← hv2]
  unfold wonV
  rw [hall]
/-- The best leader and its best follower. -/
structure LdA (kn : Bool) (ll fl gl : Nat) (m k lost : Int) : Prop where
  known : kn = true
  l1 : (ll : Int) = m
  l2 : (fl : Int) = k
  l3 : (gl : Int) = lost
theorem meet_no {L S : List Int} (h : meetB L S = false) : (S.any fun x => L.any fun y => y == x) = false := h
theorem opened_of {F : Fld} {S : List Int} (hg : goodF F = true) (hs : setB F S = true) (hne : S ≠ []) : openedB F S = true := openedB_of hg hs hne
theorem ld_parts {F : Fld} {m k : Int} (h : leadOk F m k = true) : LdA (takenOk F (leadL F m k) (folL F (leadL F m k) k)) (leadL F m k).length (folL F (leadL F m k) k).length (takenL F (leadL F m k) (folL F (leadL F m k) k)).length m k (leadM F m k) := by
  obtain ⟨hg, ⟨hm1, hm2⟩, hk1, hk2⟩ := leadOk_parts h
  obtain ⟨⟨hne, hset⟩, hlen⟩ := lead_set (F := F) (k := k) hm1 hm2
  have hl := leadL_yes h
  have hop := openedB_of hg hset hne
  have hfo : folOk F (leadL F m k) k = true := by
    rw [hl]
    unfold folOk
    rw [hop, Bool.true_and]
    exact inB_iff.2 ⟨hk1, by omega⟩
  have hfl := folL_yes hfo
  obtain ⟨hmem1, hmem2⟩ := List.mem_filter.1 (fol_mem (F := F) (L := leadL F m k) hk1 (by rw [hl]; omega))
  obtain ⟨hfn, hfs⟩ := fol_set (F := F) (L := leadL F m k) hk1 (by rw [hl]; omega)
  simp only [fp, Bool.and_eq_true, decide_eq_true_eq, Bool.not_eq_true'] at hmem2
  have hto : takenOk F (leadL F m k) (folL F (leadL F m k) k) = true := by
    unfold takenOk
    rw [hfl, hfs, meet_no hmem2.2, hl, hop]; rfl
  refine ⟨hto, by rw [hl]; exact hlen, by rw [hfl]; exact hmem2.1, ?_⟩
  rw [takenL_yes hto, hfl, leadM_yes h, leadV_not hne, hl]
  rfl
structure FoA (F : Fld) (L : List Int) (k : Int) : Prop where
  most : k = 1 → ∀ a : Nat, a < F.op.length → takenOk F L [(a : Int)] = true → (takenL F L [(a : Int)]).length ≤ (takenL F L (folL F L k)).length
theorem fo_parts {F : Fld} {L : List Int} {k : Int} (h : folOk F L k = true) : FoA F L k := by
  obtain ⟨hop, hk1, hk2⟩ := folOk_parts h
  have hfl := folL_yes h
  obtain ⟨hmem1, hmem2⟩ := List.mem_filter.1 (fol_mem (F := F) (L := L) hk1 hk2)
  obtain ⟨hfn, hfs⟩ := fol_set (F := F) (L := L) hk1 hk2
  simp only [fp, Bool.and_eq_true, decide_eq_true_eq, Bool.not_eq_true'] at hmem2
  have hto : takenOk F L (folL F L k) = true := by
    unfold takenOk
    rw [hfl, hfs, meet_no hmem2.2, hop]; rfl
  refine ⟨fun hk a ha hok => ?_⟩
  rw [takenL_yes hto, takenL_yes hok, hfl]
  have hs : [(a : Int)] ∈ (setsL F.op.length).filter (fp L k) := by
    refine List.mem_filter.2 ⟨mem_setsL.2 ⟨by simp, ris_iff.2 ⟨List.pairwise_singleton _ _, fun x hx => ?_⟩⟩, ?_⟩
    · have : x = (a : Int) := by simpa using hx
      omega
    · simp only [takenOk, Bool.and_eq_true, Bool.not_eq_true'] at hok
      have h2 : meetB L [(a : Int)] = false := hok.2
      unfold fp
      rw [h2, hk]; rfl
  have := bestL_le (v := negT F L) _ hs
  rw [negT_not (S := [(a : Int)]) (by simp)] at this
  have e : negT F L (bestL (negT F L) ((setsL F.op.length).filter (fp L k))) = -((takenTo F L (folF F L k) F.di.length).length : Int) := negT_not hfn
  rw [e] at this
  omega
end Go.Proofs.YtblebedejddefaaGreat

namespace Go.Proofs.YtblebedejddefaaGreat
theorem sumTo_addf (g h : Nat → Int) : ∀ k, sumTo (fun i => g i + h i) k = sumTo g k + sumTo h k
  | 0 => by simp [sumTo_zero]
  | k + 1 => by rw [sumTo_succ, sumTo_succ, sumTo_succ, sumTo_addf g h k]; omega
theorem sumTo_congr {g h : Nat → Int} : ∀ {k : Nat}, (∀ i, i < k → g i = h i) → sumTo g k = sumTo h k
  | 0, _ => rfl
  | k + 1, e => by rw [sumTo_succ, sumTo_succ, sumTo_congr (fun i hi => e i (by omega)), e k (by omega)]
theorem sumTo_mono' {g h : Nat → Int} : ∀ {k : Nat}, (∀ i, i < k → g i ≤ h i) → sumTo g k ≤ sumTo h k
  | 0, _ => Int.le_refl _
  | k + 1, e => by rw [sumTo_succ, sumTo_succ]; have := sumTo_mono' (fun i hi => e i (by omega) : ∀ i, i < k → g i ≤ h i); have := e k (by omega); omega
theorem sumTo_lt {g h : Nat → Int} {a : Nat} : ∀ {k : Nat}, (∀ i, i < k → g i ≤ h i) → a < k → g a < h a → sumTo g k < sumTo h k
  | 0, _, ha, _ => by omega
  | k + 1, e, ha, hl => by
    rw [sumTo_succ, sumTo_succ]
    by_cases h1 : a = k
    · subst h1; have := sumTo_mono' (fun i hi => e i (by omega) : ∀ i, i < a → g i ≤ h i); omega
    · have := sumTo_lt (fun i hi => e i (by omega) : ∀ i, i < k → g i ≤ h i) (by omega) hl; have := e k (by omega); omega
theorem sumTo_c0 (k : Nat) : sumTo (fun _ => 0) k = 0 := by
  induction k with
  | zero => rfl
  | succ k ih => rw [sumTo_succ, ih]; rfl
theorem sumTo_sub (g h : Nat → Int) : ∀ k, sumTo (fun i => g i - h i) k = sumTo g k - sumTo h k
  | 0 => by simp [sumTo_zero]
  | k + 1 => by rw [sumTo_succ, sumTo_succ, sumTo_succ, sumTo_sub g h k]; omega
theorem sumTo_mulc (g : Nat → Int) (c : Int) : ∀ k, sumTo (fun i => g i * c) k = sumTo g k * c
  | 0 => by simp [sumTo_zero]
  | k + 1 => by rw [sumTo_succ, sumTo_succ, sumTo_mulc g c k, Int.add_mul]
theorem sumTo_swap (g : Nat → Nat → Int) (k : Nat) : ∀ m, sumTo (fun i => sumTo (g i) k) m = sumTo (fun j => sumTo (fun i => g i j) m) k
  | 0 => by simp only [sumTo_zero]; rw [sumTo_c0]
  | m + 1 => by
    rw [sumTo_succ, sumTo_swap g k m, ← sumTo_addf]
    exact sumTo_congr (fun j _ => (sumTo_succ _ _).symm)
theorem sumTo_nn {g : Nat → Int} {k : Nat} (h : ∀ i, i < k → 0 ≤ g i) : 0 ≤ sumTo g k := by
  have := sumTo_mono' (g := fun _ => 0) h
  rwa [sumTo_c0] at this
theorem sumTo_ge {g : Nat → Int} {a : Nat} : ∀ {k : Nat}, (∀ i, i < k → 0 ≤ g i) → a < k → g a ≤ sumTo g k
  | 0, _, ha => by omega
  | k + 1, h, ha => by
    rw [sumTo_succ]
    by_cases h1 : a = k
    · subst h1; have := sumTo_nn (fun i hi => h i (by omega) : ∀ i, i < a → 0 ≤ g i); omega
    · have := sumTo_ge (fun i hi => h i (by omega) : ∀ i, i < k → 0 ≤ g i) (show a < k by omega); have := h k (by omega); omega
theorem sumTo_pos' {g : Nat → Int} {k : Nat} (h : ∀ i, i < k → 0 ≤ g i) (hs : 0 < sumTo g k) : ∃ i, i < k ∧ 0 < g i := by
  by_cases hh : ∃ i, i < k ∧ 0 < g i
  · exact hh
  · exfalso
    have : ∀ i, i < k → g i ≤ (fun _ => (0 : Int)) i := fun i hi => by
      have := h i hi
      by_cases h2 : 0 < g i
      · exact absurd ⟨i, hi, h2⟩ hh
      · show g i ≤ 0; omega
    have := sumTo_mono' this
    rw [sumTo_c0] at this; omega
/-- Change at one place. -/
def upd {α : Type} (g : Nat → α) (j : Nat) (x : α) (i : Nat) : α := if i = j then x else g i
def upd2 (f : Nat → Nat → Int) (j a : Nat) (x : Int) (i b : Nat) : Int := if i = j then upd (f j) a x b else f i b
theorem upd_at {α : Type} {g : Nat → α} {j : Nat} {x : α} : upd g j x j = x := if_pos rfl
theorem upd_ne {α : Type} {g : Nat → α} {j i : Nat} {x : α} (h : i ≠ j) : upd g j x i = g i := if_neg h
theorem sumTo_ones (n : Nat) : sumTo (fun _ => 1) n = (n : Int) := by
  induction n with
  | zero => rfl
  | succ n ih => rw [sumTo_succ, ih]; omega
theorem sumTo_single {g : Nat → Int} {p : Nat} : ∀ {n : Nat}, p < n → (∀ i, i < n → i ≠ p → g i = 0) → sumTo g n = g p
  | 0, h, _ => by omega
  | n + 1, h, h0 => by
    rw [sumTo_succ]
    by_cases e : p = n
    · subst e
      rw [sumTo_congr (h := fun _ => 0) (fun i hi => h0 i (by omega) (by omega)), sumTo_c0]; omega
    · rw [sumTo_single (show p < n by omega) (fun i hi hn => h0 i (by omega) hn), h0 n (by omega) (by omega)]; omega
theorem sumTo_one {p n : Nat} (h : p < n) : sumTo (fun i => if i = p then 1 else 0) n = 1 := by
  rw [sumTo_single h (fun i _ hn => if_neg hn), if_pos rfl]
theorem upd2_at {f : Nat → Nat → Int} {j a : Nat} {x : Int} : upd2 f j a x j a = x := by unfold upd2; rw [if_pos rfl, upd_at]
theorem upd2_ne {f : Nat → Nat → Int} {j a i b : Nat} {x : Int} (h : i ≠ j ∨ b ≠ a) : upd2 f j a x i b = f i b := by
  unfold upd2
  by_cases e : i = j
  · subst e; rw [if_pos rfl]
    rcases h with h | h
    · exact absurd rfl h
    · exact upd_ne h
  · rw [if_neg e]
end Go.Proofs.YtblebedejddefaaGreat

namespace Go.Proofs.YtblebedejddefaaGreat
def lget (xs : List Int) (k : Nat) : Int := xs.getD k 0
theorem lget_at {xs : List Int} {k : Nat} (h : k < xs.length) : lget xs k = xs[k] := by simp [lget, List.getD, h]
end Go.Proofs.YtblebedejddefaaGreat

namespace Go.Proofs.YtblebedejddefaaGreat
open Go.RowKit Go.Sort

/-- A slot of a slice of the call's own: read and written. -/
theorem Own.slot {w : World} {base g n cap j : Nat} {xs : List Int} (h : Own w base (.slice (some ⟨g, 0, none⟩) n cap) xs) (hn : xs.length = n) (hj : j < n) :
    w.cell? ⟨g, j, none⟩ = some (.int .i64 (xs.getD j 0)) ∧ w.frozen? ⟨g, j, none⟩ = false ∧
    ∀ z : Int, Own (w.setCell ⟨g, j, none⟩ (.int .i64 z)) base (.slice (some ⟨g, 0, none⟩) n cap) (xs.set j z) ∧ Turn (fun i => i = g) w (w.setCell ⟨g, j, none⟩ (.int .i64 z)) := by
  have h' : w.ownsRow base 3 1 (.slice (some ⟨g, 0, none⟩) n cap) n (xs.map (Value.int .i64)) := by
    have := h; unfold Own at this; rw [hn] at this; exact this
  refine ⟨?_, h'.frozenAt j, fun z => ?_⟩
  · rw [h'.cellAt j (by omega), List.getElem?_map]
    have : j < xs.length := by omega
    simp [List.getD, this]
  · have hs := h'.stored j (.int .i64 z)
    refine ⟨?_, (Turn.of_grown hs.2).mono (fun i hi => by simpa using hi.symm)⟩
    have h2 := hs.1
    rw [← List.map_set] at h2
    unfold Own
    rw [List.length_set, hn]; exact h2
/-- A slot of a slice of the call's own: read, written, and written while another such slice stays. -/
theorem Own.slotL {w : World} {base g n cap j : Nat} {xs : List Int} (h : Own w base (.slice (some ⟨g, 0, none⟩) n cap) xs) (hn : xs.length = n) (hj : j < n) :
    w.cell? ⟨g, j, none⟩ = some (.int .i64 (lget xs j)) ∧ w.frozen? ⟨g, j, none⟩ = false ∧
    ∀ z : Int, Own (w.setCell ⟨g, j, none⟩ (.int .i64 z)) base (.slice (some ⟨g, 0, none⟩) n cap) (xs.set j z) ∧ Turn (fun i => i = g) w (w.setCell ⟨g, j, none⟩ (.int .i64 z)) := h.slot hn hj
theorem Own.not_block {w w' : World} {base g n cap : Nat} {v : Value} {xs : List Int} (h : Own w base v xs) (ha : Apart v (.slice (some ⟨g, 0, none⟩) n cap)) (ht : Turn (fun i => i = g) w w') : Own w' base v xs :=
  h.turn ht (fun k hk e => ha k hk (by subst e; rfl))
theorem Own.at0 {w : World} {base n : Nat} {v : Value} {xs : List Int} (h : Own w base v xs) (hn : xs.length = n) (hp : 0 < n) : ∃ g cap, v = .slice (some ⟨g, 0, none⟩) n cap := by
  rcases h.2 with ⟨_, h0⟩ | ⟨g, cap, cur, e, _⟩
  · omega
  · exact ⟨g, cap, by rw [e, hn]⟩
def sLen : Value → Nat
  | .slice _ n _ => n
  | _ => 0
theorem own_made (w : World) (base n : Nat) (hb : base ≤ w.heap.size) (hn : n ≤ 1048576) : Own (w.alloc (.cells (madeCells #[.int .i64 0] n) 3)) base (.slice (some ⟨w.heap.size, 0, none⟩) n n) (List.replicate n 0) := by
  have hr : IntRow (w.alloc (.cells (madeCells #[.int .i64 0] n) 3)) w.heap.size (List.replicate n 0) := by
    unfold IntRow
    rw [List.length_replicate]
    exact (World.rowIs_made w (.int .i64 0) n 3).congr (fun i hi => by simp [List.getD, hi])
  have := Own.of_row hr hb (by simp; omega)
  rw [List.length_replicate] at this
  exact this
end Go.Proofs.YtblebedejddefaaGreat

namespace Go.Proofs.YtblebedejddefaaGreat
open Go.RowKit Go.Sort

/-- Block g holds J headers; row j lies in block B j and reads as f j. -/
structure Mat (w : World) (base g cap J M : Nat) (B Cp : Nat → Nat) (f : Nat → Nat → Int) : Prop where
  hd : w.ownsRow base 24 1 (.slice (some ⟨g, 0, none⟩) J cap) J ((List.range J).map fun j => Value.slice (some ⟨B j, 0, none⟩) M (Cp j))
  row : ∀ j, j < J → Own w base (.slice (some ⟨B j, 0, none⟩) M (Cp j)) (mapTo (f j) M)
  apart : ∀ i j, i < J → j < J → i ≠ j → B i ≠ B j
theorem Mat.kp {w w' : World} {base g cap J M : Nat} {B Cp : Nat → Nat} {f : Nat → Nat → Int} (h : Mat w base g cap J M B Cp f) (hk : Kp w w') : Mat w' base g cap J M B Cp f :=
  ⟨hk.own h.hd, fun j hj => (h.row j hj).kp hk, h.apart⟩
theorem Mat.turn {S : Nat → Prop} {w w' : World} {base g cap J M : Nat} {B Cp : Nat → Nat} {f : Nat → Nat → Int} (h : Mat w base g cap J M B Cp f) (ht : Turn S w w') (h1 : ¬ S g) (h2 : ∀ j, j < J → ¬ S (B j)) : Mat w' base g cap J M B Cp f :=
  ⟨own_turn h.hd ht (fun k hk hs => by have : g = k := by simpa [Value.ownBlock] using hk
                                       subst this; exact h1 hs),
   fun j hj => (h.row j hj).turn ht (fun k hk hs => by have : B j = k := by simpa [Value.ownBlock] using hk
                                                       subst this; exact h2 j hj hs), h.apart⟩
theorem Mat.congr {w : World} {base g cap J M : Nat} {B Cp : Nat → Nat} {f f' : Nat → Nat → Int} (h : Mat w base g cap J M B Cp f) (e : ∀ j a, j < J → a < M → f j a = f' j a) : Mat w base g cap J M B Cp f' :=
  ⟨h.hd, fun j hj => by
    have : mapTo (f j) M = mapTo (f' j) M := by unfold mapTo; exact List.map_congr_left (fun a ha => e j a hj (List.mem_range.1 ha))
    rw [← this]; exact h.row j hj, h.apart⟩
theorem Mat.lt {w : World} {base g cap J M : Nat} {B Cp : Nat → Nat} {f : Nat → Nat → Int} (h : Mat w base g cap J M B Cp f) {j : Nat} (hj : j < J) : base ≤ B j ∧ B j < w.heap.size := (h.row j hj).lt (B j) rfl
theorem Mat.glt {w : World} {base g cap J M : Nat} {B Cp : Nat → Nat} {f : Nat → Nat → Int} (h : Mat w base g cap J M B Cp f) : base ≤ g ∧ g < w.heap.size := World.ownsRow.lt h.hd g rfl
theorem Mat.gne {w : World} {base g cap J M : Nat} {B Cp : Nat → Nat} {f : Nat → Nat → Int} (h : Mat w base g cap J M B Cp f) {j : Nat} (hj : j < J) : B j ≠ g := fun e =>
  own_blocks_ne (h.row j hj) h.hd (by decide) (g := B j) rfl (by rw [e]; rfl)
theorem own_ne_hd {w : World} {base base' g n cap J : Nat} {A : Value} {xs : List Int} {hs : List Value} (h : Own w base A xs) (h2 : w.ownsRow base' 24 1 (.slice (some ⟨g, 0, none⟩) n cap) J hs) {k : Nat} (hk : A.ownBlock = some k) : k ≠ g := fun e =>
  own_blocks_ne h h2 (by decide) hk (by subst e; rfl)
theorem Mat.hcell {w : World} {base g cap J M : Nat} {B Cp : Nat → Nat} {f : Nat → Nat → Int} (h : Mat w base g cap J M B Cp f) {j : Nat} (hj : j < J) : w.cell? ⟨g, j, none⟩ = some (.slice (some ⟨B j, 0, none⟩) M (Cp j)) := by
  have := World.ownsRow.cells h.hd (g := g) rfl j (Value.slice (some ⟨B j, 0, none⟩) M (Cp j)) (by simp [hj])
  rwa [add0] at this
theorem mapTo_lget {g : Nat → Int} {M a : Nat} (h : a < M) : lget (mapTo g M) a = g a := by
  rw [lget_at (by rw [mapTo_len]; exact h), mapTo_get h]
theorem mapTo_set {g : Nat → Int} {M a : Nat} {z : Int} : (mapTo g M).set a z = mapTo (upd g a z) M := by
  unfold mapTo
  apply List.ext_getElem
  · simp
  · intro i h1 h2
    rw [List.getElem_set]
    by_cases e : a = i
    · subst e; simp [upd]
    · have e2 : ¬ i = a := fun h => e h.symm
      simp [e, upd, e2]
theorem Mat.cell {w : World} {base g cap J M : Nat} {B Cp : Nat → Nat} {f : Nat → Nat → Int} (h : Mat w base g cap J M B Cp f) {j a : Nat} (hj : j < J) (ha : a < M) :
    w.cell? ⟨B j, a, none⟩ = some (.int .i64 (f j a)) ∧ w.frozen? ⟨B j, a, none⟩ = false ∧
    ∀ z : Int, Mat (w.setCell ⟨B j, a, none⟩ (.int .i64 z)) base g cap J M B Cp (upd2 f j a z) ∧ Turn (fun i => i = B j) w (w.setCell ⟨B j, a, none⟩ (.int .i64 z)) := by
  obtain ⟨c1, c2, c3⟩ := (h.row j hj).slotL (mapTo_len _ _) ha
  rw [mapTo_lget ha] at c1
  refine ⟨c1, c2, fun z => ?_⟩
  obtain ⟨o1, t1⟩ := c3 z
  refine ⟨⟨own_turn h.hd t1 (fun k hk hs => ?_), fun i hi => ?_, h.apart⟩, t1⟩
  · have e : g = k := by simpa [Value.ownBlock] using hk
    subst e; exact h.gne hj hs.symm
  · by_cases e : i = j
    · subst e
      rw [mapTo_set] at o1
      have : upd2 f i a z i = upd (f i) a z := by funext b; unfold upd2; rw [if_pos rfl]
      rw [this]; exact o1
    · have : upd2 f j a z i = f i := by funext b; unfold upd2; rw [if_neg e]
      rw [this]
      exact (h.row i hi).turn t1 (fun k hk hs => by
        have e2 : B i = k := by simpa [Value.ownBlock] using hk
        subst e2; exact h.apart i j hi hj e hs)
theorem Mat.ints {w : World} {base g cap J M : Nat} {B Cp : Nat → Nat} {f : Nat → Nat → Int} (h : Mat w base g cap J M B Cp f) (hM : M ≤ 1048576) {j : Nat} (hj : j < J) : IntsAt w (some ⟨B j, 0, none⟩) (mapTo (f j) M) := by
  obtain ⟨A, c, e, hi⟩ := (h.row j hj).ints (by rw [mapTo_len]; omega)
  rw [mapTo_len] at e
  simp only [Value.slice.injEq] at e
  rw [e.1]; exact hi
/-- The rows of it. -/
def matL (J M : Nat) (f : Nat → Nat → Int) : List (List Int) := (List.range J).map fun j => mapTo (f j) M
theorem matL_len (J M : Nat) (f : Nat → Nat → Int) : (matL J M f).length = J := by simp [matL]
theorem matL_at {J M : Nat} {f : Nat → Nat → Int} {j : Nat} (hj : j < J) : (matL J M f).getD j [] = mapTo (f j) M := by simp [matL, List.getD, hj]
theorem Mat.grid {w : World} {base g cap J M : Nat} {B Cp : Nat → Nat} {f : Nat → Nat → Int} (h : Mat w base g cap J M B Cp f) (hJ : J ≤ 1048576) (hM : M ≤ 1048576) : GridAt w (some ⟨g, 0, none⟩) (matL J M f) :=
  ⟨by rw [matL_len]; omega, fun k hk => by
    rw [matL_len] at hk
    rw [matL_at hk]
    exact ⟨_, _, _, rfl, by rw [add0, mapTo_len]; exact h.hcell hk, h.ints hM hk⟩⟩
theorem Mat.ownGrid {w : World} {base g cap J M : Nat} {B Cp : Nat → Nat} {f : Nat → Nat → Int} (h : Mat w base g cap J M B Cp f) : OwnGrid w base (.slice (some ⟨g, 0, none⟩) J cap) J (fun j => mapTo (f j) M) :=
  ⟨fun j => Value.slice (some ⟨B j, 0, none⟩) M (Cp j), h.hd, h.row, fun i j k hij hj e1 e2 => by
    have e3 : B i = k := by simpa [Value.ownBlock] using e1
    have e4 : B j = k := by simpa [Value.ownBlock] using e2
    exact h.apart i j (by omega) hj (by omega) (by omega)⟩
end Go.Proofs.YtblebedejddefaaGreat

/- What the law on costs says of the lists: plain words; Bytes of the call's own: append of bytes; Small functions of the laws on costs: too many bytes, equal lists, a sum, a part of the bytes. No condition. -/
import Derived.Test.YtkaammkanapkmaaGreatQAk
import Derived.Test.YtkaammkanapkmaaGreatQAb
import Derived.Test.YtkaammkanapkmaaGreatQAc
import Derived.Test.YtkaammkanapkmaaGreatQAa
namespace Go.Proofs.YtkaammkanapkmaaGreat
open Go.RowKit Go.Sort

theorem amT0 (ct : Nat → Int) (O : List Int) (k : Nat) : amT ct (fun _ => 0) O k = fun j => mgT ct O j k := by
  funext j; unfold amT; exact Int.zero_add _
structure MsP (F : Fld) (O : List Int) : Prop where
  good : goodF F = true
  len : (msL F O).length = F.di.length
  at_ : ∀ j (h : j < (msL F O).length), 0 ≤ (msL F O)[j] ∧ (msL F O)[j] ≤ cocR F [(j : Int)]
  sum : 0 < F.di.length → (msL F O).sum = totF F (bestF F)
theorem ms_parts {F : Fld} {O : List Int} (h : msOk F O = true) : MsP F O := by
  have h0 := h
  unfold msOk at h0
  rw [Bool.and_eq_true] at h0
  obtain ⟨hg, ho⟩ := h0
  obtain ⟨h1, h2⟩ := ordB_iff.1 ho
  have e := msL_yes h
  have hl : (msL F O).length = F.di.length := by rw [e, mapTo_len]
  refine ⟨hg, hl, fun j hj => ?_, fun hp => ?_⟩
  · have hj2 : j < F.di.length := by omega
    have e2 : (msL F O)[j] = mgT (ctF F) O j O.length := by
      simp only [e, amT0]
      rw [mapTo_get hj2]
    have hc : cocOk F [(j : Int)] = true := by
      unfold cocOk
      rw [hg, Bool.true_and]
      exact ris_iff.2 ⟨by simp, fun x hx => by rw [List.mem_singleton.1 hx]; omega⟩
    have e3 : cocR F [(j : Int)] = costF F [(j : Int)] := by rw [cocR, if_pos hc]
    rw [e2, e3]
    exact marg_share hg h1 h2 hj2
  · rw [e, amT0]
    show sumTo _ _ = _
    rw [marg_sumall h1 h2, ct_full hp]
structure CtP (F : Fld) (P : Nat) : Prop where
  len : (ctL F).length = P
  or_ : ∀ a b, a < P → b < P → a ||| b < P
  pos : 0 < P
  cup : ∀ a b (ha : a < (ctL F).length) (hb : b < (ctL F).length) (hc : a ||| b < (ctL F).length), (ctL F)[a ||| b] ≤ (ctL F)[a] + (ctL F)[b] ∧ (ctL F)[a] ≤ (ctL F)[a ||| b]
  bd : ∀ a (ha : a < (ctL F).length), 0 ≤ (ctL F)[a] ∧ (ctL F)[a] ≤ 1386
  fair : ∀ (h : P - 1 < (ctL F).length), (frL F).sum = frM F * (ctL F)[P - 1]
theorem ct_parts {F : Fld} (hg : goodF F = true) : CtP F (2 ^ F.di.length) := by
  have e := ctL_yes hg
  have hl : (ctL F).length = 2 ^ F.di.length := by rw [e, mapTo_len]
  have hat : ∀ a (ha : a < (ctL F).length), (ctL F)[a] = ctF F a := fun a ha => by
    simp only [e]
    rw [mapTo_get (by omega)]
  have hp : 0 < 2 ^ F.di.length := Nat.two_pow_pos _
  refine ⟨hl, fun a b ha hb => Nat.or_lt_two_pow ha hb, hp, fun a b ha hb hc => ?_, fun a ha => ?_, fun h => ?_⟩
  · rw [hat _ ha, hat _ hb, hat _ hc]
    exact ⟨ct_cup hg a b, ct_mono hg a b⟩
  · rw [hat _ ha]; exact ct_bd hg a
  · rw [hat _ h, frL_yes hg, frM_yes hg]
    exact fair_sum hg
end Go.Proofs.YtkaammkanapkmaaGreat

namespace Go.Proofs.YtkaammkanapkmaaGreat
open Go.RowKit Go.Sort

theorem infoByte : (Tryz.prog.info? 5).map (fun i => (i.zero, i.size, i.bytes)) = some (some (.int .u8 0), 1, 1) := by kernel_rfl
/-- A slice of bytes of the call's own. -/
def OwnB (w : World) (base : Nat) (v : Value) (xs : List Int) : Prop := w.ownsRow base 5 1 v xs.length (xs.map (Value.int .u8)) ∧ ∀ x ∈ xs, 0 ≤ x ∧ x < 256
/-- What the bytes read as. -/
theorem BytesAt.list {w : World} {A : Option Addr} {n : Nat} (h : BytesAt w A n) : ∃ ys : List Int, ys.length = n ∧ (∀ y ∈ ys, 0 ≤ y ∧ y < 256) ∧ ∀ k (hk : k < ys.length), ∃ ad, A = some ad ∧ w.cell? (ad.add k) = some (.int .u8 ys[k]) := by
  refine ⟨(List.range n).map fun k => if hk : k < n then (h.2 k hk).choose_spec.choose else 0, by simp, ?_, ?_⟩
  · intro y hy
    rw [List.mem_map] at hy
    obtain ⟨k, hk, rfl⟩ := hy
    have hk2 := List.mem_range.1 hk
    rw [dif_pos hk2]
    exact (h.2 k hk2).choose_spec.choose_spec.2.2
  · intro k hk
    have hk2 : k < n := by simpa using hk
    simp only [List.getElem_map, List.getElem_range]
    rw [dif_pos hk2]
    exact ⟨_, (h.2 k hk2).choose_spec.choose_spec.1, (h.2 k hk2).choose_spec.choose_spec.2.1⟩
/-- A part of the bytes. -/
theorem BytesAt.cut {w : World} {ad : Addr} {n k : Nat} (h : BytesAt w (some ad) n) (hk : k ≤ n) : BytesAt w (some (ad.add k)) (n - k) :=
  ⟨by have := h.1; omega, fun j hj => by
    obtain ⟨a, b, e, hc, hb⟩ := h.2 (k + j) (by omega)
    cases e
    refine ⟨ad.add k, b, rfl, ?_, hb⟩
    rw [Addr.add_add]; exact hc⟩
theorem OwnB.bytes {w : World} {base : Nat} {v : Value} {xs : List Int} (h : OwnB w base v xs) (hl : xs.length ≤ 9223372036854775807) : ∃ A c, v = .slice A xs.length c ∧ BytesAt w A xs.length := by
  rcases h.1.2 with ⟨rfl, h0⟩ | ⟨g, cap, cur, rfl, _, _, _⟩
  · refine ⟨none, 0, by rw [h0], hl, fun k hk => ?_⟩
    rw [h0] at hk; omega
  · refine ⟨_, cap, rfl, hl, fun k hk => ⟨_, xs[k], rfl, ?_, h.2 _ (List.getElem_mem hk)⟩⟩
    exact World.ownsRow.cells h.1 (g := g) rfl k (.int .u8 xs[k]) (by simp [hk])
theorem OwnB.kp {w w' : World} {base : Nat} {v : Value} {xs : List Int} (h : OwnB w base v xs) (hk : Kp w w') : OwnB w' base v xs := ⟨hk.own h.1, h.2⟩
theorem OwnB.lt {w : World} {base : Nat} {v : Value} {xs : List Int} (h : OwnB w base v xs) : ∀ i, v.ownBlock = some i → base ≤ i ∧ i < w.heap.size := h.1.lt
theorem ownB_new0 (w : World) (base : Nat) (hb : base ≤ w.heap.size) : OwnB (w.alloc (.cells #[] 5)) base (.slice (some ⟨w.heap.size, 0, none⟩) 0 0) [] :=
  ⟨World.ownsRow_lit w #[] 0 hb (by unfold maxLen; omega) (by simp), by simp⟩
theorem run_appB {W : World} (ty : TypeId) (base : Nat) (v : Value) (xs ys : List Int) (A : Option Addr) (m c : Nat)
    (hown : OwnB W base v xs) (hm : ys.length = m) (hb : ∀ y ∈ ys, 0 ≤ y ∧ y < 256) (hy : ∀ k (hk : k < ys.length), ∃ ad, A = some ad ∧ W.cell? (ad.add k) = some (.int .u8 ys[k])) (hbase : base ≤ W.heap.size) (hlen : xs.length + ys.length ≤ 4194304) :
    ∃ v' w', (Builtin.append_ #[22, 22] ty #[v, .slice A m c]).run Tryz.prog W = .ok v' w' ∧ OwnB w' base v' (xs ++ ys) ∧ W.grownBy w' v.ownBlock ∧ (v'.ownBlock = v.ownBlock ∨ ∀ g, v'.ownBlock = some g → W.heap.size ≤ g) := by
  obtain ⟨i0, hi, hz0, hz1, hz2⟩ := info_parts infoByte
  have hb2 : ∀ x ∈ xs ++ ys, 0 ≤ x ∧ x < 256 := fun x hx => (List.mem_append.1 hx).elim (hown.2 x) (hb x)
  rcases A with _ | ad
  · have hys : ys = [] := by
      rcases ys with _ | ⟨y, ys⟩
      · rfl
      · obtain ⟨ad, h, _⟩ := hy 0 (by simp)
        cases h
    subst hys
    obtain rfl : m = 0 := by simpa using hm.symm
    refine ⟨v, W, ?_, by simpa using hown, World.grownBy.refl W _, .inl rfl⟩
    rcases hown.1.2 with ⟨rfl, hn0⟩ | ⟨g, cap, cur, rfl, _, _, hnc, _⟩
    · simp [Builtin.append_, run_underlying Tryz.underlying22, sizeOf, typeInfo, hi, Builtin.lenOf, Builtin.firstCells]
    · simp [Builtin.append_, run_underlying Tryz.underlying22, sizeOf, typeInfo, hi, Builtin.lenOf, Builtin.firstCells, hnc, storeCells]
  · obtain ⟨v', w', hrun, h2, h3, _, h5⟩ := run_append_own_at (P := Tryz.prog) W base 22 ty 5 i0 (.int .u8 0) 1 1 Tryz.underlying22 hi hz0 hz1 hz2 rfl (by decide) v xs.length (xs.map (Value.int .u8)) hown.1 ad m c (ys.map (Value.int .u8)) (by simp [hm]) (by
      intro j u hj
      by_cases hlt : j < ys.length
      · rw [List.getElem?_map, List.getElem?_eq_getElem hlt] at hj
        have e : u = .int .u8 ys[j] := by simpa using hj.symm
        obtain ⟨ad', e', hc⟩ := hy j hlt
        cases e'
        rw [e]; exact hc
      · rw [List.getElem?_eq_none (by simpa using hlt)] at hj; cases hj) (ints_oneCell _ _) (by unfold maxLen; omega) (by omega) hbase
    refine ⟨v', w', hrun, ⟨?_, hb2⟩, h3, ?_⟩
    · rw [List.length_append, List.map_append, hm]
      exact h2
    · rcases h5 with e | e
      · exact .inl e
      · exact .inr (fun g hg => by rw [e] at hg; simp at hg; omega)
theorem step_appB {ops : Array Oper} {o : Oper} {a : Act} {K : Act → World → Prop} {Q : Exit → Act → World → Prop} {E : Prop} {W : World} (hgd : o.guard = none) (s x : Operand)
    (ho : o.op = .call { callee := .builtin .append, args := #[s, x], argTypes := #[22, 22] }) (base : Nat) (v : Value) (xs ys : List Int) (A : Option Addr) (m c : Nat)
    (hs : a.eval s = v) (hx : a.eval x = .slice A m c) (hown : OwnB W base v xs) (hm : ys.length = m) (hb : ∀ y ∈ ys, 0 ≤ y ∧ y < 256) (hy : ∀ k (hk : k < ys.length), ∃ ad, A = some ad ∧ W.cell? (ad.add k) = some (.int .u8 ys[k])) (hbase : base ≤ W.heap.size) (hlen : xs.length + ys.length ≤ 4194304)
    (h : ∀ v' w', OwnB w' base v' (xs ++ ys) → Turn (fun i => v.ownBlock = some i) W w' → (v'.ownBlock = v.ownBlock ∨ ∀ g, v'.ownBlock = some g → W.heap.size ≤ g) → K (a.put o.dst v') w') :
    if Region.wanted o (yielded ops a.tmps) = true then Oper.wp Tryz.prog o a W K Q else E := by
  have hw : Region.wanted o (yielded ops a.tmps) = true := by simp [Region.wanted, hgd]
  rw [if_pos hw]
  obtain ⟨v', w', hrun, h2, h3, h4⟩ := run_appB (W := W) o.type base v xs ys A m c hown hm hb hy hbase hlen
  unfold Oper.wp execOp
  simp only [ho, resolve, invoke, builtin, Sem.run_bind, Sem.run_pure, Result.andThen_ok, List.map_toArray, List.map_cons, List.map_nil, hs, hx, hrun]
  exact h v' w' h2 (Turn.of_grown h3) h4
theorem wpl_appB {ops : Array Oper} {rest : List Oper} {o : Oper} {a : Act} {Q : Exit → Act → World → Prop} {W : World} (hgd : o.guard = none) (s x : Operand)
    (ho : o.op = .call { callee := .builtin .append, args := #[s, x], argTypes := #[22, 22] }) (base : Nat) (v : Value) (xs ys : List Int) (A : Option Addr) (m c : Nat)
    (hs : a.eval s = v) (hx : a.eval x = .slice A m c) (hown : OwnB W base v xs) (hm : ys.length = m) (hb : ∀ y ∈ ys, 0 ≤ y ∧ y < 256) (hy : ∀ k (hk : k < ys.length), ∃ ad, A = some ad ∧ W.cell? (ad.add k) = some (.int .u8 ys[k])) (hbase : base ≤ W.heap.size) (hlen : xs.length + ys.length ≤ 4194304)
    (h : ∀ v' w', OwnB w' base v' (xs ++ ys) → Turn (fun i => v.ownBlock = some i) W w' → (v'.ownBlock = v.ownBlock ∨ ∀ g, v'.ownBlock = some g → W.heap.size ≤ g) → wpList Tryz.prog ops Q rest (a.put o.dst v') w') :
    wpList Tryz.prog ops Q (o :: rest) a W := by
  obtain ⟨v', w', hrun, h2, h3, h4⟩ := run_appB (W := W) o.type base v xs ys A m c hown hm hb hy hbase hlen
  exact Lib.wpList_append_run _ hgd s x _ _ ho _ _ hs hx v' w' hrun (h v' w' h2 (Turn.of_grown h3) h4)
theorem wpl_appB1 {ops : Array Oper} {rest : List Oper} {o : Oper} {a : Act} {Q : Exit → Act → World → Prop} {W : World} (hgd : o.guard = none) (s x : Operand)
    (ho : o.op = .call { callee := .builtin .append, args := #[s, x], argTypes := #[22, 22] }) (base : Nat) (v : Value) (xs : List Int) (z : Int)
    (hs : a.eval s = v) (hx : a.eval x = .slice (some ⟨W.heap.size, 0, none⟩) 1 1) (hown : OwnB W base v xs) (hz : 0 ≤ z ∧ z < 256) (hbase : base ≤ W.heap.size) (hlen : xs.length < 1048576)
    (h : ∀ v' w', OwnB w' base v' (xs ++ [z]) → Turn (fun i => v.ownBlock = some i) W w' → wpList Tryz.prog ops Q rest (a.put o.dst v') w') :
    wpList Tryz.prog ops Q (o :: rest) a (W.alloc (.cells #[.int .u8 z] 5)) := by
  have hka : Kp W (W.alloc (.cells #[.int .u8 z] 5)) := (Kp.refl W).alloc _
  refine wpl_appB hgd s x ho base v xs [z] _ 1 1 hs hx (hown.kp hka) rfl (fun y hy => by rw [List.mem_singleton.1 hy]; exact hz) (fun k hk => ?_) (by simp; omega) (by simp; omega) (fun v' w' h1 h2 _ => h v' w' h1 ((Turn.of_kp hka).trans h2))
  obtain rfl : k = 0 := by simpa using hk
  exact ⟨_, rfl, by rw [add0, World.cell?_alloc_at _ _ _ _ rfl]; rfl⟩
theorem wrap_u8_bd (x : Int) : 0 ≤ IntKind.u8.wrap x ∧ IntKind.u8.wrap x < 256 := by
  have : IntKind.u8.wrap x = x % 256 := by simp [IntKind.wrap, IntKind.bits, IntKind.signed]
  omega
end Go.Proofs.YtkaammkanapkmaaGreat

namespace Go.Proofs.YtkaammkanapkmaaGreat
open Go.RowKit Go.Sort

theorem vBig_any (A : Option Addr) (n c : Nat) (w : World) :
    Calls Tryz.prog 4 #[.slice A n c] w fun e w' => e = .returned (.bool (decide (65536 < (n : Int)))) ∧ w = w' := by
  go_enter Tryz.func4, Tryz.ntmps4
  go_wp2_with fail
  go_ret
  exact ⟨rfl, rfl⟩
set_option maxRecDepth 100000 in
set_option maxHeartbeats 1000000 in
/-- Two slices that read as the same list. -/
theorem vInts_same (A B : Option Addr) (xs : List Int) (n c d : Nat) (w : World) (hA : IntsAt w A xs) (hB : IntsAt w B xs) (hn : xs.length = n) :
    Calls Tryz.prog 17 #[.slice A n c, .slice B n d] w fun e w' => e = .returned (.bool true) ∧ Kp w w' := by
  have Hn := Lib.hid hn
  have hn63 : n ≤ 9223372036854775807 := hn ▸ hA.1
  clear hn
  have e0 : ((n : Int) != (n : Int)) = false := by simp
  go_enter Tryz.func17, Tryz.ntmps17
  go_wp2_with fail
  go_loopw [5] (fun iv wr => ∃ i : Nat, iv = .int .i64 i ∧ i ≤ n ∧ Kp w wr) (fun iv _ => n - (intOf iv).toNat)
  case atStart => exact ⟨0, rfl, by omega, Kp.refl _⟩
  case round =>
    obtain ⟨i, rfl, hi, hkr⟩ := hrel
    by_cases hlt : i < n
    · have lx : i < xs.length := by rw [Hn.out]; exact hlt
      obtain ⟨a, rfl, h1⟩ := (hA.kp hkr).at_ lx
      obtain ⟨b, rfl, h2⟩ := (hB.kp hkr).at_ lx
      obtain ⟨z, hz⟩ : ∃ z, xs[i] = z := ⟨_, rfl⟩
      rw [hz] at h1 h2
      have e1 : (z != z) = false := by simp
      have hkd : Kp w wr.drew := hkr.trans (Kp.refl wr).drew
      have iI : (i : Int) < (n : Int) := by omega
      go_wp2_with fail
      go_still (by kernel_rfl)
      change Exit.then _ _ _ _ wr.drew
      generalize wr.drew = wd at *
      go_wp2_with fail
      go_roundw
      case rel => exact ⟨i + 1, by go_num, by omega, hkd⟩
      case measure => simp [intOf]; omega
    · obtain rfl : i = n := by omega
      go_wp2_with fail
      go_ret
      exact ⟨rfl, hkr⟩
set_option maxRecDepth 100000 in
set_option maxHeartbeats 1000000 in
/-- The sum of a list. -/
theorem vSum_any (A : Option Addr) (xs : List Int) (n c : Nat) (w : World) (hA : IntsAt w A xs) (hn : xs.length = n) :
    Calls Tryz.prog 19 #[.slice A n c] w fun e w' => e = .returned (.int .i64 (wrap64 xs.sum)) ∧ Kp w w' := by
  have Hn := Lib.hid hn
  have hn63 : n ≤ 9223372036854775807 := hn ▸ hA.1
  clear hn
  go_enter Tryz.func19, Tryz.ntmps19
  go_wp2_with fail
  go_loopw [3, 4] (fun sv iv wr => ∃ (i : Nat) (s : Int), sv = .int .i64 s ∧ iv = .int .i64 i ∧ i ≤ n ∧ Hid (s = wrap64 (xs.take i).sum) ∧ Kp w wr) (fun _ iv _ => n - (intOf iv).toNat)
  case atStart => exact ⟨0, 0, rfl, rfl, by omega, Lib.hid (by simp [wrap64]), Kp.refl _⟩
  case round =>
    obtain ⟨i, s, rfl, rfl, hi, Hs, hkr⟩ := hrel
    by_cases hlt : i < n
    · have lx : i < xs.length := by rw [Hn.out]; exact hlt
      obtain ⟨a, rfl, h1⟩ := (hA.kp hkr).at_ lx
      obtain ⟨z, hz⟩ : ∃ z, xs[i] = z := ⟨_, rfl⟩
      rw [hz] at h1
      have Hst : Hid (wrap64 (s + z) = wrap64 (xs.take (i + 1)).sum) := by
        show _ = _
        rw [List.take_succ_eq_append_getElem lx, hz, List.sum_append, Hs.out]
        simp only [List.sum_cons, List.sum_nil, Int.add_zero]
        unfold wrap64
        omega
      have iI : (i : Int) < (n : Int) := by omega
      go_wp2_with fail
      go_roundw
      case rel => exact ⟨i + 1, _, rfl, by go_num, by omega, Hst, hkr⟩
      case measure => simp [intOf]; omega
    · obtain rfl : i = n := by omega
      have hend : s = wrap64 xs.sum := by have := Hs.out; rwa [List.take_of_length_le (by rw [Hn.out]; omega)] at this
      clear Hs
      subst hend
      go_wp2_with fail
      go_ret
      exact ⟨rfl, hkr⟩
theorem OwnB.cap {w : World} {base n c : Nat} {v : Value} {A : Option Addr} {xs : List Int} (h : OwnB w base v xs) (e : v = .slice A n c) : xs.length ≤ c := by
  rcases h.1.2 with ⟨rfl, h0⟩ | ⟨g, cap, cur, rfl, _, _, h4, _⟩
  · omega
  · cases e; exact h4
set_option maxRecDepth 100000 in
set_option maxHeartbeats 1000000 in
/-- A part of the bytes and one more. -/
theorem vCut_any (A : Option Addr) (n c k : Nat) (w : World) (hA : BytesAt w A n) (hn : n ≤ 65536) (hc : n ≤ c) (hk : k ≤ n) :
    Calls Tryz.prog 9 #[.slice A n c, .int .i64 k] w fun e w' => ∃ A' n' c', e = .returned (.slice A' n' c') ∧ (BytesAt w' A' n' ∧ n' ≤ c' ∧ n' ≤ 65537) ∧ Kp w w' := by
  have hd : decide ((n : Int) < (k : Int)) = false := decide_eq_false (by omega)
  have hkI : (k : Int) ≤ (n : Int) := by omega
  have hk0 : (0 : Int) ≤ (k : Int) := by omega
  have ho := ownB_new0 w w.heap.size (Nat.le_refl _)
  have hka : Kp w (w.alloc (.cells #[] 5)) := (Kp.refl w).alloc _
  have hbs : w.heap.size ≤ (w.alloc (.cells #[] 5)).heap.size := hka.le
  rcases A with _ | ad
  · obtain rfl : n = 0 := by
      rcases Nat.eq_zero_or_pos n with h | h
      · exact h
      · obtain ⟨a, b, e, _⟩ := hA.2 0 h
        cases e
    obtain rfl : k = 0 := by omega
    obtain ⟨ys, hm, hb, hy⟩ := (hA.kp hka).list
    have hlen : ([] : List Int).length + ys.length ≤ 4194304 := by simp; omega
    have hlen1 : (([] : List Int) ++ ys).length < 1048576 := by simp; omega
    go_enter Tryz.func9, Tryz.ntmps9
    go_wp2_with (first | (at_builtin; refine wpl_appB rfl (.tmp 11) (.tmp 14) rfl w.heap.size _ [] ys (none) (0) (c) rfl rfl ho hm hb hy hbs hlen ?_; intro v1 w1 ho1 ht1 h41; have kk := hka.turn ht1 (fun i e => (ho.lt i e).1); have hbs1 := kk.le) | (at_builtin; refine wpl_appB1 rfl (.tmp 15) (.tmp 18) rfl w.heap.size _ ([] ++ ys) _ rfl rfl ho1 (show (0 : Int) ≤ 0 ∧ (0 : Int) < 256 from by omega) hbs1 hlen1 ?_; intro v2 w2 ho2 ht2; have k2 := kk.turn ht2 (fun i e => (ho1.lt i e).1); obtain ⟨A2, c2, hv2, hb2⟩ := ho2.bytes (by simp; omega); have hcl := ho2.cap hv2; subst hv2) | fail)
    go_ret
    exact ⟨_, _, _, rfl, ⟨by simpa [hm] using hb2, by simpa [hm] using hcl, by omega⟩, k2⟩
  · by_cases hck : c = k
    · obtain rfl : n = k := by omega
      subst hck
      obtain ⟨ys, hm, hb, hy⟩ : ∃ ys : List Int, ys.length = 0 ∧ (∀ y ∈ ys, 0 ≤ y ∧ y < 256) ∧ ∀ k (hk : k < ys.length), ∃ a, some ad = some a ∧ (w.alloc (.cells #[] 5)).cell? (a.add k) = some (.int .u8 ys[k]) := ⟨[], rfl, by simp, fun k hk => by simp at hk⟩
      have hlen : ([] : List Int).length + ys.length ≤ 4194304 := by simp; omega
      have hlen1 : (([] : List Int) ++ ys).length < 1048576 := by simp; omega
      go_enter Tryz.func9, Tryz.ntmps9
      go_wp2_with (first | (at_builtin; refine wpl_appB rfl (.tmp 11) (.tmp 14) rfl w.heap.size _ [] ys (some ad) (0) (0) rfl rfl ho hm hb hy hbs hlen ?_; intro v1 w1 ho1 ht1 h41; have kk := hka.turn ht1 (fun i e => (ho.lt i e).1); have hbs1 := kk.le) | (at_builtin; refine wpl_appB1 rfl (.tmp 15) (.tmp 18) rfl w.heap.size _ ([] ++ ys) _ rfl rfl ho1 (wrap_u8_bd _) hbs1 hlen1 ?_; intro v2 w2 ho2 ht2; have k2 := kk.turn ht2 (fun i e => (ho1.lt i e).1); obtain ⟨A2, c2, hv2, hb2⟩ := ho2.bytes (by simp; omega); have hcl := ho2.cap hv2; subst hv2) | fail)
      go_ret
      exact ⟨_, _, _, rfl, ⟨by simpa [hm] using hb2, by simpa [hm] using hcl, by omega⟩, k2⟩
    · have hck2 : ((c : Int) == (k : Int)) = false := by simp; omega
      obtain ⟨ys, hm, hb, hy⟩ := ((hA.kp hka).cut hk).list
      have hlen : ([] : List Int).length + ys.length ≤ 4194304 := by simp; omega
      have hlen1 : (([] : List Int) ++ ys).length < 1048576 := by simp; omega
      go_enter Tryz.func9, Tryz.ntmps9
      go_wp2_with (first | (at_builtin; refine wpl_appB rfl (.tmp 11) (.tmp 14) rfl w.heap.size _ [] ys (some (ad.add k)) (n - k) (c - k) rfl rfl ho hm hb hy hbs hlen ?_; intro v1 w1 ho1 ht1 h41; have kk := hka.turn ht1 (fun i e => (ho.lt i e).1); have hbs1 := kk.le) | (at_builtin; refine wpl_appB1 rfl (.tmp 15) (.tmp 18) rfl w.heap.size _ ([] ++ ys) _ rfl rfl ho1 (wrap_u8_bd _) hbs1 hlen1 ?_; intro v2 w2 ho2 ht2; have k2 := kk.turn ht2 (fun i e => (ho1.lt i e).1); obtain ⟨A2, c2, hv2, hb2⟩ := ho2.bytes (by simp; omega); have hcl := ho2.cap hv2; subst hv2) | fail)
      go_ret
      exact ⟨_, _, _, rfl, ⟨by simpa [hm] using hb2, by simpa [hm] using hcl, by omega⟩, k2⟩
set_option maxRecDepth 100000 in
set_option maxHeartbeats 1000000 in
theorem vCut_over (A : Option Addr) (n c k : Nat) (w : World) (hA : BytesAt w A n) (hn : n ≤ 65536) (hc : n ≤ c) (hk : n < k) :
    Calls Tryz.prog 9 #[.slice A n c, .int .i64 k] w fun e w' => ∃ A' n' c', e = .returned (.slice A' n' c') ∧ (BytesAt w' A' n' ∧ n' ≤ c' ∧ n' ≤ 65537) ∧ Kp w w' := by
  have hd : decide ((n : Int) < (k : Int)) = true := decide_eq_true (by omega)
  have ho := ownB_new0 w w.heap.size (Nat.le_refl _)
  have hka : Kp w (w.alloc (.cells #[] 5)) := (Kp.refl w).alloc _
  have hbs : w.heap.size ≤ (w.alloc (.cells #[] 5)).heap.size := hka.le
  rcases A with _ | ad
  · obtain rfl : n = 0 := by
      rcases Nat.eq_zero_or_pos n with h | h
      · exact h
      · obtain ⟨a, b, e, _⟩ := hA.2 0 h
        cases e
    obtain ⟨ys, hm, hb, hy⟩ := (hA.kp hka).list
    have hlen : ([] : List Int).length + ys.length ≤ 4194304 := by simp; omega
    have hlen1 : (([] : List Int) ++ ys).length < 1048576 := by simp; omega
    go_enter Tryz.func9, Tryz.ntmps9
    go_wp2_with (first | (at_builtin; refine wpl_appB rfl (.tmp 11) (.tmp 14) rfl w.heap.size _ [] ys (none) (0) (c) rfl rfl ho hm hb hy hbs hlen ?_; intro v1 w1 ho1 ht1 h41; have kk := hka.turn ht1 (fun i e => (ho.lt i e).1); have hbs1 := kk.le) | (at_builtin; refine wpl_appB1 rfl (.tmp 15) (.tmp 18) rfl w.heap.size _ ([] ++ ys) _ rfl rfl ho1 (show (0 : Int) ≤ 0 ∧ (0 : Int) < 256 from by omega) hbs1 hlen1 ?_; intro v2 w2 ho2 ht2; have k2 := kk.turn ht2 (fun i e => (ho1.lt i e).1); obtain ⟨A2, c2, hv2, hb2⟩ := ho2.bytes (by simp; omega); have hcl := ho2.cap hv2; subst hv2) | fail)
    go_ret
    exact ⟨_, _, _, rfl, ⟨by simpa [hm] using hb2, by simpa [hm] using hcl, by omega⟩, k2⟩
  · have hkI : (n : Int) ≤ (n : Int) := by omega
    have hk0 : (0 : Int) ≤ (n : Int) := by omega
    have hkc : (n : Int) ≤ (c : Int) := by omega
    obtain ⟨ys, hm, hb, hy⟩ : ∃ ys : List Int, ys.length = 0 ∧ (∀ y ∈ ys, 0 ≤ y ∧ y < 256) ∧ ∀ (B : Option Addr), ∀ k (hk : k < ys.length), ∃ a, B = some a ∧ (w.alloc (.cells #[] 5)).cell? (a.add k) = some (.int .u8 ys[k]) := ⟨[], rfl, by simp, fun B k hk => by simp at hk⟩
    have hlen : ([] : List Int).length + ys.length ≤ 4194304 := by simp; omega
    have hlen1 : (([] : List Int) ++ ys).length < 1048576 := by simp; omega
    by_cases hck : c = n
    · subst hck
      replace hy := hy (some ad)
      go_enter Tryz.func9, Tryz.ntmps9
      go_wp2_with (first | (at_builtin; refine wpl_appB rfl (.tmp 11) (.tmp 14) rfl w.heap.size _ [] ys (some ad) (0) (0) rfl rfl ho hm hb hy hbs hlen ?_; intro v1 w1 ho1 ht1 h41; have kk := hka.turn ht1 (fun i e => (ho.lt i e).1); have hbs1 := kk.le) | (at_builtin; refine wpl_appB1 rfl (.tmp 15) (.tmp 18) rfl w.heap.size _ ([] ++ ys) _ rfl rfl ho1 (wrap_u8_bd _) hbs1 hlen1 ?_; intro v2 w2 ho2 ht2; have k2 := kk.turn ht2 (fun i e => (ho1.lt i e).1); obtain ⟨A2, c2, hv2, hb2⟩ := ho2.bytes (by simp; omega); have hcl := ho2.cap hv2; subst hv2) | fail)
      go_ret
      exact ⟨_, _, _, rfl, ⟨by simpa [hm] using hb2, by simpa [hm] using hcl, by omega⟩, k2⟩
    · have hck2 : ((c : Int) == (n : Int)) = false := by simp; omega
      replace hy := hy (some (ad.add n))
      go_enter Tryz.func9, Tryz.ntmps9
      go_wp2_with (first | (at_builtin; refine wpl_appB rfl (.tmp 11) (.tmp 14) rfl w.heap.size _ [] ys (some (ad.add n)) (0) (c - n) rfl rfl ho hm hb hy hbs hlen ?_; intro v1 w1 ho1 ht1 h41; have kk := hka.turn ht1 (fun i e => (ho.lt i e).1); have hbs1 := kk.le) | (at_builtin; refine wpl_appB1 rfl (.tmp 15) (.tmp 18) rfl w.heap.size _ ([] ++ ys) _ rfl rfl ho1 (wrap_u8_bd _) hbs1 hlen1 ?_; intro v2 w2 ho2 ht2; have k2 := kk.turn ht2 (fun i e => (ho1.lt i e).1); obtain ⟨A2, c2, hv2, hb2⟩ := ho2.bytes (by simp; omega); have hcl := ho2.cap hv2; subst hv2) | fail)
      go_ret
      exact ⟨_, _, _, rfl, ⟨by simpa [hm] using hb2, by simpa [hm] using hcl, by omega⟩, k2⟩
/-- A part of the bytes and one more, for any k. -/
theorem vCut_all (A : Option Addr) (n c k : Nat) (w : World) (hA : BytesAt w A n) (hn : n ≤ 65536) (hc : n ≤ c) :
    Calls Tryz.prog 9 #[.slice A n c, .int .i64 k] w fun e w' => ∃ A' n' c', e = .returned (.slice A' n' c') ∧ (BytesAt w' A' n' ∧ n' ≤ c' ∧ n' ≤ 65537) ∧ Kp w w' := by
  by_cases hk : k ≤ n
  · exact vCut_any A n c k w hA hn hc hk
  · exact vCut_over A n c k w hA hn hc (by omega)
end Go.Proofs.YtkaammkanapkmaaGreat

/- slices.Clone, slices.Min over lists of integers. No condition. -/
import Derived.Test.YtbefnhagmejpcaaApp
import Derived.Test.YtbefnhagmejpcaaLawU
import Derived.WalkSpells
namespace Go.Proofs.Ytbefnhagmejpcaa
open Go.RowKit Go.Sort

/-- append of a whole list of numbers to a slice of the call's own. -/
theorem wpl_appAll {ops : Array Oper} {rest : List Oper} {o : Oper} {a : Act} {Q : Exit → Act → World → Prop} {W : World} (hgd : o.guard = none) (s x : Operand)
    (ho : o.op = .call { callee := .builtin .append, args := #[s, x], argTypes := #[22, 22] }) (base : Nat) (v : Value) (xs ys : List Int) (ad : Addr) (m c : Nat)
    (hs : a.eval s = v) (hx : a.eval x = .slice (some ad) m c) (hown : Own W base v xs) (hy : IntsAt W (some ad) ys) (hym : ys.length = m) (hbase : base ≤ W.heap.size) (hlen : xs.length + ys.length ≤ 4194304)
    (h : ∀ v' w', Own w' base v' (xs ++ ys) → Turn (fun i => v.ownBlock = some i) W w' → (v'.ownBlock = v.ownBlock ∨ ∀ g, v'.ownBlock = some g → W.heap.size ≤ g) → wpList Try.prog ops Q rest (a.put o.dst v') w') :
    wpList Try.prog ops Q (o :: rest) a W := by
  obtain ⟨i0, hi, hz0, hz1, hz2⟩ := info_parts infoInt
  refine wpList_append_own_at _ hgd s x 22 ho base 3 i0 (.int .i64 0) 1 8 Try.underlying22 hi hz0 hz1 hz2 rfl (by decide) v xs.length (xs.map (Value.int .i64)) hs hown ad m c (ys.map (Value.int .i64)) hx (by simp [hym]) ?_ (ints_oneCell _ _) ?_ ?_ hbase ?_
  · intro j u hj
    by_cases hlt : j < ys.length
    · rw [List.getElem?_map, List.getElem?_eq_getElem hlt] at hj
      have e : u = .int .i64 ys[j] := by simpa using hj.symm
      rw [e]; exact hy.some_ hlt
    · rw [List.getElem?_eq_none (by simpa using hlt)] at hj; cases hj
  · unfold maxLen; omega
  · omega
  · intro v' w' h2 h3 _ h4
    refine h v' w' ?_ (Turn.of_grown h3) ?_
    · unfold Own
      rw [List.length_append, List.map_append, hym]
      exact h2
    · rcases h4 with e | e
      · exact .inl e
      · exact .inr (fun g hg => by rw [e] at hg; simp at hg; omega)

theorem clone_some (ad : Addr) (xs : List Int) (n c : Nat) (w : World) (hx : IntsAt w (some ad) xs) (hn : xs.length = n) (hb : n ≤ 1048576) :
    Calls Try.prog 79 #[.slice (some ad) n c] w fun e w' => ∃ v, e = .returned v ∧ Own w' w.heap.size v xs ∧ Kp w w' := by
  have Hn := Lib.hid hn; clear hn
  have hq := fun (w : World) (a : Option Addr) (n c : Nat) => Lib.run_eql_slice_nil (P := Try.prog) w 22 3 a n c 0 0 Try.underlying22
  have hlen : ([] : List Int).length + xs.length ≤ 4194304 := by rw [Hn.out]; simp; omega
  have ho0 := own_new0 w w.heap.size (Nat.le_refl _)
  have hk0 := (Kp.refl w).alloc (.cells #[] 3)
  go_enter Try.func79, Try.ntmps79
  go_wp2_with (at_builtin; refine wpl_appAll rfl (.tmp 5) (.tmp 6) rfl w.heap.size _ [] xs ad n c rfl rfl ho0 (hx.kp hk0) Hn.out hk0.le hlen ?_; intro v' w' ho' ht' _; have hk4 := ho0.kp_turn hk0 (Nat.le_refl _) ht')
  go_ret
  exact ⟨_, rfl, by simpa using ho', hk4⟩

theorem min_any (A : Option Addr) (xs : List Int) (n c : Nat) (w : World) (hx : IntsAt w A xs) (hn : xs.length = n) (hp : 0 < n) :
    Calls Try.prog 80 #[.slice A n c] w fun e w' => ∃ r : Int, e = .returned (.int .i64 r) ∧ r ∈ xs ∧ (∀ x ∈ xs, r ≤ x) ∧ w = w' := by
  have hm : n ≤ 9223372036854775807 := hn ▸ hx.1
  have Hn := Lib.hid hn; clear hn
  have lx0 : 0 < xs.length := by rw [Hn.out]; exact hp
  obtain ⟨ad, rfl, hc0⟩ := hx.at_ lx0
  rw [show ad.add 0 = ad from rfl] at hc0
  have hp1 : (0 : Int) < n := by omega
  have hp2 : ¬ (n : Int) < 1 := by omega
  go_enter Try.func80, Try.ntmps80
  go_wp2_with fail
  go_loop [3, 4] (fun mv ix => ∃ (k : Nat) (r : Int), 1 ≤ k ∧ k ≤ n ∧ ix = .int .i64 k ∧ mv = .int .i64 r ∧ Hid (r ∈ xs) ∧ Hid (∀ x ∈ xs.take k, r ≤ x)) (fun _ ix => n - (intOf ix).toNat)
  case atStart =>
    refine ⟨1, xs[0], by omega, by omega, rfl, rfl, List.getElem_mem lx0, ?_⟩
    intro x hx'
    rw [List.take_succ_eq_append_getElem lx0] at hx'
    simp at hx'
    omega
  case round =>
    obtain ⟨k, r, hk1, hk, rfl, rfl, Hr, Hall⟩ := hrel
    by_cases hlt : k < n
    · have lx : k < xs.length := by rw [Hn.out]; exact hlt
      have hck := hx.some_ lx
      go_wp2_with fail
      go_round
      case rel =>
        refine ⟨k + 1, _, by omega, by omega, by go_num, rfl, ?_, ?_⟩
        · show (if xs[k] < r then xs[k] else r) ∈ xs
          split
          · exact List.getElem_mem lx
          · exact Hr
        · show ∀ x ∈ xs.take (k + 1), (if xs[k] < r then xs[k] else r) ≤ x
          intro x hx'
          rw [List.take_succ_eq_append_getElem lx, List.mem_append] at hx'
          rcases hx' with h | h
          · have := Hall.out x h
            split <;> omega
          · simp at h
            split <;> omega
      case measure => simp [intOf]; omega
    · obtain rfl : k = n := by omega
      go_wp2_with fail
      go_ret
      refine ⟨r, rfl, Hr, ?_, rfl⟩
      have := Hall.out
      rw [List.take_of_length_le (by rw [Hn.out]; omega)] at this
      exact this
end Go.Proofs.Ytbefnhagmejpcaa

/- slices.Sort and slices.Reverse of a slice of numbers of the call's own: laid (by layp.py), and what they leave; l1Put: the reference's walk; slices.Compact of a slice of numbers of the call's own: laid (by layp.py), and what it leaves; slices.Sort where the slice may be nil; slices.Grow of nil, slices.Concat; What a slice of rows of the call's own holds when it has been sorted; The library's striking out of rows of a slice, at this program; The library's sort of a slice of rows, at this program; The comparisons of two sets, the reference's and the program's. No condition. -/
import Derived.Test.YtbfmencamaicbaaGreatQAa
import Derived.Shelf.Sort.Plain
import Derived.Shelf.Slices.Reverse
import Derived.Lib.OwnBridge
import Derived.Lib.AppendIntMem
import Derived.Test.YtbfmencamaicbaaGreatQAr
import Derived.Deep.RegionHeld3
import Derived.Shelf.Slices.CompactI
import Derived.Shelf.Slices.In.SortNone
import Derived.Test.YtbfmencamaicbaaGreatQAi
import Derived.Test.YtbfmencamaicbaaGreatQAb
import Derived.Lib.AppendZerosOnto
import Derived.Lib.AppendZeros
import Derived.Shelf.SlSortCmp.Whole1
import Derived.Shelf.SlicesE.DeleteFunc
namespace Go.Proofs.YtbfmencamaicbaaGreat
open Go.RowKit Go.Sort Go.Shelf

def sortI_ren : Go.Shelf.Ren := ⟨fun | 189 => 40 | 125 => 61 | 257 => 60 | 128 => 77 | 129 => 78 | 294 => 68 | 295 => 69 | 296 => 70 | 297 => 71 | 298 => 72 | 299 => 73 | 216 => 74 | 300 => 75 | 301 => 76 | 328 => 84 | 329 => 85 | 330 => 86 | 331 => 87 | 332 => 88 | 215 => 89 | 343 => 99 | n => n, fun | 28 => 22 | 3 => 3 | 46 => 63 | 0 => 0 | 51 => 91 | 53 => 93 | 4 => 4 | 183 => 86 | 182 => 85 | 131 => 27 | 5 => 5 | 9 => 9 | 218 => 97 | 222 => 101 | 228 => 110 | 229 => 111 | n => n, fun | n => n⟩
theorem sortI : Go.Proofs.Lays.n189 Tryz.prog sortI_ren := {
  mixed := by kernel_rfl
  f125 := Tryz.func61.trans (congrArg some (by kernel_rfl))
  f128 := Tryz.func77.trans (congrArg some (by kernel_rfl))
  f129 := Tryz.func78.trans (congrArg some (by kernel_rfl))
  f189 := Tryz.func40.trans (congrArg some (by kernel_rfl))
  f215 := Tryz.func89.trans (congrArg some (by kernel_rfl))
  f216 := Tryz.func74.trans (congrArg some (by kernel_rfl))
  f257 := Tryz.func60.trans (congrArg some (by kernel_rfl))
  f294 := Tryz.func68.trans (congrArg some (by kernel_rfl))
  f295 := Tryz.func69.trans (congrArg some (by kernel_rfl))
  f296 := Tryz.func70.trans (congrArg some (by kernel_rfl))
  f297 := Tryz.func71.trans (congrArg some (by kernel_rfl))
  f298 := Tryz.func72.trans (congrArg some (by kernel_rfl))
  f299 := Tryz.func73.trans (congrArg some (by kernel_rfl))
  f300 := Tryz.func75.trans (congrArg some (by kernel_rfl))
  f301 := Tryz.func76.trans (congrArg some (by kernel_rfl))
  f328 := Tryz.func84.trans (congrArg some (by kernel_rfl))
  f329 := Tryz.func85.trans (congrArg some (by kernel_rfl))
  f330 := Tryz.func86.trans (congrArg some (by kernel_rfl))
  f331 := Tryz.func87.trans (congrArg some (by kernel_rfl))
  f332 := Tryz.func88.trans (congrArg some (by kernel_rfl))
  f343 := Tryz.func99.trans (congrArg some (by kernel_rfl))
  t0 := Tryz.underlying0
  a0 := Tryz.isAgg0
  z0 := Tryz.sizeOf0
  v0 := Tryz.zeroValue0
  t3 := Tryz.underlying3
  a3 := Tryz.isAgg3
  z3 := Tryz.sizeOf3
  v3 := Tryz.zeroValue3
  t4 := Tryz.underlying4
  a4 := Tryz.isAgg4
  z4 := Tryz.sizeOf4
  v4 := Tryz.zeroValue4
  t5 := Tryz.underlying5
  a5 := Tryz.isAgg5
  z5 := Tryz.sizeOf5
  v5 := Tryz.zeroValue5
  t9 := Tryz.underlying9
  a9 := Tryz.isAgg9
  z9 := Tryz.sizeOf9
  v9 := Tryz.zeroValue9
  t28 := Tryz.underlying22
  a28 := Tryz.isAgg22
  z28 := Tryz.sizeOf22
  v28 := Tryz.zeroValue22
  t46 := Tryz.underlying63
  a46 := Tryz.isAgg63
  z46 := Tryz.sizeOf63
  v46 := Tryz.zeroValue63
  t51 := Tryz.underlying91
  a51 := Tryz.isAgg91
  z51 := Tryz.sizeOf91
  v51 := Tryz.zeroValue91
  t53 := Tryz.underlying93
  a53 := Tryz.isAgg93
  z53 := Tryz.sizeOf93
  v53 := Tryz.zeroValue93
  t131 := Tryz.underlying27
  a131 := Tryz.isAgg27
  z131 := Tryz.sizeOf27
  v131 := Tryz.zeroValue27
  t182 := Tryz.underlying85
  a182 := Tryz.isAgg85
  z182 := Tryz.sizeOf85
  v182 := Tryz.zeroValue85
  t183 := Tryz.underlying86
  a183 := Tryz.isAgg86
  z183 := Tryz.sizeOf86
  v183 := Tryz.zeroValue86
  t218 := Tryz.underlying97
  a218 := Tryz.isAgg97
  z218 := Tryz.sizeOf97
  v218 := Tryz.zeroValue97
  t222 := Tryz.underlying101
  a222 := Tryz.isAgg101
  z222 := Tryz.sizeOf101
  v222 := Tryz.zeroValue101
  t228 := Tryz.underlying110
  a228 := Tryz.isAgg110
  z228 := Tryz.sizeOf110
  v228 := Tryz.zeroValue110
  t229 := Tryz.underlying111
  a229 := Tryz.isAgg111
  z229 := Tryz.sizeOf111
  v229 := Tryz.zeroValue111 }
theorem turn_put {w : World} {g q : Nat} (d : Array Int) (os : Array Obj) : Turn (fun i => i = g) w (grow (putRow (Value.int .i64) (Sort.ahead w q) g 0 d) os) :=
  ⟨rfl, rfl, rfl, by simp, fun i hi hn => by
    rw [heap_grow_old _ _ (by simpa using hi)]
    simp [putRow, mapBlock, Sort.ahead, Array.getElem?_modify, Ne.symm hn]⟩
theorem own_put {w : World} {base g cap q : Nat} {xs ys : List Int} (h : Own w base (.slice (some ⟨g, 0, none⟩) xs.length cap) xs) (hy : ys.length = xs.length) (os : Array Obj) :
    Own (grow (putRow (Value.int .i64) (Sort.ahead w q) g 0 ys.toArray) os) base (.slice (some ⟨g, 0, none⟩) xs.length cap) ys := by
  have h3 := Lib.ownsRow_putRow (q := q) (k := xs.length) (ys := ys) h hy (Nat.le_refl _)
  rw [List.take_of_length_le (by omega)] at h3
  have h4 := Lib.ownsRow_grow h3 0 os
  unfold Own
  rw [hy]
  exact h4
theorem own_holds {w : World} {base g cap : Nat} {xs : List Int} (h : Own w base (.slice (some ⟨g, 0, none⟩) xs.length cap) xs) : Holds (Value.int .i64) w g 0 xs.toArray ∧ g < w.heap.size := by
  obtain ⟨g2, cap2, e2, _, hlt, _, _, _, hH⟩ := Lib.holds_of_ownsRow h (by simp)
  simp only [Value.slice.injEq, Option.some.injEq, Addr.mk.injEq] at e2
  obtain ⟨⟨rfl, _, _⟩, _, rfl⟩ := e2
  exact ⟨hH, hlt⟩
theorem sortInts_any (base g cap n : Nat) (xs : List Int) (w : World) (h : Own w base (.slice (some ⟨g, 0, none⟩) n cap) xs) (hn : xs.length = n) (hl : n ≤ 1000000) :
    Calls Tryz.prog 40 #[.slice (some ⟨g, 0, none⟩) n cap] w fun e w' => e = .returned (.tuple #[]) ∧ Own w' base (.slice (some ⟨g, 0, none⟩) n cap) (xs.mergeSort fun x y => decide (x ≤ y)) ∧ Turn (fun i => i = g) w w' := by
  subst hn
  obtain ⟨hH, hlt⟩ := own_holds h
  refine Calls.mono (Any.slices_Sort_int sortI g 0 cap xs w hH hlt (by omega)) ?_
  rintro e w' ⟨rfl, q, os, rfl⟩
  exact ⟨rfl, own_put h (by simp) os, turn_put _ os⟩
end Go.Proofs.YtbfmencamaicbaaGreat

namespace Go.Proofs.YtbfmencamaicbaaGreat
open Go.RowKit Go.Sort

theorem IntsAt.take {w : World} {ad : Addr} {xs : List Int} (h : IntsAt w (some ad) xs) (k : Nat) : IntsAt w (some ad) (xs.take k) :=
  ⟨Nat.le_trans (by simp; omega) h.1, fun j hj => by
    have h1 : j < xs.length := by simp at hj; omega
    refine ⟨ad, rfl, ?_⟩
    rw [h.some_ h1]
    have h2 : j < k := by simp at hj; omega
    simp [List.getD, h1, h2, List.getElem?_take]⟩
theorem IntsAt.drop {w : World} {ad : Addr} {xs : List Int} (h : IntsAt w (some ad) xs) (k : Nat) : IntsAt w (some (ad.add k)) (xs.drop k) :=
  ⟨Nat.le_trans (by simp) h.1, fun j hj => by
    have h1 : k + j < xs.length := by simp at hj; omega
    refine ⟨ad.add k, rfl, ?_⟩
    have := h.some_ h1
    have e : (ad.add k).add j = ad.add (k + j) := by
      unfold Addr.add
      by_cases hk : k = 0 <;> by_cases hj0 : j = 0 <;> simp [hk, hj0, Nat.add_assoc]
    rw [e, this]
    simp [List.getD, h1]⟩
theorem Own.cap {w : World} {base n c : Nat} {v : Value} {A : Option Addr} {xs : List Int} (h : Own w base v xs) (e : v = .slice A n c) : xs.length ≤ c := by
  rcases h.2 with ⟨rfl, h0⟩ | ⟨g, cap, cur, rfl, _, _, h4, _⟩
  · omega
  · simp only [Value.slice.injEq] at e
    omega
theorem IntsAt.tail {w : World} {ad : Addr} {xs : List Int} {c : Nat} (h : IntsAt w (some ad) xs) (hc : xs.length ≤ c) (k : Nat) : IntsAt w (if c = k then some ad else some (ad.add k)) (xs.drop k) := by
  by_cases e : c = k
  · rw [if_pos e, List.drop_eq_nil_of_le (by omega)]; exact IntsAt.nil _ _
  · rw [if_neg e]; exact h.drop k
theorem own_ab (w : World) (a : Int) : Own ((w.alloc (.cells #[] 3)).alloc (.cells #[.int .i64 a] 3)) w.heap.size (.slice (some ⟨w.heap.size, 0, none⟩) 0 0) [] :=
  (own_new0 w _ (Nat.le_refl _)).kp ((Kp.refl _).alloc _)
theorem own_ba (w : World) (a : Int) : Own ((w.alloc (.cells #[.int .i64 a] 3)).alloc (.cells #[] 3)) w.heap.size (.slice (some ⟨w.heap.size + 1, 0, none⟩) 0 0) [] := by
  have := own_new0 (w.alloc (.cells #[.int .i64 a] 3)) w.heap.size (by simp)
  simpa using this
theorem Own.drew {w : World} {base : Nat} {v : Value} {xs : List Int} (h : Own w base v xs) : Own w.drew base v xs := h.kp (Kp.refl w).drew
theorem one_ab (w : World) (a : Int) : IntsAt ((w.alloc (.cells #[] 3)).alloc (.cells #[.int .i64 a] 3)) (some ⟨w.heap.size + 1, 0, none⟩) [a] := by
  have := one_new (w.alloc (.cells #[] 3)) a
  simpa using this
theorem one_ba (w : World) (a : Int) : IntsAt ((w.alloc (.cells #[.int .i64 a] 3)).alloc (.cells #[] 3)) (some ⟨w.heap.size, 0, none⟩) [a] :=
  (one_new w a).kp ((Kp.refl _).alloc _)
set_option maxRecDepth 100000 in
set_option maxHeartbeats 2000000 in
theorem l1Put_some (ad : Addr) (S : List Int) (n c0 : Nat) (a : Int) (w : World) (hS : IntsAt w (some ad) S) (hn : S.length = n) (hs : S.Pairwise (· < ·)) (hc : n ≤ c0) (hb : n < 1048576) :
    Calls Tryz.prog 16 #[.slice (some ad) n c0, .int .i64 a] w fun e w' => ∃ v, e = .returned v ∧ ((a ∈ S ∧ v = .slice (some ad) n c0) ∨ Own w' w.heap.size v (putL S a)) ∧ Kp w w' := by
  have hm : n ≤ 9223372036854775807 := hn ▸ hS.1
  have hnc : S.length ≤ c0 := by omega
  have Hn := Lib.hid hn; clear hn
  have Hs := Lib.hid hs; clear hs
  go_enter Tryz.func16, Tryz.ntmps16
  go_wp2_with fail
  go_loop [5] (fun iv => ∃ k : Nat, k ≤ n ∧ iv = .int .i64 k ∧ Hid (∀ x ∈ S.take k, x < a)) (fun iv => n - (intOf iv).toNat)
  case atStart => exact ⟨0, by omega, rfl, by show ∀ x ∈ S.take 0, x < a; simp⟩
  case round =>
    obtain ⟨k, hk, rfl, Hp⟩ := hrel
    have hkc : k ≤ c0 := by omega
    by_cases hlt : k < n
    · have lx : k < S.length := by rw [Hn.out]; exact hlt
      have hck := hS.some_ lx
      by_cases h1 : S[k] < a
      · go_wp2_with fail
        go_round
        case rel =>
          refine ⟨k + 1, by omega, by go_num, ?_⟩
          show ∀ x ∈ S.take (k + 1), x < a
          intro x hx
          rw [List.take_succ_eq_append_getElem lx, List.mem_append] at hx
          rcases hx with hx | hx
          · exact Hp.out x hx
          · have : x = S[k] := by simpa using hx
            omega
        case measure => simp [intOf]; omega
      · by_cases h2 : S[k] = a
        · have hin : Hid (a ∈ S) := h2 ▸ List.getElem_mem lx
          go_wp2_with fail
          go_ret
          exact ⟨_, rfl, .inl ⟨hin.out, rfl⟩, Kp.refl _⟩
        · have hlk : (S.take k).length = k := by rw [List.length_take, Hn.out]; omega
          have hld : (S.drop k).length = n - k := by rw [List.length_drop, Hn.out]
          have hl1 : ([] : List Int).length + (S.take k).length ≤ 4194304 := by rw [hlk]; simp; omega
          have hl2 : (([] : List Int) ++ S.take k).length + [a].length ≤ 4194304 := by rw [List.length_append, hlk]; simp; omega
          have hl3 : (([] : List Int) ++ S.take k).length < 1048576 := by rw [List.length_append, hlk]; simp; omega
          have hl4 : (([] : List Int) ++ S.take k ++ [a]).length + (S.drop k).length ≤ 4194304 := by rw [List.length_append, List.length_append, hlk, hld]; simp; omega
          have hput := Lib.hid (put_at Hs.out Hp.out (fun _ => by omega))
          have hA := Lib.hid ((own_new0 w _ (Nat.le_refl _)).drew)
          have hAB := Lib.hid ((own_ab w a).drew)
          have hBA := Lib.hid ((own_ba w a).drew)
          go_wp2_with fail
          go_region_held3 (fun w' => Kp w w')
            (first | exact (by repeat (first | with_reducible assumption | with_reducible exact Kp.refl _ | with_reducible refine Kp.drew ?_ | with_reducible refine Kp.alloc ?_ _ | with_reducible refine Kp.drewN ?_ _ | refine Kp.setCell ?_ (by dsimp only; omega) _)) | exact hkA | exact hkA.alloc _ | exact hkB | exact hkC)
            (first
              | (refine step_app_all (by rfl) (.tmp 33) (.tmp 36) (by rfl) w.heap.size _ [] (S.take k) (some ad) k c0 (by rfl) (by rfl) hA.out ((hS.take k).kp (by repeat (first | with_reducible assumption | with_reducible exact Kp.refl _ | with_reducible refine Kp.drew ?_ | with_reducible refine Kp.alloc ?_ _ | with_reducible refine Kp.drewN ?_ _ | refine Kp.setCell ?_ (by dsimp only; omega) _))) hlk (by simp) hl1 ?_; intro v1 w1 ho1 ht1 h41; have hkA : Kp w w1 := hA.out.kp_turn (by repeat (first | with_reducible assumption | with_reducible exact Kp.refl _ | with_reducible refine Kp.drew ?_ | with_reducible refine Kp.alloc ?_ _ | with_reducible refine Kp.drewN ?_ _ | refine Kp.setCell ?_ (by dsimp only; omega) _)) (Nat.le_refl _) ht1)
              | (refine step_app_all (by rfl) (.tmp 33) (.tmp 36) (by rfl) w.heap.size _ [] (S.take k) (some ad) k c0 (by rfl) (by rfl) hAB.out ((hS.take k).kp (by repeat (first | with_reducible assumption | with_reducible exact Kp.refl _ | with_reducible refine Kp.drew ?_ | with_reducible refine Kp.alloc ?_ _ | with_reducible refine Kp.drewN ?_ _ | refine Kp.setCell ?_ (by dsimp only; omega) _))) hlk (by simp; omega) hl1 ?_; intro v1 w1 ho1 ht1 h41; have hkA : Kp w w1 := hAB.out.kp_turn (by repeat (first | with_reducible assumption | with_reducible exact Kp.refl _ | with_reducible refine Kp.drew ?_ | with_reducible refine Kp.alloc ?_ _ | with_reducible refine Kp.drewN ?_ _ | refine Kp.setCell ?_ (by dsimp only; omega) _)) (Nat.le_refl _) ht1; have h1n := one_turn (g := w.heap.size + 1) ((one_ab w a).kp (Kp.refl _).drew) ht1 (by simp [Value.ownBlock]) (by simp; try omega))
              | (refine step_app_all (by rfl) (.tmp 33) (.tmp 36) (by rfl) w.heap.size _ [] (S.take k) (some ad) k c0 (by rfl) (by rfl) hBA.out ((hS.take k).kp (by repeat (first | with_reducible assumption | with_reducible exact Kp.refl _ | with_reducible refine Kp.drew ?_ | with_reducible refine Kp.alloc ?_ _ | with_reducible refine Kp.drewN ?_ _ | refine Kp.setCell ?_ (by dsimp only; omega) _))) hlk (by simp; omega) hl1 ?_; intro v1 w1 ho1 ht1 h41; have hkA : Kp w w1 := hBA.out.kp_turn (by repeat (first | with_reducible assumption | with_reducible exact Kp.refl _ | with_reducible refine Kp.drew ?_ | with_reducible refine Kp.alloc ?_ _ | with_reducible refine Kp.drewN ?_ _ | refine Kp.setCell ?_ (by dsimp only; omega) _)) (Nat.le_refl _) ht1; have h1n := one_turn (g := w.heap.size) ((one_ba w a).kp (Kp.refl _).drew) ht1 (by simp [Value.ownBlock]) (by simp; try omega))
              | (refine step_app_all (by rfl) (.tmp 37) (.tmp 39) (by rfl) w.heap.size v1 ([] ++ S.take k) [a] (some ⟨w.heap.size + 1, 0, none⟩) 1 1 (by rfl) (by rfl) ho1 h1n rfl hkA.le hl2 ?_; intro v2 w2 ho2 ht2 h42; have hkB : Kp w w2 := ho1.kp_turn hkA (Nat.le_refl _) ht2)
              | (refine step_app_all (by rfl) (.tmp 37) (.tmp 39) (by rfl) w.heap.size v1 ([] ++ S.take k) [a] (some ⟨w.heap.size, 0, none⟩) 1 1 (by rfl) (by rfl) ho1 h1n rfl hkA.le hl2 ?_; intro v2 w2 ho2 ht2 h42; have hkB : Kp w w2 := ho1.kp_turn hkA (Nat.le_refl _) ht2)
              | (refine step_app (by rfl) (.tmp 37) (.tmp 39) (by rfl) w.heap.size v1 ([] ++ S.take k) a _ (by rfl) (by rfl) (by rfl) ho1 hkA.le hl3 ?_; intro v2 w2 ho2 ht2 h42; have hkB : Kp w w2 := ho1.kp_turn hkA (Nat.le_refl _) ht2)
              | (refine step_app_all (by rfl) (.tmp 40) (.tmp 43) (by rfl) w.heap.size v2 ([] ++ S.take k ++ [a]) (S.drop k) (if c0 = k then some ad else some (ad.add k)) (n - k) (c0 - k) (by rfl) (by rfl) ho2 ((hS.tail hnc k).kp hkB) hld hkB.le hl4 ?_; intro v3 w3 ho3 ht3 h43; have hkC : Kp w w3 := ho2.kp_turn hkB (Nat.le_refl _) ht3))
          all_goals
            go_wp2_with fail
            all_goals
              go_ret
              have e4 : [] ++ S.take k ++ [a] ++ S.drop k = putL S a := by rw [hput.out]; simp
              rw [e4] at ho3
              exact ⟨_, rfl, .inr ho3, hkC⟩
    · have hlk : (S.take k).length = k := by rw [List.length_take, Hn.out]; omega
      have hld : (S.drop k).length = n - k := by rw [List.length_drop, Hn.out]
      have hl1 : ([] : List Int).length + (S.take k).length ≤ 4194304 := by rw [hlk]; simp; omega
      have hl2 : (([] : List Int) ++ S.take k).length + [a].length ≤ 4194304 := by rw [List.length_append, hlk]; simp; omega
      have hl3 : (([] : List Int) ++ S.take k).length < 1048576 := by rw [List.length_append, hlk]; simp; omega
      have hl4 : (([] : List Int) ++ S.take k ++ [a]).length + (S.drop k).length ≤ 4194304 := by rw [List.length_append, List.length_append, hlk, hld]; simp; omega
      have hput := Lib.hid (put_at Hs.out Hp.out (fun h => absurd h (by rw [Hn.out]; omega)))
      have hA := Lib.hid ((own_new0 w _ (Nat.le_refl _)).drew)
      have hAB := Lib.hid ((own_ab w a).drew)
      have hBA := Lib.hid ((own_ba w a).drew)
      go_wp2_with fail
      go_region_held3 (fun w' => Kp w w')
        (first | exact (by repeat (first | with_reducible assumption | with_reducible exact Kp.refl _ | with_reducible refine Kp.drew ?_ | with_reducible refine Kp.alloc ?_ _ | with_reducible refine Kp.drewN ?_ _ | refine Kp.setCell ?_ (by dsimp only; omega) _)) | exact hkA | exact hkA.alloc _ | exact hkB | exact hkC)
        (first
          | (refine step_app_all (by rfl) (.tmp 33) (.tmp 36) (by rfl) w.heap.size _ [] (S.take k) (some ad) k c0 (by rfl) (by rfl) hA.out ((hS.take k).kp (by repeat (first | with_reducible assumption | with_reducible exact Kp.refl _ | with_reducible refine Kp.drew ?_ | with_reducible refine Kp.alloc ?_ _ | with_reducible refine Kp.drewN ?_ _ | refine Kp.setCell ?_ (by dsimp only; omega) _))) hlk (by simp) hl1 ?_; intro v1 w1 ho1 ht1 h41; have hkA : Kp w w1 := hA.out.kp_turn (by repeat (first | with_reducible assumption | with_reducible exact Kp.refl _ | with_reducible refine Kp.drew ?_ | with_reducible refine Kp.alloc ?_ _ | with_reducible refine Kp.drewN ?_ _ | refine Kp.setCell ?_ (by dsimp only; omega) _)) (Nat.le_refl _) ht1)
          | (refine step_app_all (by rfl) (.tmp 33) (.tmp 36) (by rfl) w.heap.size _ [] (S.take k) (some ad) k c0 (by rfl) (by rfl) hAB.out ((hS.take k).kp (by repeat (first | with_reducible assumption | with_reducible exact Kp.refl _ | with_reducible refine Kp.drew ?_ | with_reducible refine Kp.alloc ?_ _ | with_reducible refine Kp.drewN ?_ _ | refine Kp.setCell ?_ (by dsimp only; omega) _))) hlk (by simp; omega) hl1 ?_; intro v1 w1 ho1 ht1 h41; have hkA : Kp w w1 := hAB.out.kp_turn (by repeat (first | with_reducible assumption | with_reducible exact Kp.refl _ | with_reducible refine Kp.drew ?_ | with_reducible refine Kp.alloc ?_ _ | with_reducible refine Kp.drewN ?_ _ | refine Kp.setCell ?_ (by dsimp only; omega) _)) (Nat.le_refl _) ht1; have h1n := one_turn (g := w.heap.size + 1) ((one_ab w a).kp (Kp.refl _).drew) ht1 (by simp [Value.ownBlock]) (by simp; try omega))
          | (refine step_app_all (by rfl) (.tmp 33) (.tmp 36) (by rfl) w.heap.size _ [] (S.take k) (some ad) k c0 (by rfl) (by rfl) hBA.out ((hS.take k).kp (by repeat (first | with_reducible assumption | with_reducible exact Kp.refl _ | with_reducible refine Kp.drew ?_ | with_reducible refine Kp.alloc ?_ _ | with_reducible refine Kp.drewN ?_ _ | refine Kp.setCell ?_ (by dsimp only; omega) _))) hlk (by simp; omega) hl1 ?_; intro v1 w1 ho1 ht1 h41; have hkA : Kp w w1 := hBA.out.kp_turn (by repeat (first | with_reducible assumption | with_reducible exact Kp.refl _ | with_reducible refine Kp.drew ?_ | with_reducible refine Kp.alloc ?_ _ | with_reducible refine Kp.drewN ?_ _ | refine Kp.setCell ?_ (by dsimp only; omega) _)) (Nat.le_refl _) ht1; have h1n := one_turn (g := w.heap.size) ((one_ba w a).kp (Kp.refl _).drew) ht1 (by simp [Value.ownBlock]) (by simp; try omega))
          | (refine step_app_all (by rfl) (.tmp 37) (.tmp 39) (by rfl) w.heap.size v1 ([] ++ S.take k) [a] (some ⟨w.heap.size + 1, 0, none⟩) 1 1 (by rfl) (by rfl) ho1 h1n rfl hkA.le hl2 ?_; intro v2 w2 ho2 ht2 h42; have hkB : Kp w w2 := ho1.kp_turn hkA (Nat.le_refl _) ht2)
          | (refine step_app_all (by rfl) (.tmp 37) (.tmp 39) (by rfl) w.heap.size v1 ([] ++ S.take k) [a] (some ⟨w.heap.size, 0, none⟩) 1 1 (by rfl) (by rfl) ho1 h1n rfl hkA.le hl2 ?_; intro v2 w2 ho2 ht2 h42; have hkB : Kp w w2 := ho1.kp_turn hkA (Nat.le_refl _) ht2)
          | (refine step_app (by rfl) (.tmp 37) (.tmp 39) (by rfl) w.heap.size v1 ([] ++ S.take k) a _ (by rfl) (by rfl) (by rfl) ho1 hkA.le hl3 ?_; intro v2 w2 ho2 ht2 h42; have hkB : Kp w w2 := ho1.kp_turn hkA (Nat.le_refl _) ht2)
          | (refine step_app_all (by rfl) (.tmp 40) (.tmp 43) (by rfl) w.heap.size v2 ([] ++ S.take k ++ [a]) (S.drop k) (if c0 = k then some ad else some (ad.add k)) (n - k) (c0 - k) (by rfl) (by rfl) ho2 ((hS.tail hnc k).kp hkB) hld hkB.le hl4 ?_; intro v3 w3 ho3 ht3 h43; have hkC : Kp w w3 := ho2.kp_turn hkB (Nat.le_refl _) ht3))
      all_goals
        go_wp2_with fail
        all_goals
          go_ret
          have e4 : [] ++ S.take k ++ [a] ++ S.drop k = putL S a := by rw [hput.out]; simp
          rw [e4] at ho3
          exact ⟨_, rfl, .inr ho3, hkC⟩
end Go.Proofs.YtbfmencamaicbaaGreat

namespace Go.Proofs.YtbfmencamaicbaaGreat
open Go.RowKit Go.Sort Go.Shelf

def compI_ren : Go.Shelf.Ren := ⟨fun | 20 => 22 | n => n, fun | 22 => 22 | 3 => 3 | 4 => 4 | 0 => 0 | n => n, fun | n => n⟩
theorem compI : Go.Proofs.Lays2.n20 Tryz.prog compI_ren := {
  mixed := by kernel_rfl
  f20 := Tryz.func22.trans (congrArg some (by kernel_rfl))
  t0 := Tryz.underlying0
  a0 := Tryz.isAgg0
  z0 := Tryz.sizeOf0
  v0 := Tryz.zeroValue0
  t3 := Tryz.underlying3
  a3 := Tryz.isAgg3
  z3 := Tryz.sizeOf3
  v3 := Tryz.zeroValue3
  t4 := Tryz.underlying4
  a4 := Tryz.isAgg4
  z4 := Tryz.sizeOf4
  v4 := Tryz.zeroValue4
  t22 := Tryz.underlying22
  a22 := Tryz.isAgg22
  z22 := Tryz.sizeOf22
  v22 := Tryz.zeroValue22
  i3 := by kernel_rfl }
theorem compactI_any (base : Nat) (v : Value) (xs : List Int) (w : World) (h : Own w base v xs) (hl : xs.length ≤ 1000000) :
    Calls Tryz.prog 22 #[v] w fun e w' => ∃ A c, e = .returned (.slice A (Lib.compact xs).length c) ∧ (Lib.compact xs).length ≤ c ∧ IntsAt w' A (Lib.compact xs) ∧ Turn (fun i => v.ownBlock = some i) w w' := by
  rcases id h.2 with ⟨rfl, h0⟩ | ⟨g, cap, cur, rfl, hb, hg, hn, hm, hsz, ht⟩
  · obtain rfl : xs = [] := by simpa using h0
    refine Calls.mono (Any.slices_Compact_int_empty compI none 0 w) ?_
    rintro e w' ⟨rfl, rfl⟩
    exact ⟨none, 0, rfl, Nat.le_refl _, IntsAt.nil _ _, Turn.refl _ _⟩
  · obtain ⟨hH, hlt⟩ := own_holds h
    have hcap : xs.length ≤ cap := h.cap rfl
    refine Calls.mono (Any.slices_Compact_int compI g 0 cap xs w hH (by omega) hcap) ?_
    rintro e w' ⟨rfl, q, rfl⟩
    have hle : (Lib.compact xs).length ≤ xs.length := compact_len xs
    have e0 := grow_empty (putRow (Value.int .i64) (Sort.ahead w q) g 0 (Lib.compact xs ++ List.replicate (xs.length - (Lib.compact xs).length) 0).toArray)
    have ho : Own (putRow (Value.int .i64) (Sort.ahead w q) g 0 (Lib.compact xs ++ List.replicate (xs.length - (Lib.compact xs).length) 0).toArray) base (.slice (some ⟨g, 0, none⟩) xs.length cap) (Lib.compact xs ++ List.replicate (xs.length - (Lib.compact xs).length) 0) := by
      have h5 := own_put (q := q) h (ys := Lib.compact xs ++ List.replicate (xs.length - (Lib.compact xs).length) 0) (by simp; omega) #[]
      rw [e0] at h5
      exact h5
    have hi := (ho.intsOf (by simp; omega)).take (Lib.compact xs).length
    rw [List.take_left'] at hi
    · refine ⟨_, cap, rfl, by omega, hi, ?_⟩
      have h6 := turn_put (w := w) (g := g) (q := q) (Lib.compact xs ++ List.replicate (xs.length - (Lib.compact xs).length) 0).toArray #[]
      rw [e0] at h6
      exact h6.mono (fun i hi => by rw [hi]; rfl)
    · rfl
theorem sortI_any (base : Nat) (v : Value) (xs : List Int) (w : World) (h : Own w base v xs) (hl : xs.length ≤ 1000000) :
    Calls Tryz.prog 40 #[v] w fun e w' => e = .returned (.tuple #[]) ∧ Own w' base v (xs.mergeSort fun x y => decide (x ≤ y)) ∧ Turn (fun i => v.ownBlock = some i) w w' := by
  rcases id h.2 with ⟨rfl, h0⟩ | ⟨g, cap, cur, rfl, hb, hg, hn, hm, hsz, ht⟩
  · obtain rfl : xs = [] := by simpa using h0
    refine Calls.mono (Any.slices_Sort_int_none sortI none 0 w) ?_
    rintro e w' ⟨rfl, rfl⟩
    exact ⟨rfl, by simpa using h, Turn.refl _ _⟩
  · refine Calls.mono (sortInts_any base g cap xs.length xs w h rfl hl) ?_
    rintro e w' ⟨rfl, h1, h2⟩
    exact ⟨rfl, h1, h2.mono (fun i hi => by rw [hi]; rfl)⟩
end Go.Proofs.YtbfmencamaicbaaGreat

namespace Go.Proofs.YtbfmencamaicbaaGreat
open Go.RowKit

set_option maxRecDepth 100000 in
set_option maxHeartbeats 400000 in
theorem grow0_any (n : Nat) (w : World) (hn : n ≤ 1048576) :
    Calls Tryz.prog 59 #[.slice none 0 0, .int .i64 n] w fun e w' => ∃ v, e = .returned v ∧ Own w' w.heap.size v [] ∧ Kp w w' := by
  obtain ⟨i0, hi, hz0, hz1, hz2⟩ := info_parts infoInt
  by_cases h0 : n = 0
  · subst h0
    go_enter Tryz.func59, Tryz.ntmps59
    go_wp2_with fail
    go_ret
    exact ⟨_, rfl, Own.nil _ _, Kp.refl _⟩
  · have hp : 0 < n := by omega
    have hb := grownCap_ge w (0 + n) 0 3
    have hm := grownCap_le_maxLen w (0 + n) 0 3 (by unfold maxLen; omega)
    have hrz : ∀ ty, (Builtin.append_ #[22, 3] ty #[.slice none 0 0, .int .i64 (n : Int)]).run Tryz.prog w = .ok (.slice (some ⟨w.heap.size, 0, none⟩) (0 + n) (grownCap w (0 + n) 0 3))
        (w.drew.alloc (.cells (([] : List Value).toArray ++ Builtin.zeroCells (Value.int .i64 0).cells n ++ Builtin.zeroCells (Value.int .i64 0).cells (grownCap w (0 + n) 0 3 - (0 + n))) 3)) := fun ty =>
      Lib.run_append_grow_zeros w 22 3 ty 3 i0 (.int .i64 0) .i64 .i64 Tryz.underlying22 Tryz.underlying3 hi hz0 none 0 0 [] (run_firstCells_none _ _ _ _ _) n hp (by omega) (by omega) (by omega) (by rw [hz2]; omega) (growslice_fits (by omega) (by rw [hz2]; omega))
    have ho : Own (w.drew.alloc (.cells (([] : List Value).toArray ++ Builtin.zeroCells (Value.int .i64 0).cells n ++ Builtin.zeroCells (Value.int .i64 0).cells (grownCap w (0 + n) 0 3 - (0 + n))) 3)) w.heap.size (.slice (some ⟨w.heap.size, 0, none⟩) 0 (grownCap w (0 + n) 0 3)) [] := by
      refine World.ownsRow_made (w := w.drew) (e := 3) (size := 1) _ _ (Nat.le_refl _) hm ?_
      have hz : ∀ k, (Builtin.zeroCells (Value.int .i64 0).cells k).size = k := fun k => by simp [Builtin.zeroCells, Value.cells]
      rw [Array.size_append, Array.size_append, hz, hz]
      show 0 + n + _ = _ * 1
      omega
    have HO := Lib.hid ho
    clear ho
    unfold maxLen at hm
    generalize grownCap w (0 + n) 0 3 = G at *
    generalize Obj.cells (([] : List Value).toArray ++ Builtin.zeroCells (Value.int .i64 0).cells n ++ Builtin.zeroCells (Value.int .i64 0).cells (G - (0 + n))) 3 = ob at *
    have Hrz := Lib.hid hrz
    clear hrz
    go_enter Tryz.func59, Tryz.ntmps59
    go_wp2_with (at_builtin; refine Lib.wpList_append_run _ rfl _ _ _ _ rfl _ _ rfl rfl _ _ (Hrz.out _) ?_)
    go_ret
    exact ⟨_, rfl, HO.out, (Kp.refl _).drew.alloc _⟩
theorem wpl_app_all {ops : Array Oper} {rest : List Oper} {o : Oper} {a : Act} {Q : Exit → Act → World → Prop} {W : World} (hgd : o.guard = none) (s x : Operand)
    (ho : o.op = .call { callee := .builtin .append, args := #[s, x], argTypes := #[22, 22] }) (base : Nat) (v : Value) (xs ys : List Int) (A : Option Addr) (m c : Nat)
    (hs : a.eval s = v) (hx : a.eval x = .slice A m c) (hown : Own W base v xs) (hy : IntsAt W A ys) (hym : ys.length = m) (hbase : base ≤ W.heap.size) (hlen : xs.length + ys.length ≤ 4194304)
    (h : ∀ v' w', Own w' base v' (xs ++ ys) → Turn (fun i => v.ownBlock = some i) W w' → (v'.ownBlock = v.ownBlock ∨ ∀ g, v'.ownBlock = some g → W.heap.size ≤ g) → wpList Tryz.prog ops Q rest (a.put o.dst v') w') :
    wpList Tryz.prog ops Q (o :: rest) a W := by
  obtain ⟨v', w', hrun, h2, h3, h4⟩ := run_app_all (W := W) o.type base v xs ys A m c hown hy hym hbase hlen
  exact Lib.wpList_append_run _ hgd s x _ _ ho _ _ hs hx v' w' hrun (h v' w' h2 (Turn.of_grown h3) h4)
theorem flat_take_succ {rows : List (List Int)} {k : Nat} (hk : k < rows.length) : (rows.take (k + 1)).flatten = (rows.take k).flatten ++ rows[k] := by
  rw [List.take_succ_eq_append_getElem hk, List.flatten_append]; simp
theorem flat_len (rows : List (List Int)) : rows.flatten.length = rowSum rows := by
  induction rows with
  | nil => rfl
  | cons r rs ih => simp [rowSum, ih]
set_option maxHeartbeats 400000 in
theorem concat_any (B : Option Addr) (rows : List (List Int)) (m c : Nat) (w : World) (hx : GridAt w B rows) (hm : rows.length = m) (hs : rowSum rows ≤ 1048576) :
    Calls Tryz.prog 39 #[.slice B m c] w fun e w' => ∃ v, e = .returned v ∧ Own w' w.heap.size v rows.flatten ∧ Kp w w' := by
  have hm63 : m ≤ 9223372036854775807 := hm ▸ hx.1
  have Hm := Lib.hid hm; clear hm
  go_enter Tryz.func39, Tryz.ntmps39
  go_wp2_with fail
  go_loop [3, 11] (fun sv iv => ∃ k : Nat, k ≤ m ∧ iv = .int .i64 k ∧ sv = .int .i64 (rowSum (rows.take k) : Nat)) (fun _ iv => m - (intOf iv).toNat)
  case atStart => exact ⟨0, by omega, rfl, rfl⟩
  case round =>
    obtain ⟨k, hk, rfl, rfl⟩ := hrel
    by_cases hlt : k < m
    · have lx : k < rows.length := by rw [Hm.out]; exact hlt
      obtain ⟨bd, A, ca, rfl, hc, hr⟩ := hx.at_ lx
      have hsum := Lib.hid (rowSum_take_succ lx)
      have hsl := rowSum_take_le rows (k + 1)
      have hsl2 : rowSum (rows.take k) + rows[k].length ≤ 1048576 := by rw [← hsum.out]; omega
      clear hsl
      go_wp2_with fail
      go_round
      case rel => exact ⟨k + 1, by omega, by go_num, by rw [hsum.out]; go_num⟩
      case measure => simp [intOf]; omega
    · obtain rfl : k = m := by omega
      have htk := Lib.hid (show rows.take k = rows from List.take_of_length_le (by rw [Hm.out]; omega))
      rw [htk.out]
      go_wp2_with fail
      have CC := Lib.hid (grow0_any (rowSum rows) w hs)
      with_reducible refine Calls.mono CC.out ?_
      rintro e w1 ⟨v0, rfl, ho, hk1⟩
      clear CC
      go_wp2_with fail
      go_loopw [6, 27] (fun v iv wr => ∃ j : Nat, j ≤ k ∧ iv = .int .i64 j ∧ Own wr w.heap.size v ((rows.take j).flatten) ∧ Kp w wr) (fun _ iv _ => k - (intOf iv).toNat)
      case atStart => exact ⟨0, by omega, rfl, ho, hk1⟩
      case round =>
        clear ho hk1
        obtain ⟨j, hj, rfl, hown, hkb⟩ := hrel
        by_cases hlj : j < k
        · have lx : j < rows.length := by rw [Hm.out]; exact hlj
          obtain ⟨bd, A, ca, rfl, hc, hr⟩ := (hx.kp hkb).at_ lx
          have hfl := Lib.hid (flat_take_succ lx)
          have hlen : ((rows.take j).flatten).length + rows[j].length ≤ 4194304 := by
            rw [flat_len, ← rowSum_take_succ lx]
            have := rowSum_take_le rows (j + 1)
            omega
          go_wp2_with (at_builtin; go_loud (refine wpl_app_all rfl (.tmp 31) (.tmp 32) rfl w.heap.size _ ((rows.take j).flatten) rows[j] A rows[j].length ca rfl rfl hown hr rfl hkb.le hlen ?_); intro v' w' ho' ht' _; have hkb' := hown.kp_turn hkb (Nat.le_refl _) ht')
          go_roundw
          case rel => exact ⟨j + 1, by omega, by go_num, by rw [hfl.out]; exact ho', hkb'⟩
          case measure => simp [intOf]; omega
        · obtain rfl : j = k := by omega
          go_wp2_with fail
          go_ret
          exact ⟨_, rfl, by rw [htk.out] at hown; exact hown, hkb⟩

end Go.Proofs.YtbfmencamaicbaaGreat

namespace Go.Proofs.YtbfmencamaicbaaGreat
open Go.RowKit Go.Sort Go.Shelf

/-- Draws, and new blocks behind. -/
def Gw (w w' : World) : Prop := ∃ q os, w' = grow (w.drewN q) os
theorem Gw.refl (w : World) : Gw w w := ⟨0, #[], by rw [grow_empty]; rfl⟩
theorem Gw.drewN {a w : World} (h : Gw a w) (n : Nat) : Gw a (w.drewN n) := by
  obtain ⟨q, os, rfl⟩ := h
  refine ⟨q + n, os, ?_⟩
  rw [← World.drewN_drewN]; rfl
theorem Gw.drew {a w : World} (h : Gw a w) : Gw a w.drew := h.drewN 1
theorem Gw.alloc {a w : World} (h : Gw a w) (o : Obj) : Gw a (w.alloc o) := by
  obtain ⟨q, os, rfl⟩ := h
  refine ⟨q, os ++ #[o], ?_⟩
  rw [alloc_eq_grow, grow_grow]
theorem Gw.trans {a b c : World} (h : Gw a b) (k : Gw b c) : Gw a c := by
  obtain ⟨q, os, rfl⟩ := h
  obtain ⟨q2, os2, rfl⟩ := k
  refine ⟨q + q2, os ++ os2, ?_⟩
  rw [← grow_grow, ← World.drewN_drewN]; rfl
theorem Gw.kp {w w' : World} (h : Gw w w') : Kp w w' := by
  obtain ⟨q, os, rfl⟩ := h
  exact ⟨rfl, rfl, rfl, by simp, fun i hi => heap_grow_old (w.drewN q) os hi⟩
theorem Gw.of_dr {w w' : World} (h : Dr w w') : Gw w w' := by
  obtain ⟨q, rfl⟩ := h; exact (Gw.refl w).drewN q

def rowD (rows : List (List Int)) (i : Nat) : List Int := rows.getD i []
def hdD (hs : List Value) (i : Nat) : Value := hs.getD i (.slice none 0 0)
def cmpD (rows : List (List Int)) (i j : Nat) : Int := cmpS (rowD rows i) (rowD rows j)
theorem swo_cmpD (rows : List (List Int)) : SWO (ltOf (cmpD rows)) where
  irrefl x := befB_irrefl _
  trans x y z h1 h2 := befB_trans (a := rowD rows x) (b := rowD rows y) (c := rowD rows z) h1 h2
  ntrans x y z h1 h2 := by
    have e1 : befB (rowD rows x) (rowD rows y) = false := h1
    have e2 : befB (rowD rows y) (rowD rows z) = false := h2
    have h3 := notB_trans (rowD rows z) (rowD rows y) (rowD rows x) (by simp [notB, e2]) (by simp [notB, e1])
    have h4 : befB (rowD rows x) (rowD rows z) = false := by simpa [notB] using h3
    exact h4
/-- The comparison as the sort calls it. -/
theorem cmp_lays {g blk base : Nat} {lo : Option Nat} {hs : List Value} {rows : List (List Int)} {v : Value} {w : World} (size : Nat)
    (hC : ∀ (A1 A2 : Option Addr) (xs ys : List Int) (n m c d : Nat) (W : World), IntsAt W A1 xs → xs.length = n → IntsAt W A2 ys → ys.length = m → Calls Tryz.prog g #[.slice A1 n c, .slice A2 m d] W fun e w' => e = .returned (.int .i64 (cmpS xs ys)) ∧ Gw W w')
    (h1 : w.ownsRow base 22 1 v rows.length hs)
    (h2 : ∀ j (hj : j < rows.length), ∃ u, hs[j]? = some u ∧ RowP w lo u rows[j] ∧ ((rows[j] ≠ [] ∨ lo ≠ none) → ∀ i, u.ownBlock = some i → blk ≠ i)) :
    CmpLays1 Tryz.prog g #[] (hdD hs) (cmpD rows) blk 0 size w := by
  intro m os dk _ x y
  have hW : ∀ i, i ≠ blk → i < w.heap.size → (sortWorld (hdD hs) w blk 0 m dk os).heap[i]? = w.heap[i]? := fun i hi hlt => by
    unfold sortWorld
    rw [heap_grow_old _ _ (by simpa using hlt)]
    simp [putRow, mapBlock, Sort.ahead, Array.getElem?_modify, Ne.symm hi]
  have hT : Turn (fun i => i = blk) w (sortWorld (hdD hs) w blk 0 m dk os) := ⟨rfl, rfl, rfl, by simp [sortWorld], fun i hi hn => hW i hn hi⟩
  have hlen : hs.length = rows.length := by rw [h1.1]; omega
  have key : ∀ i, ∃ A n c, hdD hs i = .slice A n c ∧ (rowD rows i).length = n ∧ IntsAt (sortWorld (hdD hs) w blk 0 m dk os) A (rowD rows i) := fun i => by
    by_cases hi : i < rows.length
    · obtain ⟨u, e1, e2, e3⟩ := h2 i hi
      have er : rowD rows i = rows[i] := by simp [rowD, List.getD, hi]
      obtain ⟨A, c, rfl, _, e5⟩ := (e2.turn hT (fun hn g hg hh => e3 hn g hg hh.symm)).read
      refine ⟨A, rows[i].length, c, by simp [hdD, List.getD, e1], by rw [er], ?_⟩
      rw [er]
      exact e5
    · refine ⟨none, 0, 0, ?_, ?_, ?_⟩
      · simp [hdD, List.getD, List.getElem?_eq_none (show hs.length ≤ i by omega)]
      · simp [rowD, List.getD, List.getElem?_eq_none (show rows.length ≤ i by omega)]
      · have : rowD rows i = [] := by simp [rowD, List.getD, List.getElem?_eq_none (show rows.length ≤ i by omega)]
        rw [this]; exact IntsAt.nil _ _
  obtain ⟨A1, n1, c1, e1, l1, i1⟩ := key x
  obtain ⟨A2, n2, c2, e2, l2, i2⟩ := key y
  rw [e1, e2]
  exact hC A1 A2 _ _ n1 n2 c1 c2 _ i1 l1 i2 l2
/-- Behind the sort the same slice holds all the rows in order. -/
theorem gown_sorted {g cap base : Nat} {lo : Option Nat} {rows : List (List Int)} {hs : List Value} {w : World} {n : Nat} {os : Array Obj} {d' : Array Nat}
    (h1 : w.ownsRow base 22 1 (.slice (some ⟨g, 0, none⟩) rows.length cap) rows.length hs)
    (h2 : ∀ j (hj : j < rows.length), ∃ u, hs[j]? = some u ∧ RowP w lo u rows[j] ∧ ((rows[j] ≠ [] ∨ lo ≠ none) → ∀ i, u.ownBlock = some i → (Value.slice (some ⟨g, 0, none⟩) rows.length cap).ownBlock ≠ some i))
    (hp : PermIn 0 rows.length (Array.range rows.length) d') :
    GOwn (sortWorld (hdD hs) w g 0 n d' os) lo base (.slice (some ⟨g, 0, none⟩) rows.length cap) (d'.toList.map (rowD rows)) := by
  obtain ⟨hsz, _, hperm⟩ := hp
  have hlen : hs.length = rows.length := by rw [h1.1]; omega
  have hd : d'.size = rows.length := by simpa using hsz
  have hmem : ∀ i (hi : i < d'.size), d'[i] < rows.length := fun i hi => by
    have e : (d'.extract 0 rows.length) = d' := by rw [← hd]; simp
    rw [e] at hperm
    have h3 : d'[i] ∈ (Array.range rows.length).extract 0 rows.length := by
      have := hperm.subset (Array.getElem_mem_toList hi)
      simpa using this
    have e2 : (Array.range rows.length).extract 0 rows.length = Array.range rows.length := by
      have : rows.length = (Array.range rows.length).size := by simp
      conv => lhs; rw [this]
      simp
    rw [e2] at h3
    simpa using h3
  have hs0 : hs = (List.range rows.length).map (hdD hs) := by
    apply List.ext_getElem
    · simp [hlen]
    · intro i hi hi2
      simp [hdD, List.getD, hi]
  have h1' : w.ownsRow base 22 1 (.slice (some ⟨g, 0, none⟩) rows.length cap) rows.length ((List.range rows.length).map (hdD hs)) := by rw [← hs0]; exact h1
  have h3 := Lib.ownsRow_putRow (q := n) (k := rows.length) (ys := d'.toList) h1' (by simpa using hd) (Nat.le_refl _)
  rw [List.take_of_length_le (by simp; omega)] at h3
  have h4 := Lib.ownsRow_grow h3 0 os
  have hT : Turn (fun i => i = g) w (sortWorld (hdD hs) w g 0 n d' os) := ⟨rfl, rfl, rfl, by simp [sortWorld], fun i hi hn => by
    unfold sortWorld
    rw [heap_grow_old _ _ (by simpa using hi)]
    simp [putRow, mapBlock, Sort.ahead, Array.getElem?_modify, Ne.symm hn]⟩
  refine ⟨d'.toList.map (hdD hs), ?_, fun j hj => ?_⟩
  · have e : (d'.toList.map (rowD rows)).length = rows.length := by simp [hd]
    rw [e]
    exact h4
  · have hj' : j < d'.size := by simpa using hj
    have hm := hmem j hj'
    obtain ⟨u, e1, e2, e3⟩ := h2 _ hm
    have er : (d'.toList.map (rowD rows))[j] = rows[d'[j]] := by simp [rowD, List.getD, hm]
    rw [er]
    refine ⟨u, ?_, e2.turn hT (fun hn i hi hh => e3 hn i hi (by rw [hh]; rfl)), e3⟩
    simp [hj', hdD, List.getD, e1]
theorem perm_full {m : Nat} {d' : Array Nat} (hp : PermIn 0 m (Array.range m) d') : d'.toList.Perm (List.range m) := by
  obtain ⟨hsz, _, hperm⟩ := hp
  have hd : d'.size = m := by simpa using hsz
  have e : (d'.extract 0 m) = d' := by rw [← hd]; simp
  have e2 : (Array.range m).extract 0 m = Array.range m := by
    have : m = (Array.range m).size := by simp
    conv => lhs; rw [this]
    simp
  rw [e, e2] at hperm
  simpa using hperm
theorem rows_range (rows : List (List Int)) : (List.range rows.length).map (rowD rows) = rows := by
  apply List.ext_getElem
  · simp
  · intro i hi hi2
    simp [rowD, List.getD, hi2]
/-- Sorted, they are all sets in their order. -/
theorem sorted_sets {n : Nat} {rows : List (List Int)} {d' : Array Nat} (hr : rows.Perm (codesL n)) (hp : PermIn 0 rows.length (Array.range rows.length) d') (hs : SortedIn (ltOf (cmpD rows)) 0 rows.length d') : d'.toList.map (rowD rows) = setsL n := by
  have hsz : d'.size = rows.length := by have := hp.1; simpa using this
  have hperm : (d'.toList.map (rowD rows)).Perm rows := by
    have := (perm_full hp).map (rowD rows)
    rwa [rows_range] at this
  have hall := hperm.trans hr
  refine setsL_uniq hall ?_
  have hnd : (d'.toList.map (rowD rows)).Nodup := hall.nodup_iff.2 (codesL_nodup n)
  unfold List.Nodup at hnd
  rw [List.pairwise_iff_getElem] at hnd ⊢
  intro i j hi hj hij
  have h3 := hnd i j hi hj hij
  have hi' : i < d'.size := by simpa using hi
  have hj' : j < d'.size := by simpa using hj
  have h4 := hs i j (Nat.zero_le _) hij (by omega)
  rw [getElem!_pos d' i hi', getElem!_pos d' j hj'] at h4
  have h5 : befB (d'.toList.map (rowD rows))[j] (d'.toList.map (rowD rows))[i] = false := by
    rw [List.getElem_map, List.getElem_map]
    exact h4
  cases hh : befB (d'.toList.map (rowD rows))[i] (d'.toList.map (rowD rows))[j] with
  | true => rfl
  | false => exact absurd (befB_total hh h5) h3
end Go.Proofs.YtbfmencamaicbaaGreat

namespace Go.Proofs.YtbfmencamaicbaaGreat
open Go.RowKit Go.Sort Go.Shelf

def delL_ren : Go.Shelf.Ren := ⟨fun | 10 => 42 | 6 => 41 | n => n, fun | 22 => 23 | 23 => 22 | 25 => 48 | 3 => 3 | 4 => 4 | 0 => 0 | n => n, fun | n => n⟩
theorem delL : Go.Proofs.SlLaysH.n10 Tryz.prog delL_ren := {
  mixed := by kernel_rfl
  f6 := ⟨Tryz.f41.name, by decide, Tryz.func41.trans (congrArg some (by kernel_rfl))⟩
  f10 := ⟨Tryz.f42.name, by decide, Tryz.func42.trans (congrArg some (by kernel_rfl))⟩
  t0 := Tryz.underlying0
  a0 := Tryz.isAgg0
  z0 := Tryz.sizeOf0
  v0 := Tryz.zeroValue0
  t3 := Tryz.underlying3
  a3 := Tryz.isAgg3
  z3 := Tryz.sizeOf3
  v3 := Tryz.zeroValue3
  t4 := Tryz.underlying4
  a4 := Tryz.isAgg4
  z4 := Tryz.sizeOf4
  v4 := Tryz.zeroValue4
  t22 := Tryz.underlying23
  a22 := Tryz.isAgg23
  z22 := Tryz.sizeOf23
  v22 := Tryz.zeroValue23
  a23 := Tryz.isAgg22
  z23 := Tryz.sizeOf22
  t25 := Tryz.underlying48
  a25 := Tryz.isAgg48
  z25 := Tryz.sizeOf48
  v25 := Tryz.zeroValue48 }
end Go.Proofs.YtbfmencamaicbaaGreat

namespace Go.Proofs.YtbfmencamaicbaaGreat
open Go.RowKit Go.Sort Go.Shelf

def sortL_ren : Go.Shelf.Ren := ⟨fun | 6 => 63 | 15 => 61 | 14 => 79 | 28 => 77 | 29 => 78 | 20 => 90 | 21 => 91 | 22 => 92 | 23 => 93 | 24 => 94 | 25 => 95 | 26 => 96 | 27 => 97 | 46 => 100 | 47 => 85 | 48 => 86 | 49 => 101 | 50 => 102 | 57 => 105 | n => n, fun | 22 => 23 | 24 => 22 | 25 => 81 | 3 => 3 | 39 => 63 | 0 => 0 | 53 => 91 | 55 => 93 | 4 => 4 | 46 => 86 | 45 => 85 | 50 => 27 | 5 => 5 | 9 => 9 | 66 => 97 | 70 => 101 | 76 => 110 | 77 => 111 | n => n, fun | n => n⟩
theorem sortL : Go.Proofs.SlLaysF.n6 Tryz.prog sortL_ren := {
  mixed := by kernel_rfl
  f6 := ⟨Tryz.f63.name, by decide, Tryz.func63.trans (congrArg some (by kernel_rfl))⟩
  f14 := ⟨Tryz.f79.name, by decide, Tryz.func79.trans (congrArg some (by kernel_rfl))⟩
  f15 := Tryz.func61.trans (congrArg some (by kernel_rfl))
  f20 := ⟨Tryz.f90.name, by decide, Tryz.func90.trans (congrArg some (by kernel_rfl))⟩
  f21 := ⟨Tryz.f91.name, by decide, Tryz.func91.trans (congrArg some (by kernel_rfl))⟩
  f22 := ⟨Tryz.f92.name, by decide, Tryz.func92.trans (congrArg some (by kernel_rfl))⟩
  f23 := ⟨Tryz.f93.name, by decide, Tryz.func93.trans (congrArg some (by kernel_rfl))⟩
  f24 := ⟨Tryz.f94.name, by decide, Tryz.func94.trans (congrArg some (by kernel_rfl))⟩
  f25 := ⟨Tryz.f95.name, by decide, Tryz.func95.trans (congrArg some (by kernel_rfl))⟩
  f26 := ⟨Tryz.f96.name, by decide, Tryz.func96.trans (congrArg some (by kernel_rfl))⟩
  f27 := ⟨Tryz.f97.name, by decide, Tryz.func97.trans (congrArg some (by kernel_rfl))⟩
  f28 := Tryz.func77.trans (congrArg some (by kernel_rfl))
  f29 := Tryz.func78.trans (congrArg some (by kernel_rfl))
  f46 := ⟨Tryz.f100.name, by decide, Tryz.func100.trans (congrArg some (by kernel_rfl))⟩
  f47 := Tryz.func85.trans (congrArg some (by kernel_rfl))
  f48 := Tryz.func86.trans (congrArg some (by kernel_rfl))
  f49 := ⟨Tryz.f101.name, by decide, Tryz.func101.trans (congrArg some (by kernel_rfl))⟩
  f50 := ⟨Tryz.f102.name, by decide, Tryz.func102.trans (congrArg some (by kernel_rfl))⟩
  f57 := ⟨Tryz.f105.name, by decide, Tryz.func105.trans (congrArg some (by kernel_rfl))⟩
  t0 := Tryz.underlying0
  a0 := Tryz.isAgg0
  z0 := Tryz.sizeOf0
  v0 := Tryz.zeroValue0
  t3 := Tryz.underlying3
  a3 := Tryz.isAgg3
  z3 := Tryz.sizeOf3
  v3 := Tryz.zeroValue3
  t4 := Tryz.underlying4
  a4 := Tryz.isAgg4
  z4 := Tryz.sizeOf4
  v4 := Tryz.zeroValue4
  t5 := Tryz.underlying5
  a5 := Tryz.isAgg5
  z5 := Tryz.sizeOf5
  v5 := Tryz.zeroValue5
  t9 := Tryz.underlying9
  a9 := Tryz.isAgg9
  z9 := Tryz.sizeOf9
  v9 := Tryz.zeroValue9
  t22 := Tryz.underlying23
  a22 := Tryz.isAgg23
  z22 := Tryz.sizeOf23
  v22 := Tryz.zeroValue23
  a24 := Tryz.isAgg22
  z24 := Tryz.sizeOf22
  t25 := Tryz.underlying81
  a25 := Tryz.isAgg81
  z25 := Tryz.sizeOf81
  v25 := Tryz.zeroValue81
  t39 := Tryz.underlying63
  a39 := Tryz.isAgg63
  z39 := Tryz.sizeOf63
  v39 := Tryz.zeroValue63
  t45 := Tryz.underlying85
  a45 := Tryz.isAgg85
  z45 := Tryz.sizeOf85
  v45 := Tryz.zeroValue85
  t46 := Tryz.underlying86
  a46 := Tryz.isAgg86
  z46 := Tryz.sizeOf86
  v46 := Tryz.zeroValue86
  t50 := Tryz.underlying27
  a50 := Tryz.isAgg27
  z50 := Tryz.sizeOf27
  v50 := Tryz.zeroValue27
  t53 := Tryz.underlying91
  a53 := Tryz.isAgg91
  z53 := Tryz.sizeOf91
  v53 := Tryz.zeroValue91
  t55 := Tryz.underlying93
  a55 := Tryz.isAgg93
  z55 := Tryz.sizeOf93
  v55 := Tryz.zeroValue93
  t66 := Tryz.underlying97
  a66 := Tryz.isAgg97
  z66 := Tryz.sizeOf97
  v66 := Tryz.zeroValue97
  t70 := Tryz.underlying101
  a70 := Tryz.isAgg101
  z70 := Tryz.sizeOf101
  v70 := Tryz.zeroValue101
  t76 := Tryz.underlying110
  a76 := Tryz.isAgg110
  z76 := Tryz.sizeOf110
  v76 := Tryz.zeroValue110
  t77 := Tryz.underlying111
  a77 := Tryz.isAgg111
  z77 := Tryz.sizeOf111
  v77 := Tryz.zeroValue111 }
end Go.Proofs.YtbfmencamaicbaaGreat

namespace Go.Proofs.YtbfmencamaicbaaGreat
open Go.RowKit Go.Sort

def cmpI (x y : Int) : Int := if x < y then -1 else if y < x then 1 else 0
def orL : List Int → Int
  | [] => 0
  | x :: xs => if x = 0 then orL xs else x
theorem orL_drop {xs : List Int} {k : Nat} (hk : k < xs.length) (h : xs[k] = 0) : orL (xs.drop k) = orL (xs.drop (k + 1)) := by
  rw [List.drop_eq_getElem_cons hk, orL, if_pos h]
theorem orL_at {xs : List Int} {k : Nat} (hk : k < xs.length) (h : xs[k] ≠ 0) : orL (xs.drop k) = xs[k] := by
  rw [List.drop_eq_getElem_cons hk, orL, if_neg h]
theorem isNaN_any (x : Int) (w : World) : Calls Tryz.prog 89 #[.int .i64 x] w fun e w' => e = .returned (.bool false) ∧ w = w' := by
  go_enter Tryz.func89, Tryz.ntmps89
  have h : (x != x) = false := by simp
  go_wp2_with fail
  go_ret
  exact ⟨rfl, rfl⟩
theorem compareI_any (x y : Int) (w : World) : Calls Tryz.prog 81 #[.int .i64 x, .int .i64 y] w fun e w' => e = .returned (.int .i64 (cmpI x y)) ∧ w = w' := by
  go_enter Tryz.func81, Tryz.ntmps81
  go_wp2_with fail
  have CC := Lib.hid (isNaN_any x w)
  with_reducible refine Calls.mono CC.out ?_
  rintro e w1 ⟨rfl, hw⟩
  obtain rfl := hw
  clear CC
  go_wp2_with fail
  have CC := Lib.hid (isNaN_any y w)
  with_reducible refine Calls.mono CC.out ?_
  rintro e w2 ⟨rfl, hw⟩
  obtain rfl := hw
  clear CC
  by_cases h1 : x < y
  · have e : Hid (cmpI x y = -1) := by show cmpI x y = _; simp [cmpI, h1]
    go_wp2_with fail
    go_ret
    exact ⟨ret_int e.out.symm, rfl⟩
  · by_cases h2 : y < x
    · have e : Hid (cmpI x y = 1) := by show cmpI x y = _; simp [cmpI, h1, h2]
      go_wp2_with fail
      go_ret
      exact ⟨ret_int e.out.symm, rfl⟩
    · have e : Hid (cmpI x y = 0) := by show cmpI x y = _; simp [cmpI, h1, h2]
      go_wp2_with fail
      go_ret
      exact ⟨ret_int e.out.symm, rfl⟩
theorem or_any (A0 : Option Addr) (xs : List Int) (n c0 : Nat) (w : World) (hS : IntsAt w A0 xs) (hn : xs.length = n) :
    Calls Tryz.prog 80 #[.slice A0 n c0] w fun e w' => e = .returned (.int .i64 (orL xs)) ∧ w = w' := by
  have hm : n ≤ 9223372036854775807 := hn ▸ hS.1
  have Hn := Lib.hid hn; clear hn
  go_enter Tryz.func80, Tryz.ntmps80
  go_wp2_with fail
  go_loop [8] (fun iv => ∃ k : Nat, k ≤ n ∧ iv = .int .i64 k ∧ Hid (orL (xs.drop k) = orL xs)) (fun iv => n - (intOf iv).toNat)
  case atStart => exact ⟨0, by omega, rfl, rfl⟩
  case round =>
    obtain ⟨k, hk, rfl, Hp⟩ := hrel
    by_cases hlt : k < n
    · have lx : k < xs.length := by rw [Hn.out]; exact hlt
      obtain ⟨ad, rfl, hc⟩ := hS.at_ lx
      cases ht : (xs[k] != 0)
      · have e0 : xs[k] = 0 := by simpa using ht
        have Hy := Lib.hid ((orL_drop lx e0).symm.trans Hp.out)
        clear e0
        go_wp2_with fail
        go_round
        case rel => exact ⟨k + 1, by omega, by go_num, Hy⟩
        case measure => simp [intOf]; omega
      · have e0 : xs[k] ≠ 0 := by simpa using ht
        have Hy := Lib.hid ((orL_at lx e0).symm.trans Hp.out)
        clear e0
        go_wp2_with fail
        go_ret
        exact ⟨ret_int Hy.out, rfl⟩
    · have e0 : xs.drop k = [] := List.drop_eq_nil_of_le (by rw [Hn.out]; omega)
      have Hy : Hid (orL xs = 0) := by show orL xs = 0; rw [← Hp.out, e0]; rfl
      clear e0
      go_wp2_with fail
      go_ret
      exact ⟨ret_int Hy.out.symm, rfl⟩
theorem lexC_cons (x y : Int) (xs ys : List Int) : lexC (x :: xs) (y :: ys) = if x < y then -1 else if y < x then 1 else lexC xs ys := rfl
theorem lexC_step {xs ys : List Int} {k : Nat} (hx : k < xs.length) (hy : k < ys.length) : lexC (xs.drop k) (ys.drop k) = if cmpI xs[k] ys[k] = 0 then lexC (xs.drop (k + 1)) (ys.drop (k + 1)) else cmpI xs[k] ys[k] := by
  rw [List.drop_eq_getElem_cons hx, List.drop_eq_getElem_cons hy, lexC_cons]
  unfold cmpI
  by_cases h1 : xs[k] < ys[k]
  · simp [h1]
  · by_cases h2 : ys[k] < xs[k]
    · simp [h1, h2]
    · simp [h1, h2]
theorem slicesCompare_any (A1 A2 : Option Addr) (xs ys : List Int) (n m c d : Nat) (w : World) (h1 : IntsAt w A1 xs) (hn : xs.length = n) (h2 : IntsAt w A2 ys) (hm : ys.length = m) :
    Calls Tryz.prog 82 #[.slice A1 n c, .slice A2 m d] w fun e w' => e = .returned (.int .i64 (lexC xs ys)) ∧ w = w' := by
  have hn9 : n ≤ 9223372036854775807 := hn ▸ h1.1
  have hm9 : m ≤ 9223372036854775807 := hm ▸ h2.1
  have Hn := Lib.hid hn; clear hn
  have Hm := Lib.hid hm; clear hm
  go_enter Tryz.func82, Tryz.ntmps82
  go_wp2_with fail
  go_loop [11] (fun iv => ∃ k : Nat, k ≤ n ∧ k ≤ m ∧ iv = .int .i64 k ∧ Hid (lexC (xs.drop k) (ys.drop k) = lexC xs ys)) (fun iv => n - (intOf iv).toNat)
  case atStart => exact ⟨0, by omega, by omega, rfl, rfl⟩
  case round =>
    obtain ⟨k, hk, hkm, rfl, Hp⟩ := hrel
    by_cases hlt : k < n
    · have lx : k < xs.length := by rw [Hn.out]; exact hlt
      obtain ⟨ad, rfl, hc⟩ := h1.at_ lx
      by_cases hlt2 : k < m
      · have ly : k < ys.length := by rw [Hm.out]; exact hlt2
        obtain ⟨bd, rfl, hd⟩ := h2.at_ ly
        have hst := Lib.hid (lexC_step lx ly)
        go_wp2_with fail
        have CC := Lib.hid (compareI_any xs[k] ys[k] w)
        with_reducible refine Calls.mono CC.out ?_
        rintro e w1 ⟨rfl, hw⟩
        obtain rfl := hw
        clear CC
        cases ht : (cmpI xs[k] ys[k] != 0)
        · have e0 : cmpI xs[k] ys[k] = 0 := by simpa using ht
          have Hy : Hid (lexC (xs.drop (k + 1)) (ys.drop (k + 1)) = lexC xs ys) := by show _ = _; rw [← Hp.out, hst.out, if_pos e0]
          clear e0
          go_wp2_with fail
          go_round
          case rel => exact ⟨k + 1, by omega, by omega, by go_num, Hy⟩
          case measure => simp [intOf]; omega
        · have e0 : ¬ cmpI xs[k] ys[k] = 0 := by simpa using ht
          have Hy : Hid (cmpI xs[k] ys[k] = lexC xs ys) := by show _ = _; rw [← Hp.out, hst.out, if_neg e0]
          clear e0
          go_wp2_with fail
          go_ret
          exact ⟨ret_int Hy.out, rfl⟩
      · have e0 : ys.drop k = [] := List.drop_eq_nil_of_le (by rw [Hm.out]; omega)
        have Hy : Hid (lexC xs ys = 1) := by show _ = _; rw [← Hp.out, e0, List.drop_eq_getElem_cons lx]; rfl
        clear e0
        go_wp2_with fail
        go_ret
        exact ⟨ret_int Hy.out.symm, rfl⟩
    · have e0 : xs.drop k = [] := List.drop_eq_nil_of_le (by rw [Hn.out]; omega)
      by_cases hlt2 : k < m
      · have ly : k < ys.length := by rw [Hm.out]; exact hlt2
        have Hy : Hid (lexC xs ys = -1) := by show _ = _; rw [← Hp.out, e0, List.drop_eq_getElem_cons ly]; rfl
        have hnm : n < m := by omega
        clear e0
        go_wp2_with fail
        go_ret
        exact ⟨ret_int Hy.out.symm, rfl⟩
      · have e1 : ys.drop k = [] := List.drop_eq_nil_of_le (by rw [Hm.out]; omega)
        have Hy : Hid (lexC xs ys = 0) := by show _ = _; rw [← Hp.out, e0, e1]; rfl
        have hnm : ¬ n < m := by omega
        clear e0 e1
        go_wp2_with fail
        go_ret
        exact ⟨ret_int Hy.out.symm, rfl⟩
theorem cmpS_or (a b : List Int) : orL [cmpI a.length b.length, lexC a b] = cmpS a b := by
  unfold cmpS cmpI
  by_cases h1 : a.length < b.length
  · simp [orL, h1]
  · by_cases h2 : b.length < a.length
    · simp [orL, h1, h2]
    · simp only [orL, h1, h2, Int.ofNat_lt, if_false, if_true]
      by_cases h3 : lexC a b = 0 <;> simp [h3]
theorem two_ints (w : World) (x y : Int) : IntsAt (w.alloc (.cells #[.int .i64 x, .int .i64 y] 3)) (some ⟨w.heap.size, 0, none⟩) [x, y] :=
  ⟨by simp, fun k hk => by
    have hk2 : k < 2 := by simpa using hk
    refine ⟨_, rfl, ?_⟩
    rw [add0, World.cell?_alloc_at _ _ _ _ rfl]
    match k, hk2 with
    | 0, _ => rfl
    | 1, _ => rfl⟩
theorem compareSets_any (A1 A2 : Option Addr) (xs ys : List Int) (n m c d : Nat) (w : World) (h1 : IntsAt w A1 xs) (hn : xs.length = n) (h2 : IntsAt w A2 ys) (hm : ys.length = m) :
    Calls Tryz.prog 64 #[.slice A1 n c, .slice A2 m d] w fun e w' => e = .returned (.int .i64 (cmpS xs ys)) ∧ Gw w w' := by
  have hn9 : n ≤ 9223372036854775807 := hn ▸ h1.1
  have hm9 : m ≤ 9223372036854775807 := hm ▸ h2.1
  have Hor : Hid (orL [cmpI n m, lexC xs ys] = cmpS xs ys) := by show _ = _; rw [← hn, ← hm]; exact cmpS_or xs ys
  have Hn := Lib.hid hn; clear hn
  have Hm := Lib.hid hm; clear hm
  go_enter Tryz.func64, Tryz.ntmps64
  go_wp2_with fail
  have CC := Lib.hid (compareI_any (n : Int) (m : Int) w)
  with_reducible refine Calls.mono CC.out ?_
  rintro e w1 ⟨rfl, hw⟩
  obtain rfl := hw
  clear CC
  go_wp2_with fail
  have CC := Lib.hid (slicesCompare_any A1 A2 xs ys n m c d w h1 Hn.out h2 Hm.out)
  with_reducible refine Calls.mono CC.out ?_
  rintro e w2 ⟨rfl, hw⟩
  obtain rfl := hw
  clear CC
  have T2 := Lib.hid (two_ints w (cmpI n m) (lexC xs ys))
  generalize cmpI n m = p at *
  generalize lexC xs ys = q at *
  go_wp2_with fail
  have CC := Lib.hid (or_any _ [p, q] 2 2 _ T2.out rfl)
  with_reducible refine Calls.mono CC.out ?_
  rintro e w3 ⟨rfl, hw⟩
  obtain rfl := hw
  clear CC
  go_wp2_with fail
  go_ret
  exact ⟨ret_int Hor.out, (Gw.refl w).alloc _⟩
theorem bef_len {a b : List Int} (h : a.length ≠ b.length) : befB a b = decide (a.length < b.length) := by
  unfold befB cmpS
  by_cases h1 : a.length < b.length
  · simp [h1]
  · simp [h1, show b.length < a.length by omega]
theorem bef_same {a b : List Int} (h : a.length = b.length) : befB a b = decide (lexC a b < 0) := by
  unfold befB cmpS
  simp [h]
theorem lexC_lt {xs ys : List Int} {k : Nat} (hx : k < xs.length) (hy : k < ys.length) (h : xs[k] ≠ ys[k]) : decide (lexC (xs.drop k) (ys.drop k) < 0) = decide (xs[k] < ys[k]) := by
  rw [lexC_step hx hy]
  unfold cmpI
  by_cases h1 : xs[k] < ys[k]
  · simp [h1]
  · simp [h1, show ys[k] < xs[k] by omega]
theorem lexC_same {xs ys : List Int} {k : Nat} (hx : k < xs.length) (hy : k < ys.length) (h : xs[k] = ys[k]) : lexC (xs.drop k) (ys.drop k) = lexC (xs.drop (k + 1)) (ys.drop (k + 1)) := by
  rw [lexC_step hx hy]
  simp [cmpI, h]
set_option maxHeartbeats 400000 in
theorem l2Before_any (A1 A2 : Option Addr) (xs ys : List Int) (n m c d : Nat) (w : World) (h1 : IntsAt w A1 xs) (hn : xs.length = n) (h2 : IntsAt w A2 ys) (hm : ys.length = m) :
    Calls Tryz.prog 51 #[.slice A1 n c, .slice A2 m d] w fun e w' => e = .returned (.bool (befB xs ys)) ∧ Dr w w' := by
  have hn9 : n ≤ 9223372036854775807 := hn ▸ h1.1
  have hm9 : m ≤ 9223372036854775807 := hm ▸ h2.1
  by_cases hnm : n = m
  · subst hnm
    have hne : ((n : Int) != (n : Int)) = false := by simp
    have Hb := Lib.hid (bef_same (a := xs) (b := ys) (hn.trans hm.symm))
    have Hn := Lib.hid hn; clear hn
    have Hm := Lib.hid hm; clear hm
    go_enter Tryz.func51, Tryz.ntmps51
    go_wp2_with fail
    go_loopw [5] (fun iv wr => ∃ k : Nat, k ≤ n ∧ iv = .int .i64 k ∧ Hid (lexC (xs.drop k) (ys.drop k) = lexC xs ys) ∧ Dr w wr) (fun iv _ => n - (intOf iv).toNat)
    case atStart => exact ⟨0, by omega, rfl, rfl, Dr.refl w⟩
    case round =>
      obtain ⟨k, hk, rfl, Hp, hdr⟩ := hrel
      by_cases hlt : k < n
      · have lx : k < xs.length := by rw [Hn.out]; exact hlt
        have ly : k < ys.length := by rw [Hm.out]; exact hlt
        obtain ⟨ad, rfl, hc⟩ := (h1.kp hdr.kp).at_ lx
        obtain ⟨bd, rfl, hd⟩ := (h2.kp hdr.kp).at_ ly
        cases ht : (xs[k] != ys[k])
        · have e0 : xs[k] = ys[k] := by simpa using ht
          have Hy := Lib.hid ((lexC_same lx ly e0).symm.trans Hp.out)
          clear e0
          go_wp2_with fail
          go_quiet (fail)
          go_wp2_with fail
          go_roundw
          case rel => exact ⟨k + 1, by omega, by go_num, Hy, hdr.drewN nq⟩
          case measure => simp [intOf]; omega
        · have e0 : xs[k] ≠ ys[k] := by simpa using ht
          have Hy : Hid (decide (xs[k] < ys[k]) = befB xs ys) := by show _ = _; rw [Hb.out, ← Hp.out]; exact (lexC_lt lx ly e0).symm
          clear e0
          go_wp2_with fail
          go_quiet (fail)
          go_wp2_with fail
          go_quiet (fail)
          go_wp2_with fail
          go_ret
          exact ⟨ret_bool Hy.out, (hdr.drewN _).drewN _⟩
      · have e0 : xs.drop k = [] := List.drop_eq_nil_of_le (by rw [Hn.out]; omega)
        have e1 : ys.drop k = [] := List.drop_eq_nil_of_le (by rw [Hm.out]; omega)
        have Hy : Hid (befB xs ys = false) := by show _ = _; rw [Hb.out, ← Hp.out, e0, e1]; rfl
        clear e0 e1
        go_wp2_with fail
        go_ret
        exact ⟨ret_bool Hy.out.symm, hdr⟩
  · have hne : ((n : Int) != (m : Int)) = true := by simp; omega
    have Hb : Hid (befB xs ys = decide (n < m)) := by show _ = _; rw [← hn, ← hm]; exact bef_len (by omega)
    have hd : decide (n < m) = decide ((n : Int) < (m : Int)) := by simp
    go_enter Tryz.func51, Tryz.ntmps51
    go_wp2_with fail
    go_ret
    exact ⟨ret_bool (by rw [Hb.out, hd]), Dr.refl w⟩
end Go.Proofs.YtbfmencamaicbaaGreat

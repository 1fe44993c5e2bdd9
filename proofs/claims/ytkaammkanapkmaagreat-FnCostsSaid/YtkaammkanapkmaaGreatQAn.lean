/- FairShares: what the program's closure keeps and changes; FairShares: what the program's closure holds in memory; FairShares: the program's closure; A region that draws, by an invariant: each operation once, whatever has come up before; FairShares: a call, a make and three variables in one region, in whatever order they come up; FairShares: the program's first region. No condition. -/
import Derived.Test.YtkaammkanapkmaaGreatQAk
import Derived.Test.YtkaammkanapkmaaGreatQAi
import Derived.Deep.RegionHeld3
namespace Go.Proofs.YtkaammkanapkmaaGreat
open Go.RowKit Go.Sort

/-- The sums after some of the next clients. -/
def fsP (ct : Nat → Int) (n r : Nat) (O : List Int) (i j : Nat) : Int := sumTo (fun i => if (i : Int) ∈ O then 0 else fsT ct n j r (O ++ [(i : Int)])) i
def cnP (n r : Nat) (O : List Int) (i : Nat) : Int := sumTo (fun i => if (i : Int) ∈ O then 0 else cnT n r (O ++ [(i : Int)])) i
def outP (O : List Int) (i : Nat) : Int := sumTo (fun i => if (i : Int) ∈ O then 0 else 1) i
theorem fsP_all (ct : Nat → Int) (n r : Nat) (O : List Int) (j : Nat) : fsP ct n r O n j = fsT ct n j (r + 1) O := rfl
theorem cnP_all (n r : Nat) (O : List Int) : cnP n r O n = cnT n (r + 1) O := rfl
theorem fsP_in {ct : Nat → Int} {n r : Nat} {O : List Int} {i : Nat} (h : (i : Int) ∈ O) (j : Nat) : fsP ct n r O (i + 1) j = fsP ct n r O i j := by unfold fsP; rw [sumTo_succ, if_pos h]; omega
theorem fsP_out {ct : Nat → Int} {n r : Nat} {O : List Int} {i : Nat} (h : (i : Int) ∉ O) (j : Nat) : fsP ct n r O (i + 1) j = fsP ct n r O i j + fsT ct n j r (O ++ [(i : Int)]) := by unfold fsP; rw [sumTo_succ, if_neg h]
theorem cnP_in {n r : Nat} {O : List Int} {i : Nat} (h : (i : Int) ∈ O) : cnP n r O (i + 1) = cnP n r O i := by unfold cnP; rw [sumTo_succ, if_pos h]; omega
theorem cnP_out {n r : Nat} {O : List Int} {i : Nat} (h : (i : Int) ∉ O) : cnP n r O (i + 1) = cnP n r O i + cnT n r (O ++ [(i : Int)]) := by unfold cnP; rw [sumTo_succ, if_neg h]
theorem fac_pos : ∀ r, 1 ≤ facT r
  | 0 => by unfold facT; omega
  | r + 1 => by
    have ih := fac_pos r
    show 1 ≤ ((r + 1 : Nat) : Int) * facT r
    have : 1 * 1 ≤ ((r + 1 : Nat) : Int) * facT r := Int.mul_le_mul (by omega) ih (by omega) (by omega)
    omega
theorem outP_mono (O : List Int) {i m : Nat} (h : i ≤ m) : outP O i ≤ outP O m := by
  obtain ⟨d, rfl⟩ := Nat.le.dest h
  clear h
  induction d with
  | zero => exact Int.le_refl _
  | succ d ih =>
    refine Int.le_trans ih ?_
    show outP O (i + d) ≤ outP O (i + d + 1)
    unfold outP
    rw [sumTo_succ]
    split <;> omega
theorem outP_nn (O : List Int) (i : Nat) : 0 ≤ outP O i := by
  have := outP_mono O (Nat.zero_le i)
  have e : outP O 0 = 0 := rfl
  omega
theorem outP_next {O : List Int} {i : Nat} (h : (i : Int) ∉ O) : outP O (i + 1) = outP O i + 1 := by unfold outP; rw [sumTo_succ, if_neg h]
theorem outP_in {O : List Int} {i : Nat} (h : (i : Int) ∈ O) : outP O (i + 1) = outP O i := by unfold outP; rw [sumTo_succ, if_pos h]; omega
theorem outP_all {n r : Nat} {O : List Int} (h : Ord n O) (hl : O.length + (r + 1) = n) : outP O n = ((r + 1 : Nat) : Int) := by
  have := cnt_out h
  show sumTo _ n = _
  rw [this]; omega
theorem mul_mono {a b c : Int} (h : a ≤ b) (hc : 0 ≤ c) : a * c ≤ b * c := Int.mul_le_mul_of_nonneg_right h hc
theorem fs_bd {ct : Nat → Int} {n : Nat} (hn : n ≤ 7) (hct : ∀ c, 0 ≤ ct c ∧ ct c ≤ 1386) (j : Nat) : ∀ (r : Nat) (O : List Int), Ord n O → O.length + r = n → -(10000 * facT r) ≤ fsT ct n j r O ∧ fsT ct n j r O ≤ 10000 * facT r
  | 0, O, h, hl => by
    have := mgT_bd h (fun c _ => hct c) j O.length (Nat.le_refl _)
    show -(10000 * 1) ≤ mgT ct O j O.length ∧ mgT ct O j O.length ≤ 10000 * 1
    omega
  | r + 1, O, h, hl => by
    have key : ∀ i, i ≤ n → -(outP O i * (10000 * facT r)) ≤ fsP ct n r O i j ∧ fsP ct n r O i j ≤ outP O i * (10000 * facT r) := by
      intro i
      induction i with
      | zero => intro _; show -(0 * _) ≤ (0 : Int) ∧ (0 : Int) ≤ 0 * _; simp
      | succ i ih =>
        intro hi
        have ih := ih (by omega)
        by_cases hO : (i : Int) ∈ O
        · rw [fsP_in hO, outP_in hO]; exact ih
        · have hb := fs_bd hn hct j r (O ++ [(i : Int)]) (h.snoc (by omega) hO) (by rw [List.length_append, List.length_singleton]; omega)
          rw [fsP_out hO, outP_next hO, Int.add_mul, Int.one_mul]
          omega
    have hk := key n (Nat.le_refl _)
    rw [fsP_all, outP_all h hl] at hk
    have e : ((r + 1 : Nat) : Int) * (10000 * facT r) = 10000 * facT (r + 1) := by
      show _ = 10000 * (((r + 1 : Nat) : Int) * facT r)
      rw [← Int.mul_assoc, ← Int.mul_assoc, Int.mul_comm ((r + 1 : Nat) : Int) 10000]
    rw [e] at hk
    exact hk
theorem fsP_bd {ct : Nat → Int} {n r : Nat} {O : List Int} (hn : n ≤ 7) (hct : ∀ c, 0 ≤ ct c ∧ ct c ≤ 1386) (h : Ord n O) (hl : O.length + (r + 1) = n) (j : Nat) : ∀ i, i ≤ n → -(outP O i * (10000 * facT r)) ≤ fsP ct n r O i j ∧ fsP ct n r O i j ≤ outP O i * (10000 * facT r)
  | 0, _ => by show -(0 * _) ≤ (0 : Int) ∧ (0 : Int) ≤ 0 * _; simp
  | i + 1, hi => by
    have ih := fsP_bd hn hct h hl j i (by omega)
    by_cases hO : (i : Int) ∈ O
    · rw [fsP_in hO, outP_in hO]; exact ih
    · have hb := fs_bd hn hct j r (O ++ [(i : Int)]) (h.snoc (by omega) hO) (by rw [List.length_append, List.length_singleton]; omega)
      rw [fsP_out hO, outP_next hO, Int.add_mul, Int.one_mul]
      omega
/-- What stands there may still grow by all that comes. -/
def Room (n r : Nat) (t : Nat → Int) : Prop := ∀ j, -(900000000 - 10000 * facT r) ≤ t j ∧ t j ≤ 900000000 - 10000 * facT r
theorem Room.sub {ct : Nat → Int} {n r i : Nat} {O : List Int} {t : Nat → Int} (hr : Room n (r + 1) t) (hn : n ≤ 7) (hct : ∀ c, 0 ≤ ct c ∧ ct c ≤ 1386) (h : Ord n O) (hl : O.length + (r + 1) = n) (hi : i < n) (hO : (i : Int) ∉ O) : Room n r (fun j => t j + fsP ct n r O i j) := fun j => by
  have h1 := hr j
  have h2 := fsP_bd hn hct h hl j i (by omega)
  have h3 := outP_mono O (show i + 1 ≤ n by omega)
  rw [outP_next hO, outP_all h hl] at h3
  have h4 : (outP O i + 1) * (10000 * facT r) ≤ ((r + 1 : Nat) : Int) * (10000 * facT r) := mul_mono h3 (by have := fac_pos r; omega)
  have e : ((r + 1 : Nat) : Int) * (10000 * facT r) = 10000 * facT (r + 1) := by
    show _ = 10000 * (((r + 1 : Nat) : Int) * facT r)
    rw [← Int.mul_assoc, ← Int.mul_assoc, Int.mul_comm ((r + 1 : Nat) : Int) 10000]
  rw [e, Int.add_mul, Int.one_mul] at h4
  show -(900000000 - 10000 * facT r) ≤ t j + fsP ct n r O i j ∧ t j + fsP ct n r O i j ≤ 900000000 - 10000 * facT r
  omega
theorem cnP_eq {n r : Nat} {O : List Int} (h : Ord n O) (hl : O.length + (r + 1) = n) : ∀ i, i ≤ n → cnP n r O i = outP O i * facT r
  | 0, _ => by show (0 : Int) = 0 * _; simp
  | i + 1, hi => by
    have ih := cnP_eq h hl i (by omega)
    by_cases hO : (i : Int) ∈ O
    · rw [cnP_in hO, outP_in hO]; exact ih
    · rw [cnP_out hO, outP_next hO, ih, cnT_eq r _ (h.snoc (by omega) hO) (by rw [List.length_append, List.length_singleton]; omega), Int.add_mul, Int.one_mul]
end Go.Proofs.YtkaammkanapkmaaGreat

namespace Go.Proofs.YtkaammkanapkmaaGreat
open Go.RowKit Go.Sort

theorem own_cutF {w : World} {base n c : Nat} {A : Option Addr} {xs : List Int} {z : Int} (h : Own w base (.slice A (n + 1) c) (xs ++ [z])) (hn : xs.length = n) : Own w base (.slice A n c) xs := by
  rcases h.2 with ⟨_, h0⟩ | ⟨g, cap, cur, e, hb, hg, h1, h2, h3, h4⟩
  · simp at h0
  · obtain ⟨rfl, _, rfl⟩ : A = some ⟨g, 0, none⟩ ∧ n + 1 = (xs ++ [z]).length ∧ c = cap := by simpa using e
    refine ⟨by simp, .inr ⟨g, c, cur, by rw [hn], hb, hg, ?_, h2, h3, ?_⟩⟩
    · simp at h1 ⊢; omega
    · have h5 := congrArg (List.take xs.length) h4
      rw [List.take_take, List.map_append, List.length_append, Nat.mul_one, List.length_singleton, Nat.min_eq_left (by omega)] at h5
      rw [Nat.mul_one, h5]
      have e2 : xs.length = (xs.map (Value.int .i64)).length := by simp
      rw [e2, List.take_left']
      simp
theorem cell_selfF {w : World} {b : Nat} {v : Value} (h : w.there b 0 1) : (w.setCell ⟨b, 0, none⟩ v).cell? ⟨b, 0, none⟩ = some v := World.rangeAt_setCells_same w b 0 [v] h 0 v rfl
theorem there_selfF {w : World} {b b' : Nat} {v : Value} (h : w.there b 0 1) : (w.setCell ⟨b', 0, none⟩ v).there b 0 1 := World.there_setCells h b' 0 [v]
theorem turn_cellF (w : World) (p : Addr) (v : Value) : Turn (fun i => i = p.block) w (w.setCell p v) :=
  ⟨rfl, rfl, rfl, by simp [World.setCell], fun i _ hn => Below.heap_setCell _ _ _ _ hn⟩
theorem turnG {S : Nat → Prop} {w w' : World} (ht : Turn S w w') {p : Addr} {v : Value} (hp : w.cell? p = some v) (hs : ¬ S p.block) : w'.cell? p = some v := by
  rw [World.cell?_of_block (w := w) (ht.block _ (World.block_lt_of_cell? _ _ hp) hs)]; exact hp
theorem turnT {S : Nat → Prop} {w w' : World} (ht : Turn S w w') {b n : Nat} (h : w.there b 0 n) (hs : ¬ S b) : w'.there b 0 n := fun j hj => by
  obtain ⟨h1, h2⟩ := h j hj
  obtain ⟨v, hv⟩ := Option.isSome_iff_exists.1 h1
  exact ⟨by rw [turnG ht hv hs]; rfl, by rw [World.frozen?_of_block (w := w) (ht.block _ (World.block_lt_of_cell? _ _ hv) hs)]; exact h2⟩
theorem kpT {w w' : World} {b n : Nat} (h : w.there b 0 n) (hk : Kp w w') : w'.there b 0 n := fun j hj => by
  obtain ⟨h1, h2⟩ := h j hj
  obtain ⟨v, hv⟩ := Option.isSome_iff_exists.1 h1
  exact ⟨by rw [hk.get hv]; rfl, by rw [hk.froz hv]; exact h2⟩
/-- The variables' blocks and the sums' block differ. -/
structure FrD (lo bo bu bc bm bf G gt : Nat) : Prop where
  o : bo ≠ bu ∧ bo ≠ bc ∧ bo ≠ bm ∧ bo ≠ bf ∧ bo ≠ G ∧ bo ≠ gt
  m : bm ≠ bu ∧ bm ≠ bc ∧ bm ≠ bf ∧ bm ≠ G ∧ bm ≠ gt
  g : G ≠ bu ∧ G ≠ bc ∧ G ≠ bf ∧ G ≠ gt
  l : lo ≤ bo ∧ lo ≤ bm ∧ lo ≤ G
structure FrN (lo bo bu bc bm bf G gt gq : Nat) : Prop where
  n : gq ≠ bo ∧ gq ≠ bu ∧ gq ≠ bc ∧ gq ≠ bm ∧ gq ≠ bf ∧ gq ≠ G ∧ gq ≠ gt
  l : lo ≤ gq
/-- All but the order. -/
structure FrB (w0 wr : World) (bo bu bc bm bf G gt n P c cg : Nat) (vF : Value) (ct : Nat → Int) (out : Nat → Int) (many : Int) : Prop where
  kp : Kp w0 wr
  x1 : wr.cell? ⟨bu, 0, none⟩ = some (.slice (some ⟨G, 0, none⟩) n cg)
  x2 : wr.cell? ⟨bc, 0, none⟩ = some (.slice (some ⟨gt, 0, none⟩) P c)
  x3 : wr.cell? ⟨bm, 0, none⟩ = some (.int .i64 many)
  x4 : wr.cell? ⟨bf, 0, none⟩ = some vF
  t0 : wr.there bo 0 1
  t3 : wr.there bm 0 1
  ou : Own wr w0.heap.size (.slice (some ⟨G, 0, none⟩) n cg) (mapTo out n)
  ic : IntsAt wr (some ⟨gt, 0, none⟩) (mapTo ct P)
  gl : gt < wr.heap.size
structure FrS (w0 wr : World) (bo bu bc bm bf G gt n P c cg gq co k : Nat) (vF : Value) (ct : Nat → Int) (O : List Int) (out : Nat → Int) (many : Int) : Prop where
  b : FrB w0 wr bo bu bc bm bf G gt n P c cg vF ct out many
  nn : FrN w0.heap.size bo bu bc bm bf G gt gq
  x0 : wr.cell? ⟨bo, 0, none⟩ = some (.slice (some ⟨gq, 0, none⟩) k co)
  oo : Own wr w0.heap.size (.slice (some ⟨gq, 0, none⟩) k co) O
  ol : O.length = k
section
variable {w0 wr wr' : World} {bo bu bc bm bf G gt n P c cg gq co k : Nat} {vF : Value} {ct : Nat → Int} {O : List Int} {out : Nat → Int} {many : Int}
theorem FrB.step (q : FrB w0 wr bo bu bc bm bf G gt n P c cg vF ct out many) (hk : Kp wr wr') : FrB w0 wr' bo bu bc bm bf G gt n P c cg vF ct out many :=
  ⟨q.kp.trans hk, hk.get q.x1, hk.get q.x2, hk.get q.x3, hk.get q.x4, kpT q.t0 hk, kpT q.t3 hk, q.ou.kp hk, q.ic.kp hk, Nat.lt_of_lt_of_le q.gl hk.le⟩
theorem FrS.step (q : FrS w0 wr bo bu bc bm bf G gt n P c cg gq co k vF ct O out many) (hk : Kp wr wr') : FrS w0 wr' bo bu bc bm bf G gt n P c cg gq co k vF ct O out many :=
  ⟨q.b.step hk, q.nn, hk.get q.x0, q.oo.kp hk, q.ol⟩
/-- The sums have grown. -/
theorem FrS.sums (q : FrS w0 wr bo bu bc bm bf G gt n P c cg gq co k vF ct O out many) (d : FrD w0.heap.size bo bu bc bm bf G gt) {out' : Nat → Int} (ho : Own wr' w0.heap.size (.slice (some ⟨G, 0, none⟩) n cg) (mapTo out' n)) (ht : Turn (fun i => i = G) wr wr') : FrS w0 wr' bo bu bc bm bf G gt n P c cg gq co k vF ct O out' many := by
  obtain ⟨⟨a1, a2, a3, a4, a5, a6⟩, ⟨b1, b2, b3, b4, b5⟩, ⟨c1, c2, c3, c4⟩, l1, l2, l3⟩ := d
  obtain ⟨⟨n1, n2, n3, n4, n5, n6, n7⟩, l4⟩ := q.nn
  exact ⟨⟨q.b.kp.turn ht (fun i e => by subst e; exact l3), turnG ht q.b.x1 (fun e => c1 e.symm), turnG ht q.b.x2 (fun e => c2 e.symm), turnG ht q.b.x3 (fun e => b4 e), turnG ht q.b.x4 (fun e => c3 e.symm),
    turnT ht q.b.t0 (fun e => a5 e), turnT ht q.b.t3 (fun e => b4 e), ho, q.b.ic.turn ht (fun ad e _ hb => c4 (by cases e; exact hb.symm)), Nat.lt_of_lt_of_le q.b.gl ht.size⟩, q.nn, turnG ht q.x0 (fun e => a5 e), q.oo.turn ht (fun g hg e => n6 (by cases hg; exact e)), q.ol⟩
/-- Their number has grown. -/
theorem FrS.inc (q : FrS w0 wr bo bu bc bm bf G gt n P c cg gq co k vF ct O out many) (d : FrD w0.heap.size bo bu bc bm bf G gt) (z : Int) : FrS w0 (wr.setCell ⟨bm, 0, none⟩ (.int .i64 z)) bo bu bc bm bf G gt n P c cg gq co k vF ct O out z := by
  obtain ⟨⟨a1, a2, a3, a4, a5, a6⟩, ⟨b1, b2, b3, b4, b5⟩, ⟨c1, c2, c3, c4⟩, l1, l2, l3⟩ := d
  obtain ⟨⟨n1, n2, n3, n4, n5, n6, n7⟩, l4⟩ := q.nn
  have ht := turn_cellF wr ⟨bm, 0, none⟩ (.int .i64 z)
  exact ⟨⟨q.b.kp.turn ht (fun i e => by subst e; exact l2), turnG ht q.b.x1 (fun e => b1 e.symm), turnG ht q.b.x2 (fun e => b2 e.symm), cell_selfF q.b.t3, turnG ht q.b.x4 (fun e => b3 e.symm),
    there_selfF q.b.t0, there_selfF q.b.t3, q.b.ou.turn ht (fun g hg e => b4 (by cases hg; exact e.symm)), q.b.ic.turn ht (fun ad e _ hb => b5 (by cases e; exact hb.symm)), Nat.lt_of_lt_of_le q.b.gl ht.size⟩, q.nn, turnG ht q.x0 (fun e => a3 e), q.oo.turn ht (fun g hg e => n4 (by cases hg; exact e)), q.ol⟩
/-- The order's variable is written. -/
theorem FrB.put (q : FrB w0 wr bo bu bc bm bf G gt n P c cg vF ct out many) (d : FrD w0.heap.size bo bu bc bm bf G gt) {gq' co' k' : Nat} {O' : List Int} (hn : FrN w0.heap.size bo bu bc bm bf G gt gq') (ho : Own wr w0.heap.size (.slice (some ⟨gq', 0, none⟩) k' co') O') (hl : O'.length = k') : FrS w0 (wr.setCell ⟨bo, 0, none⟩ (.slice (some ⟨gq', 0, none⟩) k' co')) bo bu bc bm bf G gt n P c cg gq' co' k' vF ct O' out many := by
  obtain ⟨⟨a1, a2, a3, a4, a5, a6⟩, ⟨b1, b2, b3, b4, b5⟩, ⟨c1, c2, c3, c4⟩, l1, l2, l3⟩ := d
  have hn' := hn
  obtain ⟨⟨n1, n2, n3, n4, n5, n6, n7⟩, l4⟩ := hn
  have ht := turn_cellF wr ⟨bo, 0, none⟩ (.slice (some ⟨gq', 0, none⟩) k' co')
  exact ⟨⟨q.kp.turn ht (fun i e => by subst e; exact l1), turnG ht q.x1 (fun e => a1 e.symm), turnG ht q.x2 (fun e => a2 e.symm), turnG ht q.x3 (fun e => a3 e.symm), turnG ht q.x4 (fun e => a4 e.symm),
    there_selfF q.t0, there_selfF q.t3, q.ou.turn ht (fun g hg e => a5 (by cases hg; exact e.symm)), q.ic.turn ht (fun ad e _ hb => a6 (by cases e; exact hb.symm)), Nat.lt_of_lt_of_le q.gl ht.size⟩, hn', cell_selfF q.t0, ho.turn ht (fun g hg e => n1 (by cases hg; exact e)), hl⟩
/-- The append: all else lies as it lay. -/
theorem FrS.app (q : FrS w0 wr bo bu bc bm bf G gt n P c cg gq co k vF ct O out many) {gq' : Nat} (ht : Turn (fun i => some gq = some i) wr wr') (h4 : gq' = gq ∨ wr.heap.size ≤ gq') : FrB w0 wr' bo bu bc bm bf G gt n P c cg vF ct out many ∧ FrN w0.heap.size bo bu bc bm bf G gt gq' := by
  obtain ⟨⟨n1, n2, n3, n4, n5, n6, n7⟩, l4⟩ := q.nn
  have e0 := World.block_lt_of_cell? _ _ q.x0
  have e1 := World.block_lt_of_cell? _ _ q.b.x1
  have e2 := World.block_lt_of_cell? _ _ q.b.x2
  have e3 := World.block_lt_of_cell? _ _ q.b.x3
  have e4 := World.block_lt_of_cell? _ _ q.b.x4
  have e5 := (q.b.ou.lt G rfl).2
  have e6 := q.b.gl
  dsimp only at e0 e1 e2 e3 e4
  have hx : ∀ {b}, b ≠ gq → ¬ (fun i => some gq = some i) b := fun h e => h (by cases e; rfl)
  refine ⟨⟨q.b.kp.turn ht (fun i e => by cases e; exact l4), turnG ht q.b.x1 (hx n2.symm), turnG ht q.b.x2 (hx n3.symm), turnG ht q.b.x3 (hx n4.symm), turnG ht q.b.x4 (hx n5.symm), turnT ht q.b.t0 (hx n1.symm), turnT ht q.b.t3 (hx n4.symm), q.b.ou.turn ht (fun g hg e => n6 (by cases hg; cases e; rfl)), q.b.ic.turn ht (fun ad e _ hb => n7 (by cases e; cases hb; rfl)), Nat.lt_of_lt_of_le e6 ht.size⟩, ?_⟩
  rcases h4 with e | e
  · rw [e]; exact q.nn
  · have hl0 := q.b.kp.le
    exact ⟨⟨by omega, by omega, by omega, by omega, by omega, by omega, by omega⟩, by omega⟩
end
end Go.Proofs.YtkaammkanapkmaaGreat

namespace Go.Proofs.YtkaammkanapkmaaGreat
open Go.RowKit Go.Sort

theorem there_someF {w : World} {b : Nat} (h : w.there b 0 1) : ∃ x, w.cell? ⟨b, 0, none⟩ = some x ∧ w.frozen? ⟨b, 0, none⟩ = false := by
  obtain ⟨h1, h2⟩ := h 0 (by omega)
  obtain ⟨x, hx⟩ := Option.isSome_iff_exists.1 h1
  exact ⟨x, hx, h2⟩
theorem own_capF {w : World} {base n c : Nat} {A : Option Addr} {xs : List Int} (h : Own w base (.slice A n c) xs) : n ≤ c := by
  rcases h.2 with ⟨e, h0⟩ | ⟨g, cap, cur, e, hb, hg, h1, _⟩
  · cases e; exact Nat.le_refl _
  · cases e; exact h1
def FrPost (w0 : World) (bo bu bc bm bf G gt n P c cg k : Nat) (vF : Value) (ct : Nat → Int) (O : List Int) (out : Nat → Int) (many : Int) (e : Ending) (w' : World) : Prop :=
  e = .returned (.tuple #[]) ∧ ∃ gq co, FrS w0 w' bo bu bc bm bf G gt n P c cg gq co k vF ct O out many
set_option maxRecDepth 100000 in
set_option maxHeartbeats 4000000 in
theorem frClo (n : Nat) (hn7 : n ≤ 7) (ct : Nat → Int) (hct : ∀ c, 0 ≤ ct c ∧ ct c ≤ 1386) (P : Nat) (hP : P = 2 ^ n) (w0 : World) (bo bu bc bm bf G gt c cg : Nat) (d : FrD w0.heap.size bo bu bc bm bf G gt) :
    ∀ (r k : Nat) (O : List Int) (gq co : Nat) (t0 : Nat → Int) (many : Int) (w : World), k + r = n → Ord n O → Room n r t0 → 0 ≤ many → many + facT r ≤ 6000 →
    FrS w0 w bo bu bc bm bf G gt n P c cg gq co k (.func (.func 38) #[] #[.pointer (some ⟨bo, 0, none⟩), .pointer (some ⟨bu, 0, none⟩), .pointer (some ⟨bc, 0, none⟩), .pointer (some ⟨bm, 0, none⟩), .pointer (some ⟨bf, 0, none⟩)]) ct O t0 many →
    Calls Tryz.prog 38 #[.pointer (some ⟨bo, 0, none⟩), .pointer (some ⟨bu, 0, none⟩), .pointer (some ⟨bc, 0, none⟩), .pointer (some ⟨bm, 0, none⟩), .pointer (some ⟨bf, 0, none⟩)] w
      (FrPost w0 bo bu bc bm bf G gt n P c cg k (.func (.func 38) #[] #[.pointer (some ⟨bo, 0, none⟩), .pointer (some ⟨bu, 0, none⟩), .pointer (some ⟨bc, 0, none⟩), .pointer (some ⟨bm, 0, none⟩), .pointer (some ⟨bf, 0, none⟩)]) ct O (fun j => t0 j + fsT ct n j r O) (many + cnT n r O)) := by
  intro r
  have HCT := Lib.hid hct
  have D := Lib.hid d
  have HP := Lib.hid hP
  clear d hct hP
  induction r with
  | zero =>
    intro k O gq co t0 many w hk hO hr hm0 hm1 q
    obtain rfl : k = n := by omega
    have Q := Lib.hid q
    have x0 := q.x0; have x1 := q.b.x1; have x2 := q.b.x2
    have hP7 : P ≤ 128 := by rw [HP.out]; exact Nat.pow_le_pow_right (by omega) hn7
    have CC := Lib.hid (addMarginal_any ct k hn7 (fun c _ => HCT.out c) P HP.out (some ⟨gt, 0, none⟩) c (some ⟨gq, 0, none⟩) O k co G cg w0.heap.size t0 w q.b.ic (q.oo.intsOf (by rw [q.ol]; omega)) q.ol hO (fun j => by have := hr j; have e : facT 0 = 1 := rfl; rw [e] at this; omega) q.b.ou (fun ad e => by cases e; exact fun h => D.out.g.2.2.2 h.symm) (fun ad e _ => by cases e; exact q.nn.n.2.2.2.2.2.1))
    have Hfs : Hid (amT ct t0 O k = fun j => t0 j + fsT ct k j 0 O) := by
      show _ = _
      funext j
      unfold amT
      show t0 j + mgT ct O j k = t0 j + mgT ct O j O.length
      rw [q.ol]
    clear q hr
    go_enter Tryz.func38, Tryz.ntmps38
    go_wp2_with fail
    with_reducible refine Calls.mono CC.out ?_
    rintro e w1 ⟨rfl, ho1, ht1⟩
    clear CC x0 x1 x2
    rw [Hfs.out] at ho1
    have Q1 := Lib.hid (Q.out.sums D.out ho1 ht1)
    clear ho1 ht1 Q
    have x3 := Q1.out.b.x3
    obtain ⟨_, _, x3f⟩ := there_someF Q1.out.b.t3
    have hw : IntKind.i64.wrap (many + 1) = many + 1 := IntWalk.i64_in _ (by have e : facT 0 = 1 := rfl; rw [e] at hm1; omega)
    have Q2 := Lib.hid (Q1.out.inc D.out (many + 1))
    clear Q1
    go_wp2_with fail
    first
      | go_end0
      | ((try simp only [Exit.inBlock, Exit.then]); refine bodyPost_ret (results_none rfl _ _ _) rfl ?_)
    exact ⟨rfl, gq, co, Q2.out⟩
  | succ r ih =>
    intro k O gq co t0 many w hk hO hr hm0 hm1 q
    have IH := Lib.hid ih
    have Q := Lib.hid q
    have HO := Lib.hid hO
    have HR := Lib.hid hr
    have hcf := callFunc_of Tryz.func38 (by kernel_rfl) (by kernel_rfl)
    have x0 := q.x0; have x1 := q.b.x1
    have hlk : O.length = k := q.ol
    have Hol := Lib.hid hlk
    have hkn : ((k : Int) == (n : Int)) = false := by simp; omega
    have Hfr := Lib.hid (fac_pos r)
    clear q ih hO hr hlk
    go_enter Tryz.func38, Tryz.ntmps38
    go_wp2_with fail
    go_loopw [19] (fun iv wr => ∃ (i gq co : Nat), i ≤ n ∧ iv = .int .i64 i ∧ Hid (FrS w0 wr bo bu bc bm bf G gt n P c cg gq co k (.func (.func 38) #[] #[.pointer (some ⟨bo, 0, none⟩), .pointer (some ⟨bu, 0, none⟩), .pointer (some ⟨bc, 0, none⟩), .pointer (some ⟨bm, 0, none⟩), .pointer (some ⟨bf, 0, none⟩)]) ct O (fun j => t0 j + fsP ct n r O i j) (many + cnP n r O i))) (fun iv _ => n - (intOf iv).toNat)
    case atStart => exact ⟨0, gq, co, by omega, rfl, by
      show FrS _ _ _ _ _ _ _ _ _ _ _ _ _ _ _ _ _ _ _ _ _
      have e1 : (fun j => t0 j + fsP ct n r O 0 j) = t0 := by funext j; show t0 j + 0 = t0 j; omega
      have e2 : many + cnP n r O 0 = many := by show many + 0 = many; omega
      rw [e1, e2]; exact Q.out⟩
    case round =>
      clear Q x0 x1
      obtain ⟨i, gq, co, hi, rfl, Q⟩ := hrel
      have x0 := Q.out.x0
      by_cases hli : i < n
      · have CC := Lib.hid (contains_any (some ⟨gq, 0, none⟩) O k co (i : Int) wr (Q.out.oo.intsOf (by rw [Hol.out]; omega)) Hol.out)
        have hany : (O.any fun x => x == (i : Int)) = decide ((i : Int) ∈ O) := by
          rw [Bool.eq_iff_iff, List.any_eq_true, decide_eq_true_eq]
          exact ⟨fun ⟨x, hx, e⟩ => (eq_of_beq e) ▸ hx, fun h => ⟨_, h, by simp⟩⟩
        rw [hany] at CC
        clear hany
        go_wp2_with fail
        with_reducible refine Calls.mono CC.out ?_
        rintro e w5 ⟨rfl, hw5⟩
        obtain rfl := hw5
        clear CC
        by_cases hin : (i : Int) ∈ O
        · rw [decide_eq_true hin]
          have Q2 := Q
          rw [show (fun j => t0 j + fsP ct n r O i j) = (fun j => t0 j + fsP ct n r O (i + 1) j) from by funext j; rw [fsP_in hin], ← cnP_in hin] at Q2
          clear hin
          go_wp2_with fail
          go_roundw
          case rel => exact ⟨i + 1, gq, co, by omega, by go_num, Q2⟩
          case measure => simp [intOf]; omega
        · rw [decide_eq_false hin]
          have Hin := Lib.hid hin
          clear hin
          have hsz : w0.heap.size ≤ wr.heap.size := Q.out.b.kp.le
          have hOl : O.length < 1048576 := by rw [Hol.out]; omega
          have hoo := Q.out.oo
          go_wp2_with (at_builtin; go_loud (refine wpl_app rfl (.tmp 26) (.tmp 28) rfl w0.heap.size _ O (i : Int) rfl rfl hoo hsz hOl ?_; intro v' w1 ho1 ht1 h41; obtain ⟨gx, cx, rfl⟩ := Own.at0 ho1 (n := k + 1) (by rw [List.length_append, Hol.out]; rfl) (by omega); have P1 := Lib.hid (Q.out.app (gq' := gx) (ht1.mono (fun j hj => hj)) (by rcases h41 with e | e; exact .inl (by cases e; rfl); exact .inr (e gx rfl))); obtain ⟨z0, z1, z2⟩ := there_someF P1.out.1.t0; have Q2 := Lib.hid (P1.out.1.put D.out P1.out.2 ho1 (by rw [List.length_append, Hol.out]; rfl)); have z4 := Q2.out.b.x4))
          clear P1 Q z1 z2 z4 ho1 h41 ht1 hoo x0
          generalize w1.setCell ⟨bo, 0, none⟩ (.slice (some ⟨gx, 0, none⟩) (k + 1) cx) = w2 at *
          have hcn := cnP_eq HO.out (show O.length + (r + 1) = n by rw [Hol.out]; exact hk) i (by omega)
          have ho0 := outP_nn O i
          have hmon := outP_mono O (show i + 1 ≤ n by omega)
          rw [outP_next Hin.out, outP_all HO.out (show O.length + (r + 1) = n by rw [Hol.out]; exact hk)] at hmon
          have hm2 : (outP O i + 1) * facT r ≤ facT (r + 1) := mul_mono hmon (by have := Hfr.out; omega)
          rw [Int.add_mul, Int.one_mul, ← hcn] at hm2
          have hm3 : 0 ≤ cnP n r O i := by rw [hcn]; exact Int.mul_nonneg ho0 (by have := Hfr.out; omega)
          have C3 := Lib.hid (IH.out (k + 1) (O ++ [(i : Int)]) gx cx (fun j => t0 j + fsP ct n r O i j) (many + cnP n r O i) w2 (by omega) (HO.out.snoc hli Hin.out) (HR.out.sub hn7 HCT.out HO.out (by rw [Hol.out]; exact hk) hli Hin.out) (by omega) (by omega) Q2.out)
          rw [show (fun j => t0 j + fsP ct n r O i j + fsT ct n j r (O ++ [(i : Int)])) = (fun j => t0 j + fsP ct n r O (i + 1) j) from by funext j; rw [fsP_out Hin.out]; omega, show many + cnP n r O i + cnT n r (O ++ [(i : Int)]) = many + cnP n r O (i + 1) from by rw [cnP_out Hin.out]; omega] at C3
          clear Q2 hcn ho0 hmon hm2 hm3
          with_reducible refine Calls.mono C3.out ?_
          rintro e w5 ⟨rfl, gy, cy, q5⟩
          clear C3
          have Q5 := Lib.hid q5
          have x0 := q5.x0
          obtain ⟨_, _, x0f⟩ := there_someF q5.b.t0
          have hcap := own_capF q5.oo
          have hcapI : (k : Int) + 1 ≤ (cy : Int) := by omega
          have hw1 : IntKind.i64.wrap ((k : Int) + 1 - 1) = (k : Int) := by rw [IntWalk.i64_in _ (by omega)]; omega
          have Q7 := Lib.hid (q5.b.put D.out q5.nn (own_cutF q5.oo Hol.out) Hol.out)
          clear q5 Q5
          go_wp2_with fail
          go_roundw
          case rel => exact ⟨i + 1, gy, cy, by omega, by go_num, Q7⟩
          case measure => simp [intOf]; omega
      · obtain rfl : i = n := by omega
        have x1 := Q.out.b.x1
        go_wp2_with fail
        first
          | go_end0
          | ((try simp only [Exit.inBlock, Exit.then]); refine bodyPost_ret (results_none rfl _ _ _) rfl ?_)
        exact ⟨rfl, gq, co, Q.out⟩
end Go.Proofs.YtkaammkanapkmaaGreat

namespace Go.Proofs.YtkaammkanapkmaaGreat
open Go.RowKit Go.Sort

section
variable {P : Program} {md : Region.Mode} {ops : Array Oper} {Q : Exit → Act → World → Prop} {S : World → Prop}
theorem unl_ltS {listed : Array Bool} {i : Nat} (h : listed.getD i true = false) : (listed.setIfInBounds i true).toList.count false < listed.toList.count false := by
  obtain ⟨l⟩ := listed
  have hi : i < l.length := by
    rcases Nat.lt_or_ge i l.length with h' | h'
    · exact h'
    · exfalso
      have : (⟨l⟩ : Array Bool).getD i true = true := by
        rw [Array.getD, dif_neg (by simpa using h')]
      rw [this] at h; cases h
  have hv : l[i] = false := by simpa [Array.getD, hi] using h
  have hc : 0 < l.count false := List.count_pos_iff.2 (hv ▸ List.getElem_mem hi)
  simp only [List.setIfInBounds_toArray]
  rw [List.count_set hi]
  simp [hv]
  omega
/-- An invariant of what is listed, of the frame and of the world, kept by each operation that may come up. -/
theorem wpAnyH_invS {I : Array Bool → Act → World → Prop}
    (step : ∀ (i : Nat) (o : Oper) (listed : Array Bool) (a : Act) (w : World), ops[i]? = some o → listed.getD i true = false → (∀ e ∈ o.after, Region.binds md e = true → listed.getD e.on false = true) → I listed a w →
      ∀ K : Act → World → Prop, Shut (∀ a' w', S w' → I (listed.setIfInBounds i true) a' w' → K a' w') → if Region.wanted o (yielded ops a.tmps) = true then Oper.wp P o a w K Q else K (a.put o.dst undef) w)
    (done : ∀ listed a w, Region.ready md ops listed = [] → I listed a w → Q .normal a w) :
    ∀ (fuel : Nat) (listed : Array Bool) (a : Act) (w : World), listed.toList.count false ≤ fuel → I listed a w → wpAnyH P md ops Q S fuel listed a w := by
  intro fuel
  induction fuel with
  | zero =>
    intro listed a w hc hI
    have hr : Region.ready md ops listed = [] := by
      rw [List.eq_nil_iff_forall_not_mem]
      intro i hi
      have := unl_ltS (mem_ready.1 hi).1
      omega
    exact ⟨hr, done _ _ _ hr hI⟩
  | succ fuel ih =>
    intro listed a w hc hI
    refine ⟨fun hr => done _ _ _ hr hI, fun i hi => ?_⟩
    obtain ⟨h0, o, ho, hall⟩ := mem_ready.1 hi
    have hlt := unl_ltS h0
    exact wpOp_step ho (fun K' hK => step i o listed a w ho h0 hall hI K' (fun a' w' hS hI' => hK a' w' ⟨hS, ih _ a' w' (by omega) hI'⟩))
/-- The frame at hand gets a name. -/
theorem wpAnyH_actS {fuel : Nat} {listed : Array Bool} {a : Act} {w : World} (h : ∀ a0, a0 = a → wpAnyH P md ops Q S fuel listed a0 w) : wpAnyH P md ops Q S fuel listed a w := h a rfl
end
/-- a is as a0 but for the slots ds. -/
def SameButS (ds : List Nat) (a0 a : Act) : Prop := a.defers = a0.defers ∧ a.tmps.size = a0.tmps.size ∧ ∀ k, k ∉ ds → a.tmps.getD k undef = a0.tmps.getD k undef
theorem SameButS.refl (ds : List Nat) (a : Act) : SameButS ds a a := ⟨rfl, rfl, fun _ _ => rfl⟩
theorem put_slotS (a : Act) (d k : Nat) (v : Value) : (a.put (some d) v).tmps.getD k undef = if d = k ∧ d < a.tmps.size then v else a.tmps.getD k undef := by
  unfold Act.put
  by_cases h : d = k
  · subst h
    by_cases h2 : d < a.tmps.size
    · simp [h2]
    · simp [h2]
  · simp [h, Array.getElem?_setIfInBounds_ne h]
theorem SameButS.put {ds : List Nat} {a0 a : Act} {d : Nat} {v : Value} (h : SameButS ds a0 a) (hd : d ∈ ds) : SameButS ds a0 (a.put (some d) v) :=
  ⟨h.1, by simpa [Act.put] using h.2.1, fun k hk => by
    have e : d ≠ k := fun e => hk (e ▸ hd)
    rw [put_slotS, if_neg (fun x => e x.1)]; exact h.2.2 k hk⟩
theorem act_extS {a b : Act} (hd : a.defers = b.defers) (hs : a.tmps.size = b.tmps.size) (h : ∀ k, a.tmps.getD k undef = b.tmps.getD k undef) : a = b := by
  obtain ⟨x, _⟩ := a; obtain ⟨y, _⟩ := b
  simp only at hd hs h
  subst hd
  congr 1
  apply Array.ext hs
  intro i h1 h2
  simpa [Array.getD, h1, h2] using h i
/-- The frame anew, out of what its slots hold. -/
theorem SameButS.eq {ds : List Nat} {a0 a : Act} (h : SameButS ds a0 a) (hl : ∀ d ∈ ds, d < a0.tmps.size) : a = ds.foldl (fun b d => b.put (some d) (a.tmps.getD d undef)) a0 := by
  have key : ∀ (l : List Nat) (b : Act), (∀ d ∈ l, d < b.tmps.size) → b.defers = a.defers → b.tmps.size = a.tmps.size → (∀ k, k ∉ l → b.tmps.getD k undef = a.tmps.getD k undef) →
      a = l.foldl (fun b d => b.put (some d) (a.tmps.getD d undef)) b := by
    intro l
    induction l with
    | nil => intro b _ h1 h2 h3; exact act_extS h1.symm h2.symm (fun k => (h3 k (by simp)).symm)
    | cons d l ih =>
      intro b hb h1 h2 h3
      rw [List.foldl_cons]
      have hbs : (b.put (some d) (a.tmps.getD d undef)).tmps.size = b.tmps.size := by simp [Act.put]
      refine ih _ (fun e he => by rw [hbs]; exact hb e (List.mem_cons_of_mem _ he)) h1 (by rw [hbs]; exact h2) (fun k hk => ?_)
      rw [put_slotS]
      split
      · rename_i e; rw [e.1]
      · rename_i e
        refine h3 k (fun hm => ?_)
        rcases List.mem_cons.1 hm with rfl | hm
        · exact e ⟨rfl, hb k (by simp)⟩
        · exact hk hm
  exact key ds a0 hl h.1.symm h.2.1.symm (fun k hk => (h.2.2 k hk).symm)
end Go.Proofs.YtkaammkanapkmaaGreat

namespace Go.Proofs.YtkaammkanapkmaaGreat
open Go.RowKit Go.Sort

def blkW : Value → Nat
  | .slice (some x) _ _ => x.block
  | .pointer (some x) => x.block
  | _ => 0
def onW (listed : Array Bool) (k : Nat) : Prop := listed.getD k false = true
theorem onW_set {listed : Array Bool} {i k : Nat} (h : onW (listed.setIfInBounds i true) k) : k = i ∨ onW listed k := by
  by_cases e : k = i
  · exact .inl e
  · right
    unfold onW at h ⊢
    simpa [Array.getD_eq_getD_getElem?, Array.getElem?_setIfInBounds_ne (Ne.symm e)] using h
theorem onW_mono {listed : Array Bool} {i k : Nat} (h : onW listed k) : onW (listed.setIfInBounds i true) k := by
  unfold onW at h ⊢
  by_cases e : i = k
  · subst e
    have hs : i < listed.size := by
      rcases Nat.lt_or_ge i listed.size with h' | h'
      · exact h'
      · rw [Array.getD_eq_getD_getElem?, Array.getElem?_eq_none h'] at h; cases h
    simp [hs]
  · simpa [Array.getD_eq_getD_getElem?, Array.getElem?_setIfInBounds_ne e] using h
theorem onW_not {listed : Array Bool} {i k : Nat} (h0 : listed.getD i true = false) (h : onW listed k) : k ≠ i := by
  rintro rfl
  unfold onW at h
  rw [Array.getD_eq_getD_getElem?] at h h0
  cases hx : listed[k]? <;> simp [hx] at h h0
  rw [h] at h0; cases h0
def slotW (a : Act) (k : Nat) : Value := a.tmps.getD k undef
theorem slotW_put {a : Act} {d k : Nat} {v : Value} (hd : d < a.tmps.size) : slotW (a.put (some d) v) k = if k = d then v else slotW a k := by
  unfold slotW
  rw [put_slotS]
  by_cases e : d = k
  · subst e; rw [if_pos ⟨rfl, hd⟩, if_pos rfl]
  · rw [if_neg (fun h => e h.1), if_neg (fun h => e h.symm)]
def objW : List (Nat × Nat) := [(1, 14), (5, 18), (6, 5), (7, 6), (8, 7)]
def ptrW : List (Nat × Nat) := [(6, 5), (7, 6), (8, 7)]
structure RJ (wb : World) (n P : Nat) (ct : Nat → Int) (a0 : Act) (listed : Array Bool) (a : Act) (w : World) : Prop where
  sz : listed.size = 12
  took : ∀ k ∈ [0, 2, 3, 4], onW listed k
  same : SameButS [14, 18, 5, 6, 7] a0 a
  kp : Kp wb w
  tab : onW listed 1 → ∃ g c, slotW a 14 = .slice (some ⟨g, 0, none⟩) P c ∧ Own w wb.heap.size (.slice (some ⟨g, 0, none⟩) P c) (mapTo ct P)
  row : onW listed 5 → ∃ g, slotW a 18 = .slice (some ⟨g, 0, none⟩) n n ∧ Own w wb.heap.size (.slice (some ⟨g, 0, none⟩) n n) (List.replicate n 0)
  ptr : ∀ k s, (k, s) ∈ ptrW → onW listed k → ∃ bp, slotW a s = .pointer (some ⟨bp, 0, none⟩) ∧ wb.heap.size ≤ bp ∧ bp < w.heap.size ∧ w.there bp 0 1
  apart : ∀ k s k' s', (k, s) ∈ objW → (k', s') ∈ objW → s ≠ s' → onW listed k → onW listed k' → blkW (slotW a s) ≠ blkW (slotW a s')
  st9 : onW listed 9 → w.cell? ⟨blkW (slotW a 5), 0, none⟩ = some (slotW a 14)
  d9 : onW listed 9 → onW listed 6 ∧ onW listed 1
  st10 : onW listed 10 → w.cell? ⟨blkW (slotW a 6), 0, none⟩ = some (slotW a 18)
  d10 : onW listed 10 → onW listed 7 ∧ onW listed 5
  st11 : onW listed 11 → w.cell? ⟨blkW (slotW a 7), 0, none⟩ = some (.int .i64 0)
  d11 : onW listed 11 → onW listed 8
section
variable {wb : World} {n P : Nat} {ct : Nat → Int} {a0 : Act} {listed : Array Bool} {a : Act} {w w' : World}
theorem RJ.size (h : RJ wb n P ct a0 listed a w) : a.tmps.size = a0.tmps.size := h.same.2.1
theorem RJ.blt (h : RJ wb n P ct a0 listed a w) {k s : Nat} (hm : (k, s) ∈ objW) (ho : onW listed k) : blkW (slotW a s) < w.heap.size := by
  simp only [objW, List.mem_cons, List.not_mem_nil, or_false, Prod.mk.injEq] at hm
  rcases hm with ⟨rfl, rfl⟩ | ⟨rfl, rfl⟩ | hm
  · obtain ⟨g, c, e, o⟩ := h.tab ho
    rw [e]; exact (o.lt g rfl).2
  · obtain ⟨g, e, o⟩ := h.row ho
    rw [e]; exact (o.lt g rfl).2
  · obtain ⟨bp, e, _, h3, _⟩ := h.ptr k s (by simp only [ptrW, List.mem_cons, List.not_mem_nil, or_false, Prod.mk.injEq]; exact hm) ho
    rw [e]; exact h3
theorem objW_slot {k s k' : Nat} (h : (k, s) ∈ objW) (h' : (k', s) ∈ objW) : k = k' := by
  simp only [objW, List.mem_cons, List.not_mem_nil, or_false, Prod.mk.injEq] at h h'
  omega
theorem objW_op {k s s' : Nat} (h : (k, s) ∈ objW) (h' : (k, s') ∈ objW) : s = s' := by
  simp only [objW, List.mem_cons, List.not_mem_nil, or_false, Prod.mk.injEq] at h h'
  omega
theorem ptrW_obj {k s : Nat} (h : (k, s) ∈ ptrW) : (k, s) ∈ objW := by
  simp only [ptrW, List.mem_cons, List.not_mem_nil, or_false, Prod.mk.injEq] at h
  simp only [objW, List.mem_cons, List.not_mem_nil, or_false, Prod.mk.injEq]
  omega
/-- A new object comes up. -/
theorem RJ.new {k s : Nat} {v : Value} (h : RJ wb n P ct a0 listed a w) (hsz : a0.tmps.size = 25) (h0 : listed.getD k true = false) (hm : (k, s) ∈ objW) (hk : Kp w w') (hb : w.heap.size ≤ blkW v)
    (ht : k = 1 → ∃ g c, v = .slice (some ⟨g, 0, none⟩) P c ∧ Own w' wb.heap.size (.slice (some ⟨g, 0, none⟩) P c) (mapTo ct P))
    (hr : k = 5 → ∃ g, v = .slice (some ⟨g, 0, none⟩) n n ∧ Own w' wb.heap.size (.slice (some ⟨g, 0, none⟩) n n) (List.replicate n 0))
    (hp : (k, s) ∈ ptrW → ∃ bp, v = .pointer (some ⟨bp, 0, none⟩) ∧ wb.heap.size ≤ bp ∧ bp < w'.heap.size ∧ w'.there bp 0 1) : RJ wb n P ct a0 (listed.setIfInBounds k true) (a.put (some s) v) w' := by
  have hs25 : s < 25 := by
    simp only [objW, List.mem_cons, List.not_mem_nil, or_false, Prod.mk.injEq] at hm; omega
  have hss : s < a.tmps.size := by rw [h.size, hsz]; exact hs25
  have hk9 : k ≠ 9 ∧ k ≠ 10 ∧ k ≠ 11 := by
    simp only [objW, List.mem_cons, List.not_mem_nil, or_false, Prod.mk.injEq] at hm; omega
  have keep : ∀ s', s' ≠ s → slotW (a.put (some s) v) s' = slotW a s' := fun s' e => by rw [slotW_put hss, if_neg e]
  have kself : slotW (a.put (some s) v) s = v := by rw [slotW_put hss, if_pos rfl]
  have nots : ∀ {k' s'}, (k', s') ∈ objW → onW listed k' → s' ≠ s := fun {k' s'} hm' ho e => by
    subst e
    exact onW_not h0 ho (objW_slot hm' hm)
  have oth : ∀ {k'}, k' ≠ k → onW (listed.setIfInBounds k true) k' → onW listed k' := fun hne ho => (onW_set ho).resolve_left hne
  refine ⟨by simpa using h.sz, fun k' hk' => onW_mono (h.took k' hk'), h.same.put (by
    simp only [objW, List.mem_cons, List.not_mem_nil, or_false, Prod.mk.injEq] at hm
    simp only [List.mem_cons, List.not_mem_nil, or_false]; omega), h.kp.trans hk, ?_, ?_, ?_, ?_, ?_, ?_, ?_, ?_, ?_, ?_⟩
  · intro ho
    by_cases e : 1 = k
    · subst e
      obtain rfl : s = 14 := objW_op hm (by simp [objW])
      obtain ⟨g, c, e1, e2⟩ := ht rfl
      exact ⟨g, c, by rw [kself, e1], e2⟩
    · have ho' := oth e ho
      obtain ⟨g, c, e1, e2⟩ := h.tab ho'
      exact ⟨g, c, by rw [keep 14 (nots (k' := 1) (by simp [objW]) ho')]; exact e1, e2.kp hk⟩
  · intro ho
    by_cases e : 5 = k
    · subst e
      obtain rfl : s = 18 := objW_op hm (by simp [objW])
      obtain ⟨g, e1, e2⟩ := hr rfl
      exact ⟨g, by rw [kself, e1], e2⟩
    · have ho' := oth e ho
      obtain ⟨g, e1, e2⟩ := h.row ho'
      exact ⟨g, by rw [keep 18 (nots (k' := 5) (by simp [objW]) ho')]; exact e1, e2.kp hk⟩
  · intro k' s' hm' ho
    by_cases e : k' = k
    · subst e
      obtain rfl : s' = s := objW_op (ptrW_obj hm') hm
      obtain ⟨bp, e1, e2, e3, e4⟩ := hp hm'
      exact ⟨bp, by rw [kself, e1], e2, e3, e4⟩
    · have ho' := oth e ho
      obtain ⟨bp, e1, e2, e3, e4⟩ := h.ptr k' s' hm' ho'
      exact ⟨bp, by rw [keep s' (nots (ptrW_obj hm') ho')]; exact e1, e2, Nat.lt_of_lt_of_le e3 hk.le, kpT e4 hk⟩
  · intro k1 s1 k2 s2 m1 m2 hne o1 o2
    by_cases e1 : k1 = k
    · subst e1
      obtain rfl : s1 = s := objW_op m1 hm
      by_cases e2 : k2 = k1
      · subst e2; exact absurd (objW_op m1 m2) hne
      · have o2' := oth e2 o2
        rw [kself, keep s2 (Ne.symm hne)]
        have := h.blt m2 o2'
        omega
    · have o1' := oth e1 o1
      by_cases e2 : k2 = k
      · subst e2
        obtain rfl : s2 = s := objW_op m2 hm
        rw [kself, keep s1 hne]
        have := h.blt m1 o1'
        omega
      · have o2' := oth e2 o2
        rw [keep s1 (nots m1 o1'), keep s2 (nots m2 o2')]
        exact h.apart k1 s1 k2 s2 m1 m2 hne o1' o2'
  · intro ho
    have ho' := oth hk9.1.symm ho
    obtain ⟨q1, q2⟩ := h.d9 ho'
    rw [keep 5 (nots (k' := 6) (by simp [objW]) q1), keep 14 (nots (k' := 1) (by simp [objW]) q2)]
    exact hk.get (h.st9 ho')
  · intro ho
    obtain ⟨q1, q2⟩ := h.d9 (oth hk9.1.symm ho)
    exact ⟨onW_mono q1, onW_mono q2⟩
  · intro ho
    have ho' := oth hk9.2.1.symm ho
    obtain ⟨q1, q2⟩ := h.d10 ho'
    rw [keep 6 (nots (k' := 7) (by simp [objW]) q1), keep 18 (nots (k' := 5) (by simp [objW]) q2)]
    exact hk.get (h.st10 ho')
  · intro ho
    obtain ⟨q1, q2⟩ := h.d10 (oth hk9.2.1.symm ho)
    exact ⟨onW_mono q1, onW_mono q2⟩
  · intro ho
    have ho' := oth hk9.2.2.symm ho
    rw [keep 7 (nots (k' := 8) (by simp [objW]) (h.d11 ho'))]
    exact hk.get (h.st11 ho')
  · intro ho
    exact onW_mono (h.d11 (oth hk9.2.2.symm ho))
/-- A variable is stored. -/
theorem RJ.store {q k s bp : Nat} {v : Value} (h : RJ wb n P ct a0 listed a w) (h0 : listed.getD q true = false) (hm : (k, s) ∈ ptrW) (hq : (q = 9 ∧ s = 5 ∧ v = slotW a 14 ∧ onW listed 1) ∨ (q = 10 ∧ s = 6 ∧ v = slotW a 18 ∧ onW listed 5) ∨ (q = 11 ∧ s = 7 ∧ v = .int .i64 0)) (ho : onW listed k) (hbp : slotW a s = .pointer (some ⟨bp, 0, none⟩)) :
    RJ wb n P ct a0 (listed.setIfInBounds q true) a (w.setCell ⟨bp, 0, none⟩ v) := by
  have ht := turn_cellF w ⟨bp, 0, none⟩ v
  obtain ⟨bp', e1, e2, e3, e4⟩ := h.ptr k s hm ho
  rw [hbp] at e1
  obtain rfl : bp = bp' := by simpa using e1
  have hq9 : q = 9 ∨ q = 10 ∨ q = 11 := by omega
  have oth : ∀ {k'}, k' ≠ q → onW (listed.setIfInBounds q true) k' → onW listed k' := fun hne ho => (onW_set ho).resolve_left hne
  have obk : ∀ {k' s'}, (k', s') ∈ objW → k' ≠ q := fun {k' s'} hm' => by
    simp only [objW, List.mem_cons, List.not_mem_nil, or_false, Prod.mk.injEq] at hm'; omega
  have nb : ∀ {k' s'}, (k', s') ∈ objW → s' ≠ s → onW listed k' → blkW (slotW a s') ≠ bp := fun {k' s'} hm' hne ho' => by
    have := h.apart k' s' k s hm' (ptrW_obj hm) hne ho' ho
    rw [hbp] at this
    exact this
  have ns : s ≠ 14 ∧ s ≠ 18 := by
    simp only [ptrW, List.mem_cons, List.not_mem_nil, or_false, Prod.mk.injEq] at hm; omega
  have hks : (s = 5 → k = 6) ∧ (s = 6 → k = 7) ∧ (s = 7 → k = 8) := by
    simp only [ptrW, List.mem_cons, List.not_mem_nil, or_false, Prod.mk.injEq] at hm; omega
  refine ⟨by simpa using h.sz, fun k' hk' => onW_mono (h.took k' hk'), h.same, h.kp.turn ht (fun i e => by subst e; exact e2), ?_, ?_, ?_, ?_, ?_, ?_, ?_, ?_, ?_, ?_⟩
  · intro ho1
    have ho1 := oth (by omega) ho1
    obtain ⟨g, c, q1, q2⟩ := h.tab ho1
    refine ⟨g, c, q1, q2.turn ht (fun j hj e => ?_)⟩
    have := nb (k' := 1) (s' := 14) (by simp [objW]) ns.1.symm ho1
    rw [q1] at this
    cases hj
    exact this e
  · intro ho1
    have ho1 := oth (by omega) ho1
    obtain ⟨g, q1, q2⟩ := h.row ho1
    refine ⟨g, q1, q2.turn ht (fun j hj e => ?_)⟩
    have := nb (k' := 5) (s' := 18) (by simp [objW]) ns.2.symm ho1
    rw [q1] at this
    cases hj
    exact this e
  · intro k' s' hm' ho'
    obtain ⟨b, q1, q2, q3, q4⟩ := h.ptr k' s' hm' (oth (obk (ptrW_obj hm')) ho')
    exact ⟨b, q1, q2, Nat.lt_of_lt_of_le q3 ht.size, there_selfF q4⟩
  · intro k1 s1 k2 s2 m1 m2 hne o1 o2
    exact h.apart k1 s1 k2 s2 m1 m2 hne (oth (obk m1) o1) (oth (obk m2) o2)
  · intro hs9
    by_cases e : 9 = q
    · subst e
      obtain ⟨_, rfl, rfl, _⟩ : (9 = 9 ∧ s = 5 ∧ v = slotW a 14 ∧ onW listed 1) := by
        rcases hq with h1 | ⟨h1, _⟩ | ⟨h1, _⟩
        · exact h1
        · omega
        · omega
      rw [hbp]
      exact cell_selfF e4
    · have h9 := oth e hs9
      have hne : 5 ≠ s := by rintro rfl; rcases hq with ⟨h1, _⟩ | ⟨_, h1, _⟩ | ⟨_, h1, _⟩ <;> omega
      exact turnG ht (h.st9 h9) (nb (k' := 6) (s' := 5) (by simp [objW]) hne (h.d9 h9).1)
  · intro hs9
    by_cases e : 9 = q
    · subst e
      obtain ⟨_, rfl, _, h1⟩ : (9 = 9 ∧ s = 5 ∧ v = slotW a 14 ∧ onW listed 1) := by
        rcases hq with h1 | ⟨h1, _⟩ | ⟨h1, _⟩
        · exact h1
        · omega
        · omega
      exact ⟨onW_mono (hks.1 rfl ▸ ho), onW_mono h1⟩
    · have h9 := h.d9 (oth e hs9)
      exact ⟨onW_mono h9.1, onW_mono h9.2⟩
  · intro hs9
    by_cases e : 10 = q
    · subst e
      obtain ⟨_, rfl, rfl, _⟩ : (10 = 10 ∧ s = 6 ∧ v = slotW a 18 ∧ onW listed 5) := by
        rcases hq with ⟨h1, _⟩ | h1 | ⟨h1, _⟩
        · omega
        · exact h1
        · omega
      rw [hbp]
      exact cell_selfF e4
    · have h9 := oth e hs9
      have hne : 6 ≠ s := by rintro rfl; rcases hq with ⟨_, h1, _⟩ | ⟨h1, _⟩ | ⟨_, h1, _⟩ <;> omega
      exact turnG ht (h.st10 h9) (nb (k' := 7) (s' := 6) (by simp [objW]) hne (h.d10 h9).1)
  · intro hs9
    by_cases e : 10 = q
    · subst e
      obtain ⟨_, rfl, _, h1⟩ : (10 = 10 ∧ s = 6 ∧ v = slotW a 18 ∧ onW listed 5) := by
        rcases hq with ⟨h1, _⟩ | h1 | ⟨h1, _⟩
        · omega
        · exact h1
        · omega
      exact ⟨onW_mono (hks.2.1 rfl ▸ ho), onW_mono h1⟩
    · have h9 := h.d10 (oth e hs9)
      exact ⟨onW_mono h9.1, onW_mono h9.2⟩
  · intro hs9
    by_cases e : 11 = q
    · subst e
      obtain ⟨_, rfl, rfl⟩ : (11 = 11 ∧ s = 7 ∧ v = .int .i64 0) := by
        rcases hq with ⟨h1, _⟩ | ⟨h1, _⟩ | h1
        · omega
        · omega
        · exact h1
      rw [hbp]
      exact cell_selfF e4
    · have h9 := oth e hs9
      have hne : 7 ≠ s := by rintro rfl; rcases hq with ⟨_, h1, _⟩ | ⟨_, h1, _⟩ | ⟨h1, _⟩ <;> omega
      exact turnG ht (h.st11 h9) (nb (k' := 8) (s' := 7) (by simp [objW]) hne (h.d11 h9))
  · intro hs9
    by_cases e : 11 = q
    · subst e
      obtain ⟨_, rfl, _⟩ : (11 = 11 ∧ s = 7 ∧ v = .int .i64 0) := by
        rcases hq with ⟨h1, _⟩ | ⟨h1, _⟩ | h1
        · omega
        · omega
        · exact h1
      exact onW_mono (hks.2.2 rfl ▸ ho)
    · exact onW_mono (h.d11 (oth e hs9))
end
theorem onW_of {listed : Array Bool} {i : Nat} (hs : i < listed.size) (h : ¬ listed.getD i true = false) : onW listed i := by
  unfold onW
  rw [Array.getD_eq_getD_getElem?] at h ⊢
  rw [Array.getElem?_eq_getElem hs] at h ⊢
  simpa using h
theorem there_newW (w : World) (v : Value) (t : TypeId) : (w.alloc (.cells #[v] t)).there w.heap.size 0 1 := fun j hj => by
  obtain rfl : j = 0 := by omega
  constructor
  · rw [World.cell?_alloc_at _ _ _ _ rfl]; rfl
  · simp
theorem ready_nextW {md : Region.Mode} {ops : Array Oper} {listed : Array Bool} {m : Nat} {o : Oper} (hr : Region.ready md ops listed = []) (hs : m < listed.size) (ho : ops[m]? = some o) (ha : o.after.all (fun e => decide (e.on < m)) = true) (hl : ∀ k, k < m → onW listed k) : onW listed m :=
  onW_of hs (fun h0 => by
    have hm : m ∈ Region.ready md ops listed := mem_ready.2 ⟨h0, o, ho, fun e he _ => hl e.on (of_decide_eq_true (Array.all_eq_true_iff_forall_mem.1 ha e he))⟩
    rw [hr] at hm; cases hm)
end Go.Proofs.YtkaammkanapkmaaGreat

namespace Go.Proofs.YtkaammkanapkmaaGreat
open Go.RowKit Go.Sort

section
variable {P : Program}
theorem wp_makeW {op : Oper} {a : Act} {w w' : World} {K : Act → World → Prop} {Q : Exit → Act → World → Prop} (t : TypeId) (l c : Operand) {n : Nat} {v : Value} (ho : op.op = .makeSlice t l c) (hl : a.eval l = .int .i64 (n : Int)) (hc : a.eval c = .int .i64 (n : Int))
    (hrun : (Instr.makeSlice t (.int .i64 (n : Int)) (.int .i64 (n : Int))).run P w = .ok v w') (h : K (a.put op.dst v) w') : op.wp P a w K Q := by
  unfold Oper.wp
  simp [execOp, ho, hl, hc, hrun, Result.andThen]
  exact h
end
/-- What stands behind the first region. -/
structure FrI (wb w : World) (bc bu bm G gt cc n P : Nat) (ct : Nat → Int) : Prop where
  kp : Kp wb w
  lo : wb.heap.size ≤ bc ∧ wb.heap.size ≤ bu ∧ wb.heap.size ≤ bm ∧ wb.heap.size ≤ G ∧ wb.heap.size ≤ gt
  ne : bc ≠ bu ∧ bc ≠ bm ∧ bc ≠ G ∧ bc ≠ gt ∧ bu ≠ bm ∧ bu ≠ G ∧ bu ≠ gt ∧ bm ≠ G ∧ bm ≠ gt ∧ G ≠ gt
  x1 : w.cell? ⟨bu, 0, none⟩ = some (.slice (some ⟨G, 0, none⟩) n n)
  x2 : w.cell? ⟨bc, 0, none⟩ = some (.slice (some ⟨gt, 0, none⟩) P cc)
  x3 : w.cell? ⟨bm, 0, none⟩ = some (.int .i64 0)
  t3 : w.there bm 0 1
  ou : Own w wb.heap.size (.slice (some ⟨G, 0, none⟩) n n) (List.replicate n 0)
  tb : Own w wb.heap.size (.slice (some ⟨gt, 0, none⟩) P cc) (mapTo ct P)
theorem RJ.done {wb w : World} {n P : Nat} {ct : Nat → Int} {a0 a : Act} {listed : Array Bool} (h : RJ wb n P ct a0 listed a w) (hl : ∀ k, k < 12 → onW listed k) : ∃ bc bu bm G gt cc, slotW a 5 = .pointer (some ⟨bc, 0, none⟩) ∧ slotW a 6 = .pointer (some ⟨bu, 0, none⟩) ∧ slotW a 7 = .pointer (some ⟨bm, 0, none⟩) ∧ slotW a 14 = .slice (some ⟨gt, 0, none⟩) P cc ∧ slotW a 18 = .slice (some ⟨G, 0, none⟩) n n ∧ FrI wb w bc bu bm G gt cc n P ct := by
  obtain ⟨gt, cc, e14, o14⟩ := h.tab (hl 1 (by omega))
  obtain ⟨G, e18, o18⟩ := h.row (hl 5 (by omega))
  obtain ⟨bc, e5, l5, _, t5⟩ := h.ptr 6 5 (by simp [ptrW]) (hl 6 (by omega))
  obtain ⟨bu, e6, l6, _, t6⟩ := h.ptr 7 6 (by simp [ptrW]) (hl 7 (by omega))
  obtain ⟨bm, e7, l7, _, t7⟩ := h.ptr 8 7 (by simp [ptrW]) (hl 8 (by omega))
  have a1 := h.apart 6 5 7 6 (by simp [objW]) (by simp [objW]) (by decide) (hl 6 (by omega)) (hl 7 (by omega))
  have a2 := h.apart 6 5 8 7 (by simp [objW]) (by simp [objW]) (by decide) (hl 6 (by omega)) (hl 8 (by omega))
  have a3 := h.apart 6 5 5 18 (by simp [objW]) (by simp [objW]) (by decide) (hl 6 (by omega)) (hl 5 (by omega))
  have a4 := h.apart 6 5 1 14 (by simp [objW]) (by simp [objW]) (by decide) (hl 6 (by omega)) (hl 1 (by omega))
  have a5 := h.apart 7 6 8 7 (by simp [objW]) (by simp [objW]) (by decide) (hl 7 (by omega)) (hl 8 (by omega))
  have a6 := h.apart 7 6 5 18 (by simp [objW]) (by simp [objW]) (by decide) (hl 7 (by omega)) (hl 5 (by omega))
  have a7 := h.apart 7 6 1 14 (by simp [objW]) (by simp [objW]) (by decide) (hl 7 (by omega)) (hl 1 (by omega))
  have a8 := h.apart 8 7 5 18 (by simp [objW]) (by simp [objW]) (by decide) (hl 8 (by omega)) (hl 5 (by omega))
  have a9 := h.apart 8 7 1 14 (by simp [objW]) (by simp [objW]) (by decide) (hl 8 (by omega)) (hl 1 (by omega))
  have a10 := h.apart 5 18 1 14 (by simp [objW]) (by simp [objW]) (by decide) (hl 5 (by omega)) (hl 1 (by omega))
  have x1 := h.st10 (hl 10 (by omega))
  have x2 := h.st9 (hl 9 (by omega))
  have x3 := h.st11 (hl 11 (by omega))
  rw [e5] at a1 a2 a3 a4 x2
  rw [e6] at a1 a5 a6 a7 x1
  rw [e7] at a2 a5 a8 a9 x3
  rw [e18] at a3 a6 a8 a10 x1
  rw [e14] at a4 a7 a9 a10 x2
  exact ⟨bc, bu, bm, G, gt, cc, e5, e6, e7, e14, e18, h.kp, ⟨l5, l6, l7, (o18.lt G rfl).1, (o14.lt gt rfl).1⟩, ⟨a1, a2, a3, a4, a5, a6, a7, a8, a9, a10⟩, x1, x2, x3, t7, o18, o14⟩
end Go.Proofs.YtkaammkanapkmaaGreat

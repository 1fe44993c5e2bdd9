/- FnVotes: the program's field of a tree; FnVotes: the program's field of a tree; while it is put together. No condition. -/
import Derived.Test.YtcccmndkolmboaaQAf
import Derived.Test.YtcccmndkolmboaaQAm
namespace Go.Proofs.Ytcccmndkolmboaa
open Go.RowKit Go.Sort

/-- The first k of the other nodes have their parents before them. -/
def ParTo (ps : List Int) (k : Nat) : Prop := ∀ i, 0 < i → i < k + 1 → 0 ≤ ps.getD i 0 ∧ ps.getD i 0 < i
theorem parTo_all {ps : List Int} {n : Nat} (hn : ps.length = n + 1) (h7 : n + 1 ≤ 7) (h : ParTo ps n) : TreeP ps := ⟨by omega, fun i h0 hi => h i h0 (by omega)⟩
theorem parTo_succ {ps : List Int} {k : Nat} (hk : k + 1 < ps.length) (h : ParTo ps k) (h2 : inB ps[k + 1] 0 k = true) : ParTo ps (k + 1) := fun i h0 hi => by
  by_cases e : i = k + 1
  · subst e
    have := inB_iff.1 h2
    have e2 : ps.getD (k + 1) 0 = ps[k + 1] := by simp [List.getD, hk]
    rw [e2]; omega
  · exact h i h0 (by omega)
set_option maxRecDepth 100000 in
set_option maxHeartbeats 1000000 in
theorem areParents_any (A : Option Addr) (ps : List Int) (n c : Nat) (w : World) (hx : IntsAt w A ps) (hn : ps.length = n) (hc : n ≤ c) :
    Calls Try.prog 29 #[.slice A n c] w fun e w' => ∃ b, e = .returned (.bool b) ∧ (b = true → TreeP ps) ∧ Kp w w' := by
  have CC := Lib.hid (between_any n 1 7 w)
  have Hn := Lib.hid hn
  clear hn
  go_enter Try.func29, Try.ntmps29
  go_wp2_with fail
  with_reducible refine Calls.mono CC.out ?_
  rintro e w1 ⟨rfl, rfl⟩
  clear CC
  cases hb : inB (n : Int) 1 7
  · clear hb
    go_wp2_with fail
    go_ret
    exact ⟨_, rfl, by simp, Kp.refl _⟩
  have hb2 := inB_iff.1 hb
  clear hb
  obtain ⟨N, rfl⟩ : ∃ N, n = N + 1 := ⟨n - 1, by omega⟩
  obtain ⟨ad, rfl, h0⟩ := hx.at_ (show 0 < ps.length by rw [Hn.out]; omega)
  obtain ⟨p0, hp0⟩ : ∃ z, ps[0]'(by rw [Hn.out]; omega) = z := ⟨_, rfl⟩
  rw [hp0] at h0
  have hz : ad.add 0 = ad := by unfold Addr.add; simp
  rw [hz] at h0
  by_cases h1 : p0 = -1
  · subst h1
    by_cases hc1 : c = 1
    · subst hc1
      obtain rfl : N = 0 := by omega
      go_wp2_with fail
      go_loopw [18] (fun iv wr => iv = .int .i64 0 ∧ wr = w) (fun iv _ => 0)
      case atStart => exact ⟨rfl, rfl⟩
      case round =>
        obtain ⟨rfl, rfl⟩ := hrel
        go_wp2_with fail
        go_ret
        exact ⟨_, rfl, fun _ => parTo_all Hn.out (by omega) (fun i h0 hi => by omega), Kp.refl _⟩
    go_wp2_with fail
    go_loopw [18] (fun iv wr => ∃ k : Nat, k ≤ N ∧ iv = .int .i64 k ∧ Hid (ParTo ps k) ∧ Kp w wr) (fun iv _ => N - (intOf iv).toNat)
    case atStart => exact ⟨0, by omega, rfl, (by show ParTo ps 0; exact fun i h0 hi => by omega), Kp.refl _⟩
    case round =>
      obtain ⟨k, hk, rfl, Hp, hkr⟩ := hrel
      by_cases hlt : k < N
      · have lx : k + 1 < ps.length := by rw [Hn.out]; omega
        have hc := (hx.kp hkr).some_ lx
        have hp2 := Lib.hid (fun h => parTo_succ lx Hp.out h)
        obtain ⟨pv, hpv⟩ : ∃ z, ps[k + 1] = z := ⟨_, rfl⟩
        rw [hpv] at hc hp2
        have e1 : ad.add (k + 1) = (Addr.mk ad.block (ad.off + 1 + k) none) := by simp [Addr.add]; omega
        rw [e1] at hc
        have CC := Lib.hid (between_any pv 0 k wr)
        go_wp2_with fail
        with_reducible refine Calls.mono CC.out ?_
        rintro e w2 ⟨rfl, rfl⟩
        clear CC
        cases hb : inB pv 0 k
        · clear hb hp2
          go_wp2_with fail
          go_ret
          exact ⟨_, rfl, by simp, hkr⟩
        · have hp3 := Lib.hid (hp2.out hb)
          clear hb hp2
          go_wp2_with fail
          go_roundw
          case rel => exact ⟨k + 1, by omega, by go_num, hp3, hkr⟩
          case measure => simp [intOf]; omega
      · obtain rfl : k = N := by omega
        go_wp2_with fail
        go_ret
        exact ⟨_, rfl, fun _ => parTo_all Hn.out (by omega) Hp.out, hkr⟩
  · have n1 : (p0 != -1) = true := by simpa using h1
    go_wp2_with fail
    go_ret
    exact ⟨_, rfl, by simp, Kp.refl _⟩
end Go.Proofs.Ytcccmndkolmboaa

namespace Go.Proofs.Ytcccmndkolmboaa
open Go.RowKit Go.Sort

/-- While the field of a tree is put together in the variable of block bf; the result's block is rb. -/
structure TS (w0 wr : World) (rb bf : Nat) (ov dv : Value) (n J : Nat) (B Cp : Nat → Nat) (f : Nat → Nat → Int) : Prop where
  c0 : wr.cell? ⟨bf, 0, none⟩ = some ov
  c1 : wr.cell? ⟨bf, 1, none⟩ = some dv
  th : wr.there bf 0 2
  rt : wr.there rb 0 2
  op : Own wr (rb + 1) ov (List.replicate n 0)
  di : DMat wr (rb + 1) dv J n B Cp f
  nb : ov.ownBlock ≠ some bf ∧ dv.ownBlock ≠ some bf ∧ ∀ j, j < J → B j ≠ bf
  kp : Kp w0 wr
  lo : w0.heap.size ≤ rb ∧ rb < bf
section
variable {w0 wr wr' : World} {rb bf n J : Nat} {ov dv : Value} {B Cp : Nat → Nat} {f : Nat → Nat → Int}
theorem TS.size (h : TS w0 wr rb bf ov dv n J B Cp f) : bf < wr.heap.size := World.block_lt_of_cell? _ _ h.c0
theorem TS.frz (h : TS w0 wr rb bf ov dv n J B Cp f) : wr.frozen? ⟨bf, 1, none⟩ = false := by
  have h1 := (h.th 1 (by omega)).2
  simpa using h1
theorem TS.go (h : TS w0 wr rb bf ov dv n J B Cp f) (hk : Kp wr wr') : TS w0 wr' rb bf ov dv n J B Cp f :=
  ⟨hk.get h.c0, hk.get h.c1, turn_thereD (Turn.of_kp (S := fun _ => False) hk) h.th (fun h => h), turn_thereD (Turn.of_kp (S := fun _ => False) hk) h.rt (fun h => h), h.op.kp hk, h.di.kp hk, h.nb, h.kp.trans hk, h.lo⟩
theorem TS.stay1 {w2 : World} (h : TS w0 wr rb bf ov dv n J B Cp f) (ht : Turn (fun i => dv.ownBlock = some i) wr w2) : w2.cell? ⟨bf, 1, none⟩ = some dv ∧ w2.frozen? ⟨bf, 1, none⟩ = false :=
  ⟨turn_cellD ht h.c1 h.nb.2.1, by rw [turn_frozD ht h.size h.nb.2.1]; exact h.frz⟩
/-- One row more is stored. -/
theorem TS.push {w2 : World} {dv' : Value} {b c : Nat} {g : Nat → Int} (h : TS w0 wr rb bf ov dv n J B Cp f) (ht : Turn (fun i => dv.ownBlock = some i) wr w2)
    (h1 : w2.ownsRow (rb + 1) 24 1 dv' (J + 1) (((List.range J).map fun j => Value.slice (some ⟨B j, 0, none⟩) n (Cp j)) ++ [.slice (some ⟨b, 0, none⟩) n c]))
    (hr : Own wr (rb + 1) (.slice (some ⟨b, 0, none⟩) n c) (mapTo g n)) (hb : ∀ j, j < J → B j ≠ b) (hbf : b ≠ bf) (h42 : dv'.ownBlock = dv.ownBlock ∨ ∀ g, dv'.ownBlock = some g → wr.heap.size ≤ g) :
    TS w0 (w2.setCell ⟨bf, 1, none⟩ dv') rb bf ov dv' n (J + 1) (upd B J b) (upd Cp J c) (upd f J g) := by
  have hl := h.lo
  have hd := h.di.push ht h1 hr hb
  have hsz := h.size
  have ts : Turn (fun i => i = bf) w2 (w2.setCell ⟨bf, 1, none⟩ dv') := ⟨rfl, rfl, rfl, by simp [World.setCell], fun i _ hn => Below.heap_setCell _ _ _ _ hn⟩
  have hob : ¬ dv.ownBlock = some rb := fun e => by have := (h.di.vlt rb e).1; omega
  have t2 := turn_thereD ht h.th h.nb.2.1
  have hz := (t2 1 (by omega)).1
  simp only [Nat.zero_add] at hz
  have hnv : dv'.ownBlock ≠ some bf := by
    rcases h42 with e | e
    · rw [e]; exact h.nb.2.1
    · intro h2; have := e bf h2; omega
  have hnB : ∀ j, j < J + 1 → upd B J b j ≠ bf := fun j hj => by
    by_cases e : j = J
    · rw [e, upd_at]; exact hbf
    · rw [upd_ne e]; exact h.nb.2.2 j (by omega)
  refine ⟨?_, World.cell?_setCell_same' _ _ _ hz, World.there_setCells t2 bf 1 [_], turn_thereD ts (turn_thereD ht h.rt hob) (by omega), ?_, ?_, ⟨h.nb.1, hnv, hnB⟩, ?_, hl⟩
  · rw [World.cell?_setCell_other _ _ _ _ (by intro h; cases h)]
    exact turn_cellD ht h.c0 h.nb.2.1
  · exact (h.op.turn ht (fun k hk hs => own_blocks_ne h.op h.di.hd (by decide) hk hs)).turn ts (fun k hk hs => by subst hs; exact h.nb.1 hk)
  · exact hd.turn ts (fun k hk hs => by subst hs; exact hnv hk) (fun j hj hs => hnB j hj hs)
  · exact (h.kp.turn ht (fun i hi => by have := (h.di.vlt i hi).1; omega)).turn ts (fun i hi => by omega)
/-- The field is handed out. -/
theorem TS.ret (h : TS w0 wr rb bf ov dv n J B Cp f) : (wr.setCells rb 0 [ov, dv]).cell? ⟨rb, 0, none⟩ = some ov ∧ (wr.setCells rb 0 [ov, dv]).cell? ⟨rb, 1, none⟩ = some dv ∧ Own (wr.setCells rb 0 [ov, dv]) (rb + 1) ov (List.replicate n 0) ∧ DMat (wr.setCells rb 0 [ov, dv]) (rb + 1) dv J n B Cp f ∧ Kp w0 (wr.setCells rb 0 [ov, dv]) := by
  have hl := h.lo
  have ts := turn_setCellsD rb [ov, dv] 0 wr
  have hr := World.rangeAt_setCells_same wr rb 0 [ov, dv] h.rt
  exact ⟨hr 0 _ rfl, hr 1 _ rfl, own_low h.op ts (fun i hi => by omega), h.di.low ts (fun i hi => by omega), h.kp.turn ts (fun i hi => by omega)⟩
end
/-- What it is. -/
theorem ts_fld {w : World} {b n J : Nat} {A : Option Addr} {c : Nat} {D : Option Addr} {d : Nat} {B Cp : Nat → Nat} {f : Nat → Nat → Int} (h1 : Own w b (.slice A n c) (List.replicate n 0)) (h2 : DMat w b (.slice D J d) J n B Cp f) (hn : n ≤ 8) (hJ : J ≤ 8) :
    FldAt w (.agg #[.slice A n c, .slice D J d]) ⟨List.replicate n 0, matL J n f⟩ := by
  have := h2.gridP (P := fun _ => True) (by omega) (by omega) (fun _ _ => trivial) (fun _ _ => trivial)
  have hi := h1.intsOf (by simp; omega)
  refine FldP.fld (P := fun _ => True) ⟨A, c, D, d, by simp [matL_len], ⟨hi, fun _ _ => trivial, by simp; omega⟩, this⟩
/-- While a row is written: the first a entries stand. -/
def rowT (g : Nat → Int) (n a : Nat) : List Int := mapTo (fun i => if i < a then g i else 0) n
theorem rowT_len (g : Nat → Int) (n a : Nat) : (rowT g n a).length = n := mapTo_len _ _
theorem rowT_zero (g : Nat → Int) (n : Nat) : rowT g n 0 = List.replicate n 0 := by
  unfold rowT mapTo
  apply List.ext_getElem <;> simp
theorem rowT_all (g : Nat → Int) (n : Nat) : rowT g n n = mapTo g n := by
  unfold rowT mapTo
  refine List.map_congr_left (fun i hi => ?_)
  rw [if_pos (List.mem_range.1 hi)]
theorem rowT_get {g : Nat → Int} {n a : Nat} (h : a < n) : lget (rowT g n a) a = 0 := by
  rw [lget_at (by rw [rowT_len]; exact h)]
  unfold rowT
  rw [mapTo_get h]; simp
theorem rowT_set {g : Nat → Int} {n a : Nat} (h : a < n) : (rowT g n a).set a (g a) = rowT g n (a + 1) := by
  apply List.ext_getElem
  · simp [rowT, mapTo]
  · intro i h1 h2
    rw [List.getElem_set]
    have hi : i < n := by rw [rowT_len] at h2; exact h2
    have e1 : ∀ b (h3 : i < (rowT g n b).length), (rowT g n b)[i] = if i < b then g i else 0 := fun b h3 => mapTo_get hi h3
    rw [e1, e1]
    by_cases e : a = i
    · subst e; simp
    · rw [if_neg e]
      by_cases h3 : i < a
      · rw [if_pos h3, if_pos (by omega)]
      · rw [if_neg h3, if_neg (by omega)]
end Go.Proofs.Ytcccmndkolmboaa

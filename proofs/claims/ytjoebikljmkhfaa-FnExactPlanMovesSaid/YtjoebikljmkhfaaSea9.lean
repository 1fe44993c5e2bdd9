/- Marks in seasons. No condition. -/
import Derived.Test.YtjoebikljmkhfaaSea8
namespace Go.Proofs.Ytjoebikljmkhfaa
open Go.RowKit

def SpanT (w w' : World) (a b : Nat) : Prop := Turn (fun i => a ≤ i ∧ i < b) w w'
set_option maxHeartbeats 1000000 in
theorem markIntSSS_any (g m c lo hi : Nat) (G : Nat → Value) (Lo : Nat → Nat) (rs : List (List (List Int))) (k : Nat) (w : World) (h : Own3 w g lo hi G Lo rs) (hm : rs.length = m) (h1 : k ≤ 8388608) (hm1 : m ≤ 1048576) (hb : ∀ i, i < rs.length → (rs.getD i []).length + rowSum (rs.getD i []) ≤ 1048576) :
    Calls Try.prog 27 #[.slice (some ⟨g, 0, none⟩) m c, .int .i64 (k : Int)] w fun e w' => ∃ q : Nat, e = .returned (.int .i64 (q : Int)) ∧ q ≤ k + m * 1048576 ∧ SpanT w w' (Lo 0) hi := by
  have Hm := Lib.hid hm
  have Hb := Lib.hid hb
  have H := Lib.hid h
  have HM := Lib.hid h.mono
  have hmI : m ≤ 9223372036854775807 := by omega
  clear hm hb h
  go_enter Try.func27, Try.ntmps27
  go_wp2_with fail
  go_loopw [1, 5] (fun kv iv wr => ∃ i q : Nat, i ≤ m ∧ iv = .int .i64 i ∧ kv = .int .i64 (q : Int) ∧ q ≤ k + i * 1048576 ∧ wr.rowIs g 26 rs.length G ∧ Hid (∀ j, i ≤ j → j < rs.length → GIn wr (Lo j) (Lo (j + 1)) (G j) (rs.getD j [])) ∧ SpanT w wr (Lo 0) hi) (fun _ iv _ => m - (intOf iv).toNat)
  case atStart => exact ⟨0, k, by omega, rfl, rfl, by omega, H.out.row, fun j _ hj => H.out.at_ j hj, Turn.refl _ _⟩
  case round =>
    obtain ⟨i, q, hi', rfl, rfl, hq, hrow, HG, ht⟩ := hrel
    have Ht := Lib.hid ht
    clear ht
    by_cases hlt : i < m
    · have lx : i < rs.length := by rw [Hm.out]; exact hlt
      have hc := hrow.cell (i := i) lx
      have had : (⟨g, 0, none⟩ : Addr).add i = ⟨g, i, none⟩ := add0 _ _
      have Hr := Lib.hid hrow
      have Hgi := Lib.hid (HG.out i (Nat.le_refl _) lx)
      have hbi := Hb.out i lx
      have hst := startAt_rows (rs.getD i [])
      have hsum := rowSum_take_le (rs.getD i [])
      have hbd : ∀ j, j ≤ (rs.getD i []).length → (q : Int) + (startAt (fun j => (rs.getD i []).getD j []) j : Int) ≤ 4611686018427387904 := fun j hj => by
        have e1 := hst j hj
        have e2 := hsum j
        omega
      have hl := hst (rs.getD i []).length (Nat.le_refl _)
      have hl2 := hsum (rs.getD i []).length
      have CC := Lib.hid (markIntSS_any (G i) (rs.getD i []).length (fun j => (rs.getD i []).getD j []) (q : Int) (Lo i) (Lo (i + 1)) wr Hgi.out.1 (by omega) (by omega) hbd)
      clear hrow hst hsum hbd
      go_wp2_with fail
      with_reducible refine Calls.mono CC.out ?_
      rintro e w1 ⟨rfl, _, ht1⟩
      have e0 := lo_le HM.out i (Nat.zero_le _) (by omega)
      have e1 := lo_le HM.out (i := i + 1) rs.length (by omega) (Nat.le_refl _)
      have e2 := H.out.top
      have e3 := H.out.lo0
      have R1 := Lib.hid (Hr.out.of_block (w' := w1) (ht1.block g Hr.out.lt (fun h => by have := h.1; omega)))
      have G1 : Hid (∀ j, i + 1 ≤ j → j < rs.length → GIn w1 (Lo j) (Lo (j + 1)) (G j) (rs.getD j [])) := fun j hj hj2 => (HG.out j (by omega) hj2).turn ht1 (fun b b1 b2 b3 => by
        have := lo_le HM.out (i := i + 1) j hj (by omega); have := b3.2; omega)
      have T1 := Lib.hid (show SpanT w w1 (Lo 0) hi from Turn.trans Ht.out (ht1.mono (fun b hb => ⟨by have := hb.1; omega, by have := hb.2; omega⟩)))
      have hqe : ((q : Int) + (startAt (fun j => (rs.getD i []).getD j []) (rs.getD i []).length : Int)) = ((q + startAt (fun j => (rs.getD i []).getD j []) (rs.getD i []).length : Nat) : Int) := by omega
      rw [hqe]
      clear CC ht1 hc
      obtain ⟨q2, hq2⟩ : ∃ x, x = q + startAt (fun j => (rs.getD i []).getD j []) (rs.getD i []).length := ⟨_, rfl⟩
      rw [← hq2]
      have hq3 : q2 ≤ k + (i + 1) * 1048576 := by omega
      clear hqe hl hq2
      go_wp2_with fail
      go_roundw
      case rel => exact ⟨i + 1, q2, by omega, by go_num, rfl, hq3, R1.out, G1, T1.out⟩
      case measure => simp [intOf]; omega
    · obtain rfl : i = m := by omega
      go_wp2_with fail
      go_ret
      exact ⟨q, rfl, hq, Ht.out⟩
set_option maxHeartbeats 1000000 in
theorem markSeason_any (v : Value) (S : Sea) (k : Nat) (base hi : Nat) (w : World) (h : OwnSea w base hi v S) (h1 : k ≤ 1048576) (hb : S.bulk ≤ 1048576) :
    Calls Try.prog 13 #[v, .int .i64 (k : Int)] w fun e w' => ∃ q : Nat, e = .returned (.int .i64 (q : Int)) ∧ q ≤ 2199023255552 ∧ SpanT w w' base hi := by
  obtain ⟨g1, g2, g3, g4, lo, G, Lo, rfl, i1, i2, i3, i4, hg1, hg12, hg23, hg3⟩ := h
  have Hs : Hid (∀ i, i < S.ro.length → (S.ro.getD i []).length + rowSum (S.ro.getD i []) ≤ 1048576) := fun i hi => by
    have := gridSum_mem hi
    unfold Sea.bulk at hb
    have e2 : S.ro.getD i [] = S.ro[i] := by simp [List.getD, hi]
    rw [e2]; omega
  unfold Sea.bulk at hb
  have hk0 := (Kp.refl w).alloc (.cells #[.slice (some ⟨g1, 0, none⟩) S.op.length S.op.length, .slice (some ⟨g2, 0, none⟩) S.cl.length S.cl.length, .slice (some ⟨g3, 0, none⟩) S.ke.length S.ke.length, .slice (some ⟨g4, 0, none⟩) S.ro.length S.ro.length] 31)
  have r0 := row4f w (.slice (some ⟨g1, 0, none⟩) S.op.length S.op.length) (.slice (some ⟨g2, 0, none⟩) S.cl.length S.cl.length) (.slice (some ⟨g3, 0, none⟩) S.ke.length S.ke.length) (.slice (some ⟨g4, 0, none⟩) S.ro.length S.ro.length) 31
  have o1 := Own.of_row (i1.kp hk0) (Nat.le_refl g1) (by omega)
  have l1 := World.rowIs.lt i1; have l2 := World.rowIs.lt i2; have l3 := World.rowIs.lt i3; have l4 := i4.row.lt
  have j2 := i2.kp hk0; have j3 := i3.kp hk0
  have j4 : Own3 _ g4 lo hi G Lo S.ro := ⟨hk0.row i4.row, i4.g0, i4.lo0, i4.mono, i4.top, fun i hi => (i4.at_ i hi).kp hk0⟩
  have e4 := lo_le i4.mono S.ro.length (Nat.zero_le _) (Nat.le_refl _)
  have e5 := i4.top; have e6 := i4.g0; have e7 := i4.lo0
  clear i1 i2 i3 i4
  have J4 := Lib.hid j4
  clear j4
  go_enter Try.func13, Try.ntmps13
  go_wp2_with fail
  generalize w.alloc (.cells #[.slice (some ⟨g1, 0, none⟩) S.op.length S.op.length, .slice (some ⟨g2, 0, none⟩) S.cl.length S.cl.length, .slice (some ⟨g3, 0, none⟩) S.ke.length S.ke.length, .slice (some ⟨g4, 0, none⟩) S.ro.length S.ro.length] 31) = wb at *
  have CC := Lib.hid (markIntS_any _ S.op (k : Int) g1 wb o1 (by omega) (by omega))
  with_reducible refine Calls.mono CC.out ?_
  rintro e w1 ⟨rfl, _, t1⟩
  clear CC o1
  have T1 : Turn (fun i => i = g1) wb w1 := t1.mono (fun i hi => (show g1 = i by simpa [Value.ownBlock] using hi).symm)
  clear t1
  have r1 := r0.of_block (w' := w1) (T1.block _ r0.lt (by omega))
  obtain ⟨_, c1, _, _, _⟩ := at4 r1
  have k2 := j2.of_block (w' := w1) (T1.block _ (World.rowIs.lt j2) (by omega))
  have k3 := j3.of_block (w' := w1) (T1.block _ (World.rowIs.lt j3) (by omega))
  have k4 := Lib.hid (J4.out.turn T1 (fun i a1 a2 a3 => by omega))
  have o2 := Own.of_row (show IntRow w1 g2 S.cl from k2) (Nat.le_refl g2) (by omega)
  clear r0 j2 j3 J4 k2
  go_wp2_with fail
  have CC := Lib.hid (markIntS_any _ S.cl ((k : Int) + (S.op.length : Int)) g2 w1 o2 (by omega) (by omega))
  with_reducible refine Calls.mono CC.out ?_
  rintro e w2 ⟨rfl, _, t2⟩
  clear CC o2 c1
  have T2 : Turn (fun i => i = g2) w1 w2 := t2.mono (fun i hi => (show g2 = i by simpa [Value.ownBlock] using hi).symm)
  clear t2
  have r2 := r1.of_block (w' := w2) (T2.block _ r1.lt (by omega))
  obtain ⟨_, _, c2, _, _⟩ := at4 r2
  have m3 := k3.of_block (w' := w2) (T2.block _ (World.rowIs.lt k3) (by omega))
  have m4 := Lib.hid (k4.out.turn T2 (fun i a1 a2 a3 => by omega))
  have o3 := Own.of_row (show IntRow w2 g3 S.ke from m3) (Nat.le_refl g3) (by omega)
  clear r1 k3 k4 m3
  go_wp2_with fail
  have CC := Lib.hid (markIntS_any _ S.ke ((k : Int) + (S.op.length : Int) + (S.cl.length : Int)) g3 w2 o3 (by omega) (by omega))
  with_reducible refine Calls.mono CC.out ?_
  rintro e w3 ⟨rfl, _, t3⟩
  clear CC o3 c2
  have T3 : Turn (fun i => i = g3) w2 w3 := t3.mono (fun i hi => (show g3 = i by simpa [Value.ownBlock] using hi).symm)
  clear t3
  have r3 := r2.of_block (w' := w3) (T3.block _ r2.lt (by omega))
  obtain ⟨_, _, _, c3, _⟩ := at4 r3
  have n4 := Lib.hid (m4.out.turn T3 (fun i a1 a2 a3 => by omega))
  clear r2 m4
  obtain ⟨kk, hkk⟩ : ∃ kk : Nat, kk = k + S.op.length + S.cl.length + S.ke.length := ⟨_, rfl⟩
  rw [show (k : Int) + (S.op.length : Int) + (S.cl.length : Int) + (S.ke.length : Int) = (kk : Int) from by omega]
  have TT : Turn (fun i => base ≤ i ∧ i < hi) w w3 := (Turn.of_kp hk0).trans (((T1.mono (fun i e => by omega)).trans (T2.mono (fun i e => by omega))).trans (T3.mono (fun i e => by omega)))
  have HT := Lib.hid TT
  have hkk9 : kk ≤ 3145728 := by omega
  have CC := Lib.hid (markIntSSS_any g4 S.ro.length S.ro.length lo hi G Lo S.ro kk w3 n4.out rfl (by omega) (by omega) Hs.out)
  clear T1 T2 T3 TT hkk n4 r3
  go_wp2_with fail
  with_reducible refine Calls.mono CC.out ?_
  rintro e w4 ⟨q, rfl, hq, t4⟩
  clear CC c3
  have HT2 : Hid (SpanT w w4 base hi) := Turn.trans HT.out (Turn.mono t4 (fun i hh => ⟨by have := hh.1; omega, hh.2⟩))
  clear t4
  go_wp2_with fail
  go_ret
  exact ⟨q, rfl, by omega, HT2.out⟩
/-- A slice of slices of the call's own is marked. -/
theorem markGr_any (v : Value) (m : Nat) (rows : List (List Int)) (k : Int) (base : Nat) (wa w : World) (h : OwnGrid wa base v m (fun j => rows.getD j [])) (hm : rows.length = m) (hka : Turn (fun i => i < base) wa w) (hbs : base ≤ wa.heap.size) (h0 : 0 ≤ k) (h1 : k ≤ 2199023255552) (hb : m + rowSum rows ≤ 1048576) :
    Calls Try.prog 14 #[v, .int .i64 k] w fun e w' => ∃ q : Nat, e = .returned (.int .i64 (q : Int)) ∧ SpanT w w' base wa.heap.size := by
  have hst := startAt_rows rows
  have hsum := rowSum_take_le rows
  have hb2 := h.bounded
  obtain ⟨C, r1, r2, r3, r4⟩ := hb2
  have hw : OwnGridB w base wa.heap.size v m (fun j => rows.getD j []) := ⟨C, own_turn r1 hka (fun g hg => by have := (h.lt g hg).1; omega), fun j hj => (r2 j hj).turn hka (fun g hg => by have := ((r2 j hj).lt g hg).1; omega), r3, r4⟩
  obtain ⟨k, rfl⟩ := Int.eq_ofNat_of_zero_le h0
  refine (markIntSS_any v m (fun j => rows.getD j []) (k : Int) base wa.heap.size w hw (by omega) (by omega) (fun j hj => by
    have e1 := hst j (by omega)
    have e2 := hsum j
    omega)).mono ?_
  rintro e w' ⟨rfl, _, ht⟩
  exact ⟨k + startAt (fun j => rows.getD j []) m, by rw [Int.natCast_add], ht⟩
theorem toIntSS_both (B : Option Addr) (rows : List (List Int)) (m c : Nat) (w : World) (hx : GridAt w B rows) (hm : rows.length = m) (hb : m + rowSum rows ≤ 1048576) :
    Calls Try.prog 8 #[.slice B m c] w fun e w' => ∃ A c', e = .returned (.slice A m c') ∧ OwnGrid w' w.heap.size (.slice A m c') m (fun j => rows.getD j []) ∧ GridAt w' A rows ∧ Kp w w' := by
  have hr : ∀ k (h : k < rows.length), rows[k].length ≤ 1048576 := fun k hk => by have := rowSum_mem hk; omega
  refine (toIntSS_any B rows m c w hx hm (by omega) hr).mono ?_
  rintro e w' ⟨v, rfl, ho, hk⟩
  obtain ⟨A, c', rfl, hg⟩ := ho.grid hm (fun _ _ => rfl) (by omega) (fun j hj => by
    have := hr j (by omega)
    have e3 : rows.getD j [] = rows[j] := by simp [List.getD, show j < rows.length by omega]
    rw [e3]; omega)
  exact ⟨A, c', rfl, ho, hg, hk⟩
end Go.Proofs.Ytjoebikljmkhfaa

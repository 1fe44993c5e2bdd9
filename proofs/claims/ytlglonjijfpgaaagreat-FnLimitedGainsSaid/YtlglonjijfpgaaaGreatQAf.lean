/- The products of what a budget leaves, in plain numbers; The program's sum of a list; The service of a set: reference and program; Cells that are kept; The payment and the total of a set: reference and program; l1Put: the reference's walk; l1Put of a nil list, and of any list; what a site adds, as the reference tells it; All sets of some sites in their order: plain words. No condition. -/
import Derived.Test.YtlglonjijfpgaaaGreatQAa
import Derived.IntWalk
import Derived.Test.YtlglonjijfpgaaaGreatQAc
import Derived.Test.YtlglonjijfpgaaaGreatQAd
import Derived.Deep.RegionHeld3
import Derived.WalkLawsBesides
namespace Go.Proofs.YtlglonjijfpgaaaGreat
theorem bern_lo : ∀ (c N : Nat), c ≤ N → (N - c) * N ^ c ≤ N * (N - 1) ^ c
  | 0, N, _ => by simp
  | c + 1, N, h => by
    have ih := bern_lo c N (by omega)
    obtain ⟨a, rfl⟩ : ∃ a, N = a + 1 := ⟨N - 1, by omega⟩
    obtain ⟨d, hd⟩ : ∃ d, a + 1 - c = d + 1 := ⟨a - c, by omega⟩
    have e1 : a + 1 - (c + 1) = d := by omega
    have e2 : a + 1 - 1 = a := by omega
    rw [hd, e2] at ih
    rw [e1, e2, Nat.pow_succ, Nat.pow_succ]
    have h1 : d * (a + 1) ≤ (d + 1) * a := by rw [Nat.mul_add, Nat.add_mul]; omega
    calc d * ((a + 1) ^ c * (a + 1)) = d * (a + 1) * (a + 1) ^ c := by rw [Nat.mul_comm ((a + 1) ^ c), Nat.mul_assoc]
      _ ≤ (d + 1) * a * (a + 1) ^ c := Nat.mul_le_mul_right _ h1
      _ = (d + 1) * (a + 1) ^ c * a := by rw [Nat.mul_assoc, Nat.mul_comm a, ← Nat.mul_assoc]
      _ ≤ (a + 1) * a ^ c * a := Nat.mul_le_mul_right _ ih
      _ = (a + 1) * (a ^ c * a) := by rw [Nat.mul_assoc]
theorem bern_hi : ∀ (c N : Nat), (N + c) * N ^ c ≤ N * (N + 1) ^ c
  | 0, N => by simp
  | c + 1, N => by
    have ih := bern_hi c N
    rw [Nat.pow_succ, Nat.pow_succ]
    have h1 : (N + (c + 1)) * N ≤ (N + c) * (N + 1) := by
      rw [show N + (c + 1) = (N + c) + 1 by omega, Nat.mul_add, Nat.add_mul]; omega
    calc (N + (c + 1)) * (N ^ c * N) = (N + (c + 1)) * N * N ^ c := by rw [Nat.mul_comm (N ^ c), Nat.mul_assoc]
      _ ≤ (N + c) * (N + 1) * N ^ c := Nat.mul_le_mul_right _ h1
      _ = (N + c) * N ^ c * (N + 1) := by rw [Nat.mul_assoc, Nat.mul_comm (N + 1), ← Nat.mul_assoc]
      _ ≤ N * (N + 1) ^ c * (N + 1) := Nat.mul_le_mul_right _ ih
      _ = N * ((N + 1) ^ c * (N + 1)) := by rw [Nat.mul_assoc]
theorem amgm {B M : Nat} (hB : 1 ≤ B) (hM : 1 ≤ M) : (B - 1) ^ B * (M + 1) ^ M ≤ B ^ B * M ^ M := by
  obtain ⟨N, hN⟩ : ∃ N, N = M * B := ⟨_, rfl⟩
  have hN1 : 1 ≤ N := by rw [hN]; exact Nat.mul_le_mul hM hB
  have hMN : M ≤ N := by rw [hN]; exact Nat.le_mul_of_pos_right _ hB
  have a0 := bern_lo M N hMN
  have b0 := bern_hi B N
  have ea : N - M = M * (B - 1) := by rw [hN, Nat.mul_sub, Nat.mul_one]
  have eb : N + B = B * (M + 1) := by rw [hN, Nat.mul_add, Nat.mul_one, Nat.mul_comm]
  have a1 : (B - 1) * N ^ M ≤ B * (N - 1) ^ M := by
    refine Nat.le_of_mul_le_mul_left (c := M) ?_ hM
    have h1 : M * ((B - 1) * N ^ M) = (N - M) * N ^ M := by rw [ea, Nat.mul_assoc]
    have h2 : M * (B * (N - 1) ^ M) = N * (N - 1) ^ M := by rw [hN, Nat.mul_assoc]
    rw [h1, h2]; exact a0
  have b1 : (M + 1) * N ^ B ≤ M * (N + 1) ^ B := by
    refine Nat.le_of_mul_le_mul_left (c := B) ?_ hB
    have h1 : B * ((M + 1) * N ^ B) = (N + B) * N ^ B := by rw [eb, Nat.mul_assoc]
    have h2 : B * (M * (N + 1) ^ B) = N * (N + 1) ^ B := by rw [hN, ← Nat.mul_assoc, Nat.mul_comm B M]
    rw [h1, h2]; exact b0
  have a2 := Nat.pow_le_pow_left a1 B
  have b2 := Nat.pow_le_pow_left b1 M
  rw [Nat.mul_pow, Nat.mul_pow, ← Nat.pow_mul, ← Nat.pow_mul] at a2 b2
  have e1 : B * M = N := by rw [hN, Nat.mul_comm]
  rw [← hN] at a2
  rw [e1] at b2
  have hsq : (N - 1) ^ N * (N + 1) ^ N ≤ N ^ N * N ^ N := by
    rw [← Nat.mul_pow, ← Nat.mul_pow]
    refine Nat.pow_le_pow_left ?_ _
    obtain ⟨a, rfl⟩ : ∃ a, N = a + 1 := ⟨N - 1, by omega⟩
    rw [show a + 1 - 1 = a by omega]
    simp only [Nat.mul_add, Nat.add_mul]
    omega
  have h3 := Nat.mul_le_mul a2 b2
  have hpos : 0 < N ^ N * N ^ N := Nat.mul_pos (Nat.pow_pos hN1) (Nat.pow_pos hN1)
  refine Nat.le_of_mul_le_mul_right (c := N ^ N * N ^ N) ?_ hpos
  calc (B - 1) ^ B * (M + 1) ^ M * (N ^ N * N ^ N) = (B - 1) ^ B * N ^ N * ((M + 1) ^ M * N ^ N) := by
        rw [Nat.mul_mul_mul_comm]
    _ ≤ B ^ B * (N - 1) ^ N * (M ^ M * (N + 1) ^ N) := h3
    _ = B ^ B * M ^ M * ((N - 1) ^ N * (N + 1) ^ N) := by rw [Nat.mul_mul_mul_comm]
    _ ≤ B ^ B * M ^ M * (N ^ N * N ^ N) := Nat.mul_le_mul_left _ hsq
theorem big : 1000 * ((2048 ^ 8) ^ 16) ^ 16 ≤ 368 * ((2049 ^ 8) ^ 16) ^ 16 := by decide +kernel
theorem pw (a x y z : Nat) {M : Nat} (h : M = x * y * z) : a ^ M = ((a ^ x) ^ y) ^ z := by rw [h, Nat.pow_mul, Nat.pow_mul]
theorem euler {B : Nat} (hB : 1 ≤ B) : 1000 * (B - 1) ^ B ≤ 368 * B ^ B := by
  obtain ⟨M, hM⟩ : ∃ M, M = 8 * 16 * 16 := ⟨_, rfl⟩
  have h := amgm (M := M) hB (by omega)
  rw [pw M 8 16 16 hM, pw (M + 1) 8 16 16 hM] at h
  have e1 : M = 2048 := by omega
  rw [e1] at h
  have hb := big
  obtain ⟨p, hp⟩ : ∃ p, p = ((2048 ^ 8) ^ 16) ^ 16 := ⟨_, rfl⟩
  obtain ⟨q, hq⟩ : ∃ q, q = ((2049 ^ 8) ^ 16) ^ 16 := ⟨_, rfl⟩
  have hq0 : 0 < q := by rw [hq]; exact Nat.pow_pos (Nat.pow_pos (Nat.pow_pos (by omega)))
  rw [show 2048 + 1 = 2049 from rfl, ← hp, ← hq] at h
  rw [← hp, ← hq] at hb
  clear hp hq
  generalize (B - 1) ^ B = x at *
  generalize B ^ B = y at *
  refine Nat.le_of_mul_le_mul_right (c := q) ?_ hq0
  calc 1000 * x * q = 1000 * (x * q) := by rw [Nat.mul_assoc]
    _ ≤ 1000 * (y * p) := Nat.mul_le_mul_left _ h
    _ = y * (1000 * p) := by rw [← Nat.mul_assoc, Nat.mul_comm 1000 y, Nat.mul_assoc]
    _ ≤ y * (368 * q) := Nat.mul_le_mul_left _ hb
    _ = 368 * y * q := by rw [← Nat.mul_assoc, Nat.mul_comm y]
/-- The product of what is left falls below 368 parts of 1000 once the costs reach the budget. -/
theorem prod_lo {B : Nat} : ∀ (cs : List Nat), (∀ c ∈ cs, c ≤ B) → (cs.map fun c => B - c).foldr (· * ·) 1 * B ^ cs.sum ≤ B ^ cs.length * (B - 1) ^ cs.sum
  | [], _ => by simp
  | c :: t, h => by
    have ih := prod_lo t (fun x hx => h x (List.mem_cons_of_mem _ hx))
    have h1 := bern_lo c B (h c List.mem_cons_self)
    rw [List.map_cons, List.foldr_cons, List.sum_cons, List.length_cons, Nat.pow_add B c, Nat.pow_add (B - 1) c, Nat.pow_succ]
    generalize (t.map fun c => B - c).foldr (· * ·) 1 = P at *
    calc (B - c) * P * (B ^ c * B ^ t.sum) = (B - c) * B ^ c * (P * B ^ t.sum) := by rw [Nat.mul_mul_mul_comm]
      _ ≤ B * (B - 1) ^ c * (B ^ t.length * (B - 1) ^ t.sum) := Nat.mul_le_mul h1 ih
      _ = B ^ t.length * B * ((B - 1) ^ c * (B - 1) ^ t.sum) := by rw [Nat.mul_mul_mul_comm, Nat.mul_comm B (B ^ t.length)]
theorem prod_share {B : Nat} (hB : 1 ≤ B) (cs : List Nat) (h : ∀ c ∈ cs, c ≤ B) (hs : B ≤ cs.sum) : 1000 * (cs.map fun c => B - c).foldr (· * ·) 1 ≤ 368 * B ^ cs.length := by
  have h1 := prod_lo cs h
  have h2 := euler hB
  generalize (cs.map fun c => B - c).foldr (· * ·) 1 = P at *
  obtain ⟨d, hd⟩ : ∃ d, cs.sum = B + d := ⟨cs.sum - B, by omega⟩
  rw [hd, Nat.pow_add, Nat.pow_add] at h1
  have hp : (B - 1) ^ d ≤ B ^ d := Nat.pow_le_pow_left (by omega) _
  have hpos : 0 < B ^ B * B ^ d := Nat.mul_pos (Nat.pow_pos hB) (Nat.pow_pos hB)
  refine Nat.le_of_mul_le_mul_right (c := B ^ B * B ^ d) ?_ hpos
  calc 1000 * P * (B ^ B * B ^ d) = 1000 * (P * (B ^ B * B ^ d)) := by rw [Nat.mul_assoc]
    _ ≤ 1000 * (B ^ cs.length * ((B - 1) ^ B * (B - 1) ^ d)) := Nat.mul_le_mul_left _ h1
    _ = B ^ cs.length * ((1000 * (B - 1) ^ B) * (B - 1) ^ d) := by rw [Nat.mul_left_comm, Nat.mul_assoc]
    _ ≤ B ^ cs.length * ((368 * B ^ B) * B ^ d) := Nat.mul_le_mul_left _ (Nat.mul_le_mul h2 hp)
    _ = 368 * B ^ cs.length * (B ^ B * B ^ d) := by rw [Nat.mul_assoc 368 (B ^ B), Nat.mul_left_comm, ← Nat.mul_assoc]
end Go.Proofs.YtlglonjijfpgaaaGreat

namespace Go.Proofs.YtlglonjijfpgaaaGreat
open Go.RowKit Go.Sort

end Go.Proofs.YtlglonjijfpgaaaGreat

namespace Go.Proofs.YtlglonjijfpgaaaGreat
open Go.RowKit Go.Sort

/-- The service of a set. -/
def serveF (F : Fld) (T : List Int) : Int := sumTo (fun i => nearF F i T) F.di.length
theorem serveF_bd {F : Fld} (h : goodF F = true) (T : List Int) : 0 ≤ serveF F T ∧ serveF F T ≤ 693 := by
  have h1 := sumTo_bd (g := fun i => nearF F i T) (b := 99) (fun i => nearF_bd h T i) F.di.length
  have h7 := (goodF_iff.1 h).2.2.1
  unfold serveF; omega
theorem mapTo_take (g : Nat → Int) (n k : Nat) (h : k ≤ n) : (mapTo g n).take k = mapTo g k := by
  induction n with
  | zero => obtain rfl : k = 0 := by omega
            rfl
  | succ n ih =>
    by_cases e : k = n + 1
    · subst e; rw [List.take_of_length_le (by rw [mapTo_len]; omega)]
    · rw [mapTo_succ, List.take_append_of_le_length (by rw [mapTo_len]; omega)]
      exact ih (by omega)
theorem mem_mapTo {g : Nat → Int} {x : Int} : ∀ {n : Nat}, x ∈ mapTo g n → ∃ i, i < n ∧ x = g i
  | 0, h => by cases h
  | n + 1, h => by
    rw [mapTo_succ, List.mem_append] at h
    rcases h with h | h
    · obtain ⟨i, hi, e⟩ := mem_mapTo h
      exact ⟨i, by omega, e⟩
    · exact ⟨n, by omega, by simpa using h⟩
end Go.Proofs.YtlglonjijfpgaaaGreat

namespace Go.Proofs.YtlglonjijfpgaaaGreat
open Go.RowKit

theorem keepc1 {wv w' : World} {p : Addr} {a : Value} (h1 : wv.cell? p = some a) (h : Kp wv w') : w'.cell? p = some a ∧ Kp wv w' := ⟨h.get h1, h⟩
theorem keepc2 {wv w' : World} {p q : Addr} {a b : Value} (h1 : wv.cell? p = some a) (h2 : wv.cell? q = some b) (h : Kp wv w') : w'.cell? p = some a ∧ w'.cell? q = some b ∧ Kp wv w' := ⟨h.get h1, h.get h2, h⟩
theorem keepc3 {wv w' : World} {p q r : Addr} {a b c : Value} (h1 : wv.cell? p = some a) (h2 : wv.cell? q = some b) (h3 : wv.cell? r = some c) (h : Kp wv w') : w'.cell? p = some a ∧ w'.cell? q = some b ∧ w'.cell? r = some c ∧ Kp wv w' := ⟨h.get h1, h.get h2, h.get h3, h⟩
theorem keepc4 {wv w' : World} {p q r s : Addr} {a b c d : Value} (h1 : wv.cell? p = some a) (h2 : wv.cell? q = some b) (h3 : wv.cell? r = some c) (h4 : wv.cell? s = some d) (h : Kp wv w') : w'.cell? p = some a ∧ w'.cell? q = some b ∧ w'.cell? r = some c ∧ w'.cell? s = some d ∧ Kp wv w' := ⟨h.get h1, h.get h2, h.get h3, h.get h4, h⟩
theorem keepc5 {wv w' : World} {p q r s t : Addr} {a b c d e : Value} (h1 : wv.cell? p = some a) (h2 : wv.cell? q = some b) (h3 : wv.cell? r = some c) (h4 : wv.cell? s = some d) (h5 : wv.cell? t = some e) (h : Kp wv w') : w'.cell? p = some a ∧ w'.cell? q = some b ∧ w'.cell? r = some c ∧ w'.cell? s = some d ∧ w'.cell? t = some e ∧ Kp wv w' := ⟨h.get h1, h.get h2, h.get h3, h.get h4, h.get h5, h⟩
theorem keepc6 {wv w' : World} {p q r s t u : Addr} {a b c d e f : Value} (h1 : wv.cell? p = some a) (h2 : wv.cell? q = some b) (h3 : wv.cell? r = some c) (h4 : wv.cell? s = some d) (h5 : wv.cell? t = some e) (h6 : wv.cell? u = some f) (h : Kp wv w') : w'.cell? p = some a ∧ w'.cell? q = some b ∧ w'.cell? r = some c ∧ w'.cell? s = some d ∧ w'.cell? t = some e ∧ w'.cell? u = some f ∧ Kp wv w' := ⟨h.get h1, h.get h2, h.get h3, h.get h4, h.get h5, h.get h6, h⟩
theorem keepc7 {wv w' : World} {p0 p1 p2 p3 p4 p5 p6 : Addr} {v0 v1 v2 v3 v4 v5 v6 : Value} (h0 : wv.cell? p0 = some v0) (h1 : wv.cell? p1 = some v1) (h2 : wv.cell? p2 = some v2) (h3 : wv.cell? p3 = some v3) (h4 : wv.cell? p4 = some v4) (h5 : wv.cell? p5 = some v5) (h6 : wv.cell? p6 = some v6) (h : Kp wv w') : w'.cell? p0 = some v0 ∧ w'.cell? p1 = some v1 ∧ w'.cell? p2 = some v2 ∧ w'.cell? p3 = some v3 ∧ w'.cell? p4 = some v4 ∧ w'.cell? p5 = some v5 ∧ w'.cell? p6 = some v6 ∧ Kp wv w' := ⟨h.get h0, h.get h1, h.get h2, h.get h3, h.get h4, h.get h5, h.get h6, h⟩
theorem keepc8 {wv w' : World} {p0 p1 p2 p3 p4 p5 p6 p7 : Addr} {v0 v1 v2 v3 v4 v5 v6 v7 : Value} (h0 : wv.cell? p0 = some v0) (h1 : wv.cell? p1 = some v1) (h2 : wv.cell? p2 = some v2) (h3 : wv.cell? p3 = some v3) (h4 : wv.cell? p4 = some v4) (h5 : wv.cell? p5 = some v5) (h6 : wv.cell? p6 = some v6) (h7 : wv.cell? p7 = some v7) (h : Kp wv w') : w'.cell? p0 = some v0 ∧ w'.cell? p1 = some v1 ∧ w'.cell? p2 = some v2 ∧ w'.cell? p3 = some v3 ∧ w'.cell? p4 = some v4 ∧ w'.cell? p5 = some v5 ∧ w'.cell? p6 = some v6 ∧ w'.cell? p7 = some v7 ∧ Kp wv w' := ⟨h.get h0, h.get h1, h.get h2, h.get h3, h.get h4, h.get h5, h.get h6, h.get h7, h⟩
theorem keepc9 {wv w' : World} {p0 p1 p2 p3 p4 p5 p6 p7 p8 : Addr} {v0 v1 v2 v3 v4 v5 v6 v7 v8 : Value} (h0 : wv.cell? p0 = some v0) (h1 : wv.cell? p1 = some v1) (h2 : wv.cell? p2 = some v2) (h3 : wv.cell? p3 = some v3) (h4 : wv.cell? p4 = some v4) (h5 : wv.cell? p5 = some v5) (h6 : wv.cell? p6 = some v6) (h7 : wv.cell? p7 = some v7) (h8 : wv.cell? p8 = some v8) (h : Kp wv w') : w'.cell? p0 = some v0 ∧ w'.cell? p1 = some v1 ∧ w'.cell? p2 = some v2 ∧ w'.cell? p3 = some v3 ∧ w'.cell? p4 = some v4 ∧ w'.cell? p5 = some v5 ∧ w'.cell? p6 = some v6 ∧ w'.cell? p7 = some v7 ∧ w'.cell? p8 = some v8 ∧ Kp wv w' := ⟨h.get h0, h.get h1, h.get h2, h.get h3, h.get h4, h.get h5, h.get h6, h.get h7, h.get h8, h⟩
theorem keepc10 {wv w' : World} {p0 p1 p2 p3 p4 p5 p6 p7 p8 p9 : Addr} {v0 v1 v2 v3 v4 v5 v6 v7 v8 v9 : Value} (h0 : wv.cell? p0 = some v0) (h1 : wv.cell? p1 = some v1) (h2 : wv.cell? p2 = some v2) (h3 : wv.cell? p3 = some v3) (h4 : wv.cell? p4 = some v4) (h5 : wv.cell? p5 = some v5) (h6 : wv.cell? p6 = some v6) (h7 : wv.cell? p7 = some v7) (h8 : wv.cell? p8 = some v8) (h9 : wv.cell? p9 = some v9) (h : Kp wv w') : w'.cell? p0 = some v0 ∧ w'.cell? p1 = some v1 ∧ w'.cell? p2 = some v2 ∧ w'.cell? p3 = some v3 ∧ w'.cell? p4 = some v4 ∧ w'.cell? p5 = some v5 ∧ w'.cell? p6 = some v6 ∧ w'.cell? p7 = some v7 ∧ w'.cell? p8 = some v8 ∧ w'.cell? p9 = some v9 ∧ Kp wv w' := ⟨h.get h0, h.get h1, h.get h2, h.get h3, h.get h4, h.get h5, h.get h6, h.get h7, h.get h8, h.get h9, h⟩
end Go.Proofs.YtlglonjijfpgaaaGreat

namespace Go.Proofs.YtlglonjijfpgaaaGreat
open Go.RowKit Go.Sort

def opAt (F : Fld) (a : Int) : Int := F.op.getD a.toNat 0
def payTo (F : Fld) (S : List Int) (k : Nat) : Int := ((S.take k).map (opAt F)).sum
def payF (F : Fld) (S : List Int) : Int := (S.map (opAt F)).sum
theorem payTo_succ {F : Fld} {S : List Int} {k : Nat} (hk : k < S.length) : payTo F S (k + 1) = payTo F S k + opAt F S[k] := by
  unfold payTo
  rw [List.take_succ_eq_append_getElem hk, List.map_append, List.sum_append]; simp
theorem payTo_all {F : Fld} {S : List Int} {k : Nat} (hk : S.length ≤ k) : payTo F S k = payF F S := by
  unfold payTo payF
  rw [List.take_of_length_le hk]
theorem opAt_bd {F : Fld} (h : goodF F = true) (a : Int) : 0 ≤ opAt F a ∧ opAt F a ≤ 99 := by
  unfold opAt
  by_cases hk : a.toNat < F.op.length
  · have e : F.op.getD a.toNat 0 = F.op[a.toNat] := by simp [List.getD, hk]
    rw [e]; exact (goodF_iff.1 h).2.1 _ (List.getElem_mem hk)
  · rw [List.getD_eq_getElem?_getD, List.getElem?_eq_none (by omega)]; simp
theorem payTo_bd {F : Fld} (h : goodF F = true) (S : List Int) : ∀ k, k ≤ S.length → 0 ≤ payTo F S k ∧ payTo F S k ≤ k * 99
  | 0, _ => by simp [payTo]
  | k + 1, hk => by
    have h1 := payTo_bd h S k (by omega)
    have h2 := opAt_bd h (S[k]'(by omega))
    rw [payTo_succ (by omega)]; omega
theorem set_len {F : Fld} {S : List Int} (h : setB F S = true) : S.length ≤ F.op.length := by
  have hr := ris_iff.1 h
  have hm := set_mem h
  have := bitsL_len F.op.length (bagN S)
  rwa [set_bits h] at this
theorem payF_bd {F : Fld} (h : goodF F = true) {S : List Int} (hs : setB F S = true) : 0 ≤ payF F S ∧ payF F S ≤ 693 := by
  have h1 := payTo_bd h S S.length (Nat.le_refl _)
  rw [payTo_all (Nat.le_refl _)] at h1
  have := set_len hs
  have := (goodF_iff.1 h).1.2
  omega
theorem opCell {w : World} {ad : Addr} {F : Fld} {a : Int} (h : IntsAt w (some ad) F.op) (h0 : 0 ≤ a) (h1 : a < F.op.length) : w.cell? (ad.add a.toNat) = some (.int .i64 (opAt F a)) := by
  have hk : a.toNat < F.op.length := by omega
  rw [h.some_ hk]
  simp [opAt, List.getD, hk]
set_option maxRecDepth 100000 in
set_option maxHeartbeats 400000 in
theorem payment_any (f : Value) (F : Fld) (A0 : Option Addr) (S : List Int) (n c0 : Nat) (w : World) (hf : FldAt w f F) (hS : IntsAt w A0 S) (hn : S.length = n) (hg : goodF F = true) (hs : setB F S = true) :
    Calls Tryz.prog 57 #[f, .slice A0 n c0] w fun e w' => e = .returned (.int .i64 (payF F S)) ∧ Kp w w' := by
  have hl1 : 0 < F.op.length := by have := (goodF_iff.1 hg).1.1; omega
  have h7 := (goodF_iff.1 hg).1.2
  obtain ⟨A, c, B, d, rfl, hA, hB⟩ := hf
  obtain ⟨od, rfl, _⟩ := hA.at_ (k := 0) hl1
  have hk0 : Kp w (w.alloc (.cells #[.slice (some od) F.op.length c, .slice B F.di.length d] 27)) := (Kp.refl w).alloc _
  obtain ⟨d0, d1⟩ := box2 w (.slice (some od) F.op.length c) (.slice B F.di.length d) 27
  replace hA := hA.kp hk0
  replace hS := hS.kp hk0
  have hm : n ≤ 9223372036854775807 := hn ▸ hS.1
  have hn7 : n ≤ 7 := by have := set_len hs; omega
  have Hn := Lib.hid hn; clear hn
  have Hm := Lib.hid (set_mem hs)
  have HG := Lib.hid hg
  have HB := Lib.hid (fun k (hk : k ≤ S.length) => payTo_bd hg S k hk)
  clear hs hg hB
  go_enter Tryz.func57, Tryz.ntmps57
  go_wp2_with fail
  generalize w.alloc (.cells #[.slice (some od) F.op.length c, .slice B F.di.length d] 27) = wb at *
  go_loopw [5, 10] (fun sv iv wr => ∃ k : Nat, k ≤ n ∧ iv = .int .i64 k ∧ sv = .int .i64 (payTo F S k) ∧ Dr wb wr) (fun _ iv _ => n - (intOf iv).toNat)
  case atStart => exact ⟨0, by omega, rfl, rfl, Dr.refl _⟩
  case round =>
    obtain ⟨k, hk, rfl, rfl, hdr⟩ := hrel
    have e0 := hdr.kp.get d0
    by_cases hlt : k < n
    · have lx : k < S.length := by rw [Hn.out]; exact hlt
      obtain ⟨sd, rfl, hck⟩ := (hS.kp hdr.kp).at_ lx
      obtain ⟨ha0, ha1⟩ := Hm.out _ (List.getElem_mem lx)
      have hoc := opCell (hA.kp hdr.kp) ha0 ha1
      have hsu := Lib.hid (payTo_succ (F := F) lx)
      obtain ⟨b1, b2⟩ := HB.out k (Nat.le_of_lt lx)
      obtain ⟨b3, b4⟩ := opAt_bd HG.out S[k]
      go_wp2_with fail
      go_roundw
      case rel => exact ⟨k + 1, by omega, by go_num, by rw [hsu.out] <;> go_num, hdr⟩
      case measure => simp [intOf]; omega
    · go_wp2_with fail
      go_ret
      exact ⟨ret_int (by rw [payTo_all (by rw [Hn.out]; omega)]), hk0.trans hdr.kp⟩
set_option maxRecDepth 100000 in
set_option maxHeartbeats 400000 in
theorem l2Pay_any (f : Value) (F : Fld) (A0 : Option Addr) (S : List Int) (n c0 : Nat) (w : World) (hf : FldAt w f F) (hS : IntsAt w A0 S) (hn : S.length = n) (hg : goodF F = true) (hs : setB F S = true) :
    Calls Tryz.prog 54 #[f, .slice A0 n c0] w fun e w' => e = .returned (.int .i64 (payF F S)) ∧ Kp w w' := by
  have hl1 : 0 < F.op.length := by have := (goodF_iff.1 hg).1.1; omega
  have h7 := (goodF_iff.1 hg).1.2
  obtain ⟨A, c, B, d, rfl, hA, hB⟩ := hf
  obtain ⟨od, rfl, _⟩ := hA.at_ (k := 0) hl1
  have hk0 : Kp w (w.alloc (.cells #[.slice (some od) F.op.length c, .slice B F.di.length d] 27)) := (Kp.refl w).alloc _
  obtain ⟨d0, d1⟩ := box2 w (.slice (some od) F.op.length c) (.slice B F.di.length d) 27
  replace hA := hA.kp hk0
  replace hS := hS.kp hk0
  have hm : n ≤ 9223372036854775807 := hn ▸ hS.1
  have hn7 : n ≤ 7 := by have := set_len hs; omega
  have Hn := Lib.hid hn; clear hn
  have Hm := Lib.hid (set_mem hs)
  have HG := Lib.hid hg
  have HB := Lib.hid (fun k (hk : k ≤ S.length) => payTo_bd hg S k hk)
  clear hs hg hB
  go_enter Tryz.func54, Tryz.ntmps54
  go_wp2_with fail
  generalize w.alloc (.cells #[.slice (some od) F.op.length c, .slice B F.di.length d] 27) = wb at *
  go_loopw [5, 6] (fun sv iv wr => ∃ k : Nat, k ≤ n ∧ iv = .int .i64 k ∧ sv = .int .i64 (payTo F S k) ∧ Dr wb wr) (fun _ iv _ => n - (intOf iv).toNat)
  case atStart => exact ⟨0, by omega, rfl, rfl, Dr.refl _⟩
  case round =>
    obtain ⟨k, hk, rfl, rfl, hdr⟩ := hrel
    have e0 := hdr.kp.get d0
    by_cases hlt : k < n
    · have lx : k < S.length := by rw [Hn.out]; exact hlt
      obtain ⟨sd, rfl, hck⟩ := (hS.kp hdr.kp).at_ lx
      obtain ⟨ha0, ha1⟩ := Hm.out _ (List.getElem_mem lx)
      have hoc := opCell (hA.kp hdr.kp) ha0 ha1
      have hsu := Lib.hid (payTo_succ (F := F) lx)
      obtain ⟨b1, b2⟩ := HB.out k (Nat.le_of_lt lx)
      obtain ⟨b3, b4⟩ := opAt_bd HG.out S[k]
      go_wp2_with fail
      go_quiet (fail)
      go_wp2_with fail
      go_roundw
      case rel => exact ⟨k + 1, by omega, by go_num, by rw [hsu.out] <;> go_num, hdr.drewN nq⟩
      case measure => simp [intOf]; omega
    · go_wp2_with fail
      go_ret
      exact ⟨ret_int (by rw [payTo_all (by rw [Hn.out]; omega)]), hk0.trans hdr.kp⟩
def totF (F : Fld) (S : List Int) : Int := serveF F S + payF F S
end Go.Proofs.YtlglonjijfpgaaaGreat

namespace Go.Proofs.YtlglonjijfpgaaaGreat
open Go.RowKit Go.Sort

theorem IntsAt.take {w : World} {ad : Addr} {xs : List Int} (h : IntsAt w (some ad) xs) (k : Nat) : IntsAt w (some ad) (xs.take k) :=
  ⟨Nat.le_trans (by simp; omega) h.1, fun j hj => by
    have h1 : j < xs.length := by simp at hj; omega
    refine ⟨ad, rfl, ?_⟩
    rw [h.some_ h1]
    have h2 : j < k := by simp at hj; omega
    simp [List.getD, h1, h2, List.getElem?_take]⟩
theorem IntsAt.drop {w : World} {ad : Addr} {xs : List Int} (h : IntsAt w (some ad) xs) (k : Nat) : IntsAt w (some (ad.add k)) (xs.drop k) :=
  ⟨Nat.le_trans (by simp) h.1, fun j hj => by
    have h1 : k + j < xs.length := by simp at hj; omega
    refine ⟨ad.add k, rfl, ?_⟩
    have := h.some_ h1
    have e : (ad.add k).add j = ad.add (k + j) := by
      unfold Addr.add
      by_cases hk : k = 0 <;> by_cases hj0 : j = 0 <;> simp [hk, hj0, Nat.add_assoc]
    rw [e, this]
    simp [List.getD, h1]⟩
theorem Own.cap {w : World} {base n c : Nat} {v : Value} {A : Option Addr} {xs : List Int} (h : Own w base v xs) (e : v = .slice A n c) : xs.length ≤ c := by
  rcases h.2 with ⟨rfl, h0⟩ | ⟨g, cap, cur, rfl, _, _, h4, _⟩
  · omega
  · simp only [Value.slice.injEq] at e
    omega
theorem IntsAt.tail {w : World} {ad : Addr} {xs : List Int} {c : Nat} (h : IntsAt w (some ad) xs) (hc : xs.length ≤ c) (k : Nat) : IntsAt w (if c = k then some ad else some (ad.add k)) (xs.drop k) := by
  by_cases e : c = k
  · rw [if_pos e, List.drop_eq_nil_of_le (by omega)]; exact IntsAt.nil _ _
  · rw [if_neg e]; exact h.drop k
theorem own_ab (w : World) (a : Int) : Own ((w.alloc (.cells #[] 3)).alloc (.cells #[.int .i64 a] 3)) w.heap.size (.slice (some ⟨w.heap.size, 0, none⟩) 0 0) [] :=
  (own_new0 w _ (Nat.le_refl _)).kp ((Kp.refl _).alloc _)
theorem own_ba (w : World) (a : Int) : Own ((w.alloc (.cells #[.int .i64 a] 3)).alloc (.cells #[] 3)) w.heap.size (.slice (some ⟨w.heap.size + 1, 0, none⟩) 0 0) [] := by
  have := own_new0 (w.alloc (.cells #[.int .i64 a] 3)) w.heap.size (by simp)
  simpa using this
theorem Own.drew {w : World} {base : Nat} {v : Value} {xs : List Int} (h : Own w base v xs) : Own w.drew base v xs := h.kp (Kp.refl w).drew
theorem one_ab (w : World) (a : Int) : IntsAt ((w.alloc (.cells #[] 3)).alloc (.cells #[.int .i64 a] 3)) (some ⟨w.heap.size + 1, 0, none⟩) [a] := by
  have := one_new (w.alloc (.cells #[] 3)) a
  simpa using this
theorem one_ba (w : World) (a : Int) : IntsAt ((w.alloc (.cells #[.int .i64 a] 3)).alloc (.cells #[] 3)) (some ⟨w.heap.size, 0, none⟩) [a] :=
  (one_new w a).kp ((Kp.refl _).alloc _)
set_option maxRecDepth 100000 in
set_option maxHeartbeats 2000000 in
theorem l1Put_some (ad : Addr) (S : List Int) (n c0 : Nat) (a : Int) (w : World) (hS : IntsAt w (some ad) S) (hn : S.length = n) (hs : S.Pairwise (· < ·)) (hc : n ≤ c0) (hb : n < 1048576) :
    Calls Tryz.prog 31 #[.slice (some ad) n c0, .int .i64 a] w fun e w' => ∃ v, e = .returned v ∧ ((a ∈ S ∧ v = .slice (some ad) n c0) ∨ Own w' w.heap.size v (putL S a)) ∧ Kp w w' := by
  have hm : n ≤ 9223372036854775807 := hn ▸ hS.1
  have hnc : S.length ≤ c0 := by omega
  have Hn := Lib.hid hn; clear hn
  have Hs := Lib.hid hs; clear hs
  go_enter Tryz.func31, Tryz.ntmps31
  go_wp2_with fail
  go_loop [5] (fun iv => ∃ k : Nat, k ≤ n ∧ iv = .int .i64 k ∧ Hid (∀ x ∈ S.take k, x < a)) (fun iv => n - (intOf iv).toNat)
  case atStart => exact ⟨0, by omega, rfl, by show ∀ x ∈ S.take 0, x < a; simp⟩
  case round =>
    obtain ⟨k, hk, rfl, Hp⟩ := hrel
    have hkc : k ≤ c0 := by omega
    by_cases hlt : k < n
    · have lx : k < S.length := by rw [Hn.out]; exact hlt
      have hck := hS.some_ lx
      by_cases h1 : S[k] < a
      · go_wp2_with fail
        go_round
        case rel =>
          refine ⟨k + 1, by omega, by go_num, ?_⟩
          show ∀ x ∈ S.take (k + 1), x < a
          intro x hx
          rw [List.take_succ_eq_append_getElem lx, List.mem_append] at hx
          rcases hx with hx | hx
          · exact Hp.out x hx
          · have : x = S[k] := by simpa using hx
            omega
        case measure => simp [intOf]; omega
      · by_cases h2 : S[k] = a
        · have hin : Hid (a ∈ S) := h2 ▸ List.getElem_mem lx
          go_wp2_with fail
          go_ret
          exact ⟨_, rfl, .inl ⟨hin.out, rfl⟩, Kp.refl _⟩
        · have hlk : (S.take k).length = k := by rw [List.length_take, Hn.out]; omega
          have hld : (S.drop k).length = n - k := by rw [List.length_drop, Hn.out]
          have hl1 : ([] : List Int).length + (S.take k).length ≤ 4194304 := by rw [hlk]; simp; omega
          have hl2 : (([] : List Int) ++ S.take k).length + [a].length ≤ 4194304 := by rw [List.length_append, hlk]; simp; omega
          have hl3 : (([] : List Int) ++ S.take k).length < 1048576 := by rw [List.length_append, hlk]; simp; omega
          have hl4 : (([] : List Int) ++ S.take k ++ [a]).length + (S.drop k).length ≤ 4194304 := by rw [List.length_append, List.length_append, hlk, hld]; simp; omega
          have hput := Lib.hid (put_at Hs.out Hp.out (fun _ => by omega))
          have hA := Lib.hid ((own_new0 w _ (Nat.le_refl _)).drew)
          have hAB := Lib.hid ((own_ab w a).drew)
          have hBA := Lib.hid ((own_ba w a).drew)
          go_wp2_with fail
          go_region_held3 (fun w' => Kp w w')
            (first | exact (by repeat (first | with_reducible assumption | with_reducible exact Kp.refl _ | with_reducible refine Kp.drew ?_ | with_reducible refine Kp.alloc ?_ _ | with_reducible refine Kp.drewN ?_ _ | refine Kp.setCell ?_ (by dsimp only; omega) _)) | exact hkA | exact hkA.alloc _ | exact hkB | exact hkC)
            (first
              | (refine step_app_all (by rfl) (.tmp 33) (.tmp 36) (by rfl) w.heap.size _ [] (S.take k) (some ad) k c0 (by rfl) (by rfl) hA.out ((hS.take k).kp (by repeat (first | with_reducible assumption | with_reducible exact Kp.refl _ | with_reducible refine Kp.drew ?_ | with_reducible refine Kp.alloc ?_ _ | with_reducible refine Kp.drewN ?_ _ | refine Kp.setCell ?_ (by dsimp only; omega) _))) hlk (by simp) hl1 ?_; intro v1 w1 ho1 ht1 h41; have hkA : Kp w w1 := hA.out.kp_turn (by repeat (first | with_reducible assumption | with_reducible exact Kp.refl _ | with_reducible refine Kp.drew ?_ | with_reducible refine Kp.alloc ?_ _ | with_reducible refine Kp.drewN ?_ _ | refine Kp.setCell ?_ (by dsimp only; omega) _)) (Nat.le_refl _) ht1)
              | (refine step_app_all (by rfl) (.tmp 33) (.tmp 36) (by rfl) w.heap.size _ [] (S.take k) (some ad) k c0 (by rfl) (by rfl) hAB.out ((hS.take k).kp (by repeat (first | with_reducible assumption | with_reducible exact Kp.refl _ | with_reducible refine Kp.drew ?_ | with_reducible refine Kp.alloc ?_ _ | with_reducible refine Kp.drewN ?_ _ | refine Kp.setCell ?_ (by dsimp only; omega) _))) hlk (by simp; omega) hl1 ?_; intro v1 w1 ho1 ht1 h41; have hkA : Kp w w1 := hAB.out.kp_turn (by repeat (first | with_reducible assumption | with_reducible exact Kp.refl _ | with_reducible refine Kp.drew ?_ | with_reducible refine Kp.alloc ?_ _ | with_reducible refine Kp.drewN ?_ _ | refine Kp.setCell ?_ (by dsimp only; omega) _)) (Nat.le_refl _) ht1; have h1n := one_turn (g := w.heap.size + 1) ((one_ab w a).kp (Kp.refl _).drew) ht1 (by simp [Value.ownBlock]) (by simp; try omega))
              | (refine step_app_all (by rfl) (.tmp 33) (.tmp 36) (by rfl) w.heap.size _ [] (S.take k) (some ad) k c0 (by rfl) (by rfl) hBA.out ((hS.take k).kp (by repeat (first | with_reducible assumption | with_reducible exact Kp.refl _ | with_reducible refine Kp.drew ?_ | with_reducible refine Kp.alloc ?_ _ | with_reducible refine Kp.drewN ?_ _ | refine Kp.setCell ?_ (by dsimp only; omega) _))) hlk (by simp; omega) hl1 ?_; intro v1 w1 ho1 ht1 h41; have hkA : Kp w w1 := hBA.out.kp_turn (by repeat (first | with_reducible assumption | with_reducible exact Kp.refl _ | with_reducible refine Kp.drew ?_ | with_reducible refine Kp.alloc ?_ _ | with_reducible refine Kp.drewN ?_ _ | refine Kp.setCell ?_ (by dsimp only; omega) _)) (Nat.le_refl _) ht1; have h1n := one_turn (g := w.heap.size) ((one_ba w a).kp (Kp.refl _).drew) ht1 (by simp [Value.ownBlock]) (by simp; try omega))
              | (refine step_app_all (by rfl) (.tmp 37) (.tmp 39) (by rfl) w.heap.size v1 ([] ++ S.take k) [a] (some ⟨w.heap.size + 1, 0, none⟩) 1 1 (by rfl) (by rfl) ho1 h1n rfl hkA.le hl2 ?_; intro v2 w2 ho2 ht2 h42; have hkB : Kp w w2 := ho1.kp_turn hkA (Nat.le_refl _) ht2)
              | (refine step_app_all (by rfl) (.tmp 37) (.tmp 39) (by rfl) w.heap.size v1 ([] ++ S.take k) [a] (some ⟨w.heap.size, 0, none⟩) 1 1 (by rfl) (by rfl) ho1 h1n rfl hkA.le hl2 ?_; intro v2 w2 ho2 ht2 h42; have hkB : Kp w w2 := ho1.kp_turn hkA (Nat.le_refl _) ht2)
              | (refine step_app (by rfl) (.tmp 37) (.tmp 39) (by rfl) w.heap.size v1 ([] ++ S.take k) a _ (by rfl) (by rfl) (by rfl) ho1 hkA.le hl3 ?_; intro v2 w2 ho2 ht2 h42; have hkB : Kp w w2 := ho1.kp_turn hkA (Nat.le_refl _) ht2)
              | (refine step_app_all (by rfl) (.tmp 40) (.tmp 43) (by rfl) w.heap.size v2 ([] ++ S.take k ++ [a]) (S.drop k) (if c0 = k then some ad else some (ad.add k)) (n - k) (c0 - k) (by rfl) (by rfl) ho2 ((hS.tail hnc k).kp hkB) hld hkB.le hl4 ?_; intro v3 w3 ho3 ht3 h43; have hkC : Kp w w3 := ho2.kp_turn hkB (Nat.le_refl _) ht3))
          all_goals
            go_wp2_with fail
            all_goals
              go_ret
              have e4 : [] ++ S.take k ++ [a] ++ S.drop k = putL S a := by rw [hput.out]; simp
              rw [e4] at ho3
              exact ⟨_, rfl, .inr ho3, hkC⟩
    · have hlk : (S.take k).length = k := by rw [List.length_take, Hn.out]; omega
      have hld : (S.drop k).length = n - k := by rw [List.length_drop, Hn.out]
      have hl1 : ([] : List Int).length + (S.take k).length ≤ 4194304 := by rw [hlk]; simp; omega
      have hl2 : (([] : List Int) ++ S.take k).length + [a].length ≤ 4194304 := by rw [List.length_append, hlk]; simp; omega
      have hl3 : (([] : List Int) ++ S.take k).length < 1048576 := by rw [List.length_append, hlk]; simp; omega
      have hl4 : (([] : List Int) ++ S.take k ++ [a]).length + (S.drop k).length ≤ 4194304 := by rw [List.length_append, List.length_append, hlk, hld]; simp; omega
      have hput := Lib.hid (put_at Hs.out Hp.out (fun h => absurd h (by rw [Hn.out]; omega)))
      have hA := Lib.hid ((own_new0 w _ (Nat.le_refl _)).drew)
      have hAB := Lib.hid ((own_ab w a).drew)
      have hBA := Lib.hid ((own_ba w a).drew)
      go_wp2_with fail
      go_region_held3 (fun w' => Kp w w')
        (first | exact (by repeat (first | with_reducible assumption | with_reducible exact Kp.refl _ | with_reducible refine Kp.drew ?_ | with_reducible refine Kp.alloc ?_ _ | with_reducible refine Kp.drewN ?_ _ | refine Kp.setCell ?_ (by dsimp only; omega) _)) | exact hkA | exact hkA.alloc _ | exact hkB | exact hkC)
        (first
          | (refine step_app_all (by rfl) (.tmp 33) (.tmp 36) (by rfl) w.heap.size _ [] (S.take k) (some ad) k c0 (by rfl) (by rfl) hA.out ((hS.take k).kp (by repeat (first | with_reducible assumption | with_reducible exact Kp.refl _ | with_reducible refine Kp.drew ?_ | with_reducible refine Kp.alloc ?_ _ | with_reducible refine Kp.drewN ?_ _ | refine Kp.setCell ?_ (by dsimp only; omega) _))) hlk (by simp) hl1 ?_; intro v1 w1 ho1 ht1 h41; have hkA : Kp w w1 := hA.out.kp_turn (by repeat (first | with_reducible assumption | with_reducible exact Kp.refl _ | with_reducible refine Kp.drew ?_ | with_reducible refine Kp.alloc ?_ _ | with_reducible refine Kp.drewN ?_ _ | refine Kp.setCell ?_ (by dsimp only; omega) _)) (Nat.le_refl _) ht1)
          | (refine step_app_all (by rfl) (.tmp 33) (.tmp 36) (by rfl) w.heap.size _ [] (S.take k) (some ad) k c0 (by rfl) (by rfl) hAB.out ((hS.take k).kp (by repeat (first | with_reducible assumption | with_reducible exact Kp.refl _ | with_reducible refine Kp.drew ?_ | with_reducible refine Kp.alloc ?_ _ | with_reducible refine Kp.drewN ?_ _ | refine Kp.setCell ?_ (by dsimp only; omega) _))) hlk (by simp; omega) hl1 ?_; intro v1 w1 ho1 ht1 h41; have hkA : Kp w w1 := hAB.out.kp_turn (by repeat (first | with_reducible assumption | with_reducible exact Kp.refl _ | with_reducible refine Kp.drew ?_ | with_reducible refine Kp.alloc ?_ _ | with_reducible refine Kp.drewN ?_ _ | refine Kp.setCell ?_ (by dsimp only; omega) _)) (Nat.le_refl _) ht1; have h1n := one_turn (g := w.heap.size + 1) ((one_ab w a).kp (Kp.refl _).drew) ht1 (by simp [Value.ownBlock]) (by simp; try omega))
          | (refine step_app_all (by rfl) (.tmp 33) (.tmp 36) (by rfl) w.heap.size _ [] (S.take k) (some ad) k c0 (by rfl) (by rfl) hBA.out ((hS.take k).kp (by repeat (first | with_reducible assumption | with_reducible exact Kp.refl _ | with_reducible refine Kp.drew ?_ | with_reducible refine Kp.alloc ?_ _ | with_reducible refine Kp.drewN ?_ _ | refine Kp.setCell ?_ (by dsimp only; omega) _))) hlk (by simp; omega) hl1 ?_; intro v1 w1 ho1 ht1 h41; have hkA : Kp w w1 := hBA.out.kp_turn (by repeat (first | with_reducible assumption | with_reducible exact Kp.refl _ | with_reducible refine Kp.drew ?_ | with_reducible refine Kp.alloc ?_ _ | with_reducible refine Kp.drewN ?_ _ | refine Kp.setCell ?_ (by dsimp only; omega) _)) (Nat.le_refl _) ht1; have h1n := one_turn (g := w.heap.size) ((one_ba w a).kp (Kp.refl _).drew) ht1 (by simp [Value.ownBlock]) (by simp; try omega))
          | (refine step_app_all (by rfl) (.tmp 37) (.tmp 39) (by rfl) w.heap.size v1 ([] ++ S.take k) [a] (some ⟨w.heap.size + 1, 0, none⟩) 1 1 (by rfl) (by rfl) ho1 h1n rfl hkA.le hl2 ?_; intro v2 w2 ho2 ht2 h42; have hkB : Kp w w2 := ho1.kp_turn hkA (Nat.le_refl _) ht2)
          | (refine step_app_all (by rfl) (.tmp 37) (.tmp 39) (by rfl) w.heap.size v1 ([] ++ S.take k) [a] (some ⟨w.heap.size, 0, none⟩) 1 1 (by rfl) (by rfl) ho1 h1n rfl hkA.le hl2 ?_; intro v2 w2 ho2 ht2 h42; have hkB : Kp w w2 := ho1.kp_turn hkA (Nat.le_refl _) ht2)
          | (refine step_app (by rfl) (.tmp 37) (.tmp 39) (by rfl) w.heap.size v1 ([] ++ S.take k) a _ (by rfl) (by rfl) (by rfl) ho1 hkA.le hl3 ?_; intro v2 w2 ho2 ht2 h42; have hkB : Kp w w2 := ho1.kp_turn hkA (Nat.le_refl _) ht2)
          | (refine step_app_all (by rfl) (.tmp 40) (.tmp 43) (by rfl) w.heap.size v2 ([] ++ S.take k ++ [a]) (S.drop k) (if c0 = k then some ad else some (ad.add k)) (n - k) (c0 - k) (by rfl) (by rfl) ho2 ((hS.tail hnc k).kp hkB) hld hkB.le hl4 ?_; intro v3 w3 ho3 ht3 h43; have hkC : Kp w w3 := ho2.kp_turn hkB (Nat.le_refl _) ht3))
      all_goals
        go_wp2_with fail
        all_goals
          go_ret
          have e4 : [] ++ S.take k ++ [a] ++ S.drop k = putL S a := by rw [hput.out]; simp
          rw [e4] at ho3
          exact ⟨_, rfl, .inr ho3, hkC⟩
end Go.Proofs.YtlglonjijfpgaaaGreat

namespace Go.Proofs.YtlglonjijfpgaaaGreat
open Go.RowKit Go.Sort

theorem putL_nil (a : Int) : putL [] a = [a] := by simp [putL]
theorem putL_len' (S : List Int) (a : Int) : (putL S a).length ≤ S.length + 1 := by
  unfold putL
  by_cases h : a ∈ S
  · rw [if_pos h]; omega
  · rw [if_neg h, List.length_append, List.length_cons]
    have : S.length = (S.takeWhile (· < a)).length + (S.dropWhile (· < a)).length := by
      conv => lhs; rw [← List.takeWhile_append_dropWhile (p := fun y => decide (y < a)) (l := S), List.length_append]
    omega
set_option maxRecDepth 100000 in
set_option maxHeartbeats 2000000 in
theorem l1Put_none (c0 : Nat) (a : Int) (w : World) :
    Calls Tryz.prog 31 #[.slice none 0 c0, .int .i64 a] w fun e w' => ∃ v, e = .returned v ∧ Own w' w.heap.size v (putL [] a) ∧ Kp w w' := by
  have hA := Lib.hid ((own_new0 w _ (Nat.le_refl _)).drew)
  have hAB := Lib.hid ((own_ab w a).drew)
  have hBA := Lib.hid ((own_ba w a).drew)
  go_enter Tryz.func31, Tryz.ntmps31
  go_wp2_with fail
  go_loop [5] (fun iv => iv = .int .i64 0) (fun iv => 0)
  case atStart => rfl
  case round =>
    obtain rfl := hrel
    go_wp2_with fail
    go_region_held3 (fun w' => Kp w w')
      (first | exact (by repeat (first | with_reducible assumption | with_reducible exact Kp.refl _ | with_reducible refine Kp.drew ?_ | with_reducible refine Kp.alloc ?_ _ | with_reducible refine Kp.drewN ?_ _ | refine Kp.setCell ?_ (by dsimp only; omega) _)) | exact hkA | exact hkA.alloc _ | exact hkB | exact hkC)
      (first
        | (refine step_app_all (by rfl) (.tmp 33) (.tmp 36) (by rfl) w.heap.size _ [] [] none 0 c0 (by rfl) (by rfl) hA.out (IntsAt.nil _ _) rfl (by simp) (by simp) ?_; intro v1 w1 ho1 ht1 h41; have hkA : Kp w w1 := hA.out.kp_turn (by repeat (first | with_reducible assumption | with_reducible exact Kp.refl _ | with_reducible refine Kp.drew ?_ | with_reducible refine Kp.alloc ?_ _ | with_reducible refine Kp.drewN ?_ _ | refine Kp.setCell ?_ (by dsimp only; omega) _)) (Nat.le_refl _) ht1)
        | (refine step_app_all (by rfl) (.tmp 33) (.tmp 36) (by rfl) w.heap.size _ [] [] none 0 c0 (by rfl) (by rfl) hAB.out (IntsAt.nil _ _) rfl (by simp; try omega) (by simp) ?_; intro v1 w1 ho1 ht1 h41; have hkA : Kp w w1 := hAB.out.kp_turn (by repeat (first | with_reducible assumption | with_reducible exact Kp.refl _ | with_reducible refine Kp.drew ?_ | with_reducible refine Kp.alloc ?_ _ | with_reducible refine Kp.drewN ?_ _ | refine Kp.setCell ?_ (by dsimp only; omega) _)) (Nat.le_refl _) ht1; have h1n := one_turn (g := w.heap.size + 1) ((one_ab w a).kp (Kp.refl _).drew) ht1 (by simp [Value.ownBlock]) (by simp))
        | (refine step_app_all (by rfl) (.tmp 33) (.tmp 36) (by rfl) w.heap.size _ [] [] none 0 c0 (by rfl) (by rfl) hBA.out (IntsAt.nil _ _) rfl (by simp; try omega) (by simp) ?_; intro v1 w1 ho1 ht1 h41; have hkA : Kp w w1 := hBA.out.kp_turn (by repeat (first | with_reducible assumption | with_reducible exact Kp.refl _ | with_reducible refine Kp.drew ?_ | with_reducible refine Kp.alloc ?_ _ | with_reducible refine Kp.drewN ?_ _ | refine Kp.setCell ?_ (by dsimp only; omega) _)) (Nat.le_refl _) ht1; have h1n := one_turn (g := w.heap.size) ((one_ba w a).kp (Kp.refl _).drew) ht1 (by simp [Value.ownBlock]) (by simp; try omega))
        | (refine step_app_all (by rfl) (.tmp 37) (.tmp 39) (by rfl) w.heap.size v1 ([] ++ []) [a] (some ⟨w.heap.size + 1, 0, none⟩) 1 1 (by rfl) (by rfl) ho1 h1n rfl hkA.le (by simp) ?_; intro v2 w2 ho2 ht2 h42; have hkB : Kp w w2 := ho1.kp_turn hkA (Nat.le_refl _) ht2)
        | (refine step_app_all (by rfl) (.tmp 37) (.tmp 39) (by rfl) w.heap.size v1 ([] ++ []) [a] (some ⟨w.heap.size, 0, none⟩) 1 1 (by rfl) (by rfl) ho1 h1n rfl hkA.le (by simp) ?_; intro v2 w2 ho2 ht2 h42; have hkB : Kp w w2 := ho1.kp_turn hkA (Nat.le_refl _) ht2)
        | (refine step_app (by rfl) (.tmp 37) (.tmp 39) (by rfl) w.heap.size v1 ([] ++ []) a _ (by rfl) (by rfl) (by rfl) ho1 hkA.le (by simp) ?_; intro v2 w2 ho2 ht2 h42; have hkB : Kp w w2 := ho1.kp_turn hkA (Nat.le_refl _) ht2)
        | (refine step_app_all (by rfl) (.tmp 40) (.tmp 43) (by rfl) w.heap.size v2 ([] ++ [] ++ [a]) [] none 0 c0 (by rfl) (by rfl) ho2 (IntsAt.nil _ _) rfl hkB.le (by simp) ?_; intro v3 w3 ho3 ht3 h43; have hkC : Kp w w3 := ho2.kp_turn hkB (Nat.le_refl _) ht3)
        | fail)
    all_goals
      go_wp2_with fail
      go_ret
      rw [putL_nil]
      exact ⟨_, rfl, ho3, hkC⟩
theorem l1Put_new (A0 : Option Addr) (S : List Int) (n c0 : Nat) (a : Int) (w : World) (hS : IntsAt w A0 S) (hn : S.length = n) (hs : S.Pairwise (· < ·)) (hc : n ≤ c0) (hb : n < 1048576) (ha : a ∉ S) :
    Calls Tryz.prog 31 #[.slice A0 n c0, .int .i64 a] w fun e w' => ∃ v, e = .returned v ∧ Own w' w.heap.size v (putL S a) ∧ Kp w w' := by
  cases A0 with
  | some ad =>
    refine (l1Put_some ad S n c0 a w hS hn hs hc hb).mono ?_
    rintro e w' ⟨v, h1, h2 | h2, h3⟩
    · exact absurd h2.1 ha
    · exact ⟨v, h1, h2, h3⟩
  | none =>
    have e : S = [] := by
      cases S with
      | nil => rfl
      | cons y t => obtain ⟨ad, h, _⟩ := hS.at_ (k := 0) (by simp); cases h
    subst e
    obtain rfl : n = 0 := by simpa using hn.symm
    exact l1Put_none c0 a w
theorem l1Put_any (A0 : Option Addr) (S : List Int) (n c0 : Nat) (a : Int) (w : World) (hS : IntsAt w A0 S) (hn : S.length = n) (hs : S.Pairwise (· < ·)) (hc : n ≤ c0) (hb : n < 1048576) :
    Calls Tryz.prog 31 #[.slice A0 n c0, .int .i64 a] w fun e w' => ∃ A' c', e = .returned (.slice A' (putL S a).length c') ∧ (putL S a).length ≤ c' ∧ IntsAt w' A' (putL S a) ∧ Kp w w' := by
  by_cases ha : a ∈ S
  · cases A0 with
    | some ad =>
      refine (l1Put_some ad S n c0 a w hS hn hs hc hb).mono ?_
      rintro e w' ⟨v, rfl, h2 | h2, h3⟩
      · obtain ⟨_, rfl⟩ := h2
        rw [show putL S a = S from if_pos ha, hn]
        exact ⟨some ad, c0, rfl, hc, hS.kp h3, h3⟩
      · obtain ⟨A', c', e, hi⟩ := h2.ints (by have := putL_len' S a; omega)
        exact ⟨A', c', by rw [e], h2.cap e, hi, h3⟩
    | none =>
      obtain ⟨k, hk, _⟩ := List.getElem_of_mem ha
      obtain ⟨ad, h, _⟩ := hS.at_ (k := 0) (by omega); cases h
  · refine (l1Put_new A0 S n c0 a w hS hn hs hc hb ha).mono ?_
    rintro e w' ⟨v, rfl, h2, h3⟩
    obtain ⟨A', c', e, hi⟩ := h2.ints (by have := putL_len' S a; omega)
    exact ⟨A', c', by rw [e], h2.cap e, hi, h3⟩
end Go.Proofs.YtlglonjijfpgaaaGreat

namespace Go.Proofs.YtlglonjijfpgaaaGreat
open Go.RowKit Go.Sort

/-- Which of two lists comes first, number by number. -/
def lexC : List Int → List Int → Int
  | [], [] => 0
  | [], _ :: _ => -1
  | _ :: _, [] => 1
  | x :: xs, y :: ys => if x < y then -1 else if y < x then 1 else lexC xs ys
theorem lexC_anti : ∀ a b : List Int, lexC b a = - lexC a b
  | [], [] => rfl
  | [], _ :: _ => rfl
  | _ :: _, [] => rfl
  | x :: xs, y :: ys => by
    unfold lexC
    have ih := lexC_anti xs ys
    by_cases h1 : x < y
    · simp [h1, show ¬ y < x by omega]
    · by_cases h2 : y < x
      · simp [h1, h2]
      · simp [h1, h2]; exact ih
theorem lexC_zero : ∀ a b : List Int, lexC a b = 0 → a = b
  | [], [], _ => rfl
  | [], _ :: _, h => by simp [lexC] at h
  | _ :: _, [], h => by simp [lexC] at h
  | x :: xs, y :: ys, h => by
    unfold lexC at h
    by_cases h1 : x < y
    · rw [if_pos h1] at h; omega
    · by_cases h2 : y < x
      · rw [if_neg h1, if_pos h2] at h; omega
      · rw [if_neg h1, if_neg h2] at h
        rw [lexC_zero xs ys h, show x = y by omega]
theorem lexC_trans : ∀ a b c : List Int, lexC a b < 0 → lexC b c < 0 → lexC a c < 0
  | [], [], _, h, _ => by simp [lexC] at h
  | [], _ :: _, [], _, h => by simp [lexC] at h
  | [], _ :: _, _ :: _, _, _ => by simp [lexC]
  | _ :: _, [], _, h, _ => by simp [lexC] at h
  | _ :: _, _ :: _, [], _, h => by simp [lexC] at h
  | x :: xs, y :: ys, z :: zs, h, h' => by
    unfold lexC at h h' ⊢
    have ih := lexC_trans xs ys zs
    by_cases h1 : x < y
    · by_cases h2 : z < y
      · rw [if_neg (by omega), if_pos h2] at h'; omega
      · rw [if_pos (by omega)]; omega
    · by_cases h2 : y < x
      · rw [if_neg h1, if_pos h2] at h; omega
      · rw [if_neg h1, if_neg h2] at h
        have e : x = y := by omega
        subst e
        by_cases h3 : x < z
        · rw [if_pos h3]; omega
        · by_cases h4 : z < x
          · rw [if_neg h3, if_pos h4] at h'; omega
          · rw [if_neg h3, if_neg h4] at h' ⊢
            exact ih h h'
/-- First by how many there are, then number by number. -/
def cmpS (a b : List Int) : Int := if a.length < b.length then -1 else if b.length < a.length then 1 else lexC a b
def befB (a b : List Int) : Bool := decide (cmpS a b < 0)
theorem cmpS_anti (a b : List Int) : cmpS b a = - cmpS a b := by
  unfold cmpS
  by_cases h1 : a.length < b.length
  · simp [h1, show ¬ b.length < a.length by omega]
  · by_cases h2 : b.length < a.length
    · simp [h1, h2]
    · simp [h1, h2]; exact lexC_anti a b
theorem cmpS_zero {a b : List Int} (h : cmpS a b = 0) : a = b := by
  unfold cmpS at h
  by_cases h1 : a.length < b.length
  · rw [if_pos h1] at h; omega
  · by_cases h2 : b.length < a.length
    · rw [if_neg h1, if_pos h2] at h; omega
    · rw [if_neg h1, if_neg h2] at h; exact lexC_zero a b h
theorem cmpS_trans {a b c : List Int} (h : cmpS a b < 0) (h' : cmpS b c < 0) : cmpS a c < 0 := by
  unfold cmpS at *
  by_cases h1 : a.length < c.length
  · rw [if_pos h1]; omega
  · have hb : ¬ b.length < a.length := fun hh => by rw [if_neg (by omega), if_pos hh] at h; omega
    have hc : ¬ c.length < b.length := fun hh => by rw [if_neg (by omega), if_pos hh] at h'; omega
    rw [if_neg (by omega), if_neg hb] at h
    rw [if_neg (by omega), if_neg hc] at h'
    rw [if_neg h1, if_neg (by omega)]
    exact lexC_trans a b c h h'
theorem befB_irrefl (a : List Int) : befB a a = false := by
  have := cmpS_anti a a
  simp [befB]; omega
theorem befB_trans {a b c : List Int} (h : befB a b = true) (h' : befB b c = true) : befB a c = true := by
  simp only [befB, decide_eq_true_eq] at *; exact cmpS_trans h h'
theorem befB_total {a b : List Int} (h : befB a b = false) (h' : befB b a = false) : a = b := by
  simp only [befB, decide_eq_false_iff_not] at *
  have := cmpS_anti a b
  exact cmpS_zero (by omega)
theorem befB_asymm {a b : List Int} (h : befB a b = true) : befB b a = false := by
  cases h' : befB b a with
  | false => rfl
  | true => have := befB_trans h h'; rw [befB_irrefl] at this; cases this
/-- What is not behind. -/
def notB (a b : List Int) : Bool := !befB b a
theorem notB_trans (a b c : List Int) (h : notB a b = true) (h' : notB b c = true) : notB a c = true := by
  simp only [notB, Bool.not_eq_true'] at *
  by_cases e1 : a = b
  · subst e1; exact h'
  by_cases e2 : b = c
  · subst e2; exact h
  have g1 : befB a b = true := by
    cases hh : befB a b with
    | true => rfl
    | false => exact absurd (befB_total hh h) e1
  have g2 : befB b c = true := by
    cases hh : befB b c with
    | true => rfl
    | false => exact absurd (befB_total hh h') e2
  exact befB_asymm (befB_trans g1 g2)
theorem notB_total (a b : List Int) : (notB a b || notB b a) = true := by
  cases h : befB b a with
  | false => simp [notB, h]
  | true => simp [notB, befB_asymm h]
/-- The codes of the sets with at least one member, in the order of codes. -/
def codesL (n : Nat) : List (List Int) := (List.range (2 ^ n - 1)).map fun c => bitsL n (c + 1)
def setsL (n : Nat) : List (List Int) := (codesL n).mergeSort notB
theorem setsL_perm (n : Nat) : (setsL n).Perm (codesL n) := List.mergeSort_perm _ _
theorem setsL_len (n : Nat) : (setsL n).length = 2 ^ n - 1 := by rw [(setsL_perm n).length_eq]; simp [codesL]
theorem bitsL_inj {n a b : Nat} (ha : a < 2 ^ n) (hb : b < 2 ^ n) (h : bitsL n a = bitsL n b) : a = b := by
  apply Nat.eq_of_testBit_eq
  intro i
  by_cases hi : i < n
  · have h1 := mem_bitsL (n := n) (b := a) (x := (i : Int))
    have h2 := mem_bitsL (n := n) (b := b) (x := (i : Int))
    rw [h] at h1
    have h3 := h1.symm.trans h2
    rw [Bool.eq_iff_iff]
    simp only [Int.toNat_natCast] at h3
    constructor
    · intro hx; exact (h3.1 ⟨by omega, by omega, hx⟩).2.2
    · intro hx; exact (h3.2 ⟨by omega, by omega, hx⟩).2.2
  · rw [Nat.testBit_lt_two_pow (Nat.lt_of_lt_of_le ha (Nat.pow_le_pow_right (by omega) (by omega))), Nat.testBit_lt_two_pow (Nat.lt_of_lt_of_le hb (Nat.pow_le_pow_right (by omega) (by omega)))]
theorem codesL_nodup (n : Nat) : (codesL n).Nodup := by
  unfold codesL List.Nodup
  rw [List.pairwise_map]
  refine (List.pairwise_iff_getElem.2 ?_)
  intro i j hi hj hij e
  have hi' : i < 2 ^ n - 1 := by simpa using hi
  have hj' : j < 2 ^ n - 1 := by simpa using hj
  simp only [List.getElem_range] at e
  have := bitsL_inj (n := n) (by omega) (by omega) e
  omega
theorem setsL_nodup (n : Nat) : (setsL n).Nodup := (setsL_perm n).nodup_iff.2 (codesL_nodup n)
theorem setsL_sorted (n : Nat) : (setsL n).Pairwise (fun a b => befB a b = true) := by
  have h1 : (setsL n).Pairwise (fun a b => notB a b = true) := List.pairwise_mergeSort notB_trans notB_total _
  have h2 := setsL_nodup n
  rw [List.pairwise_iff_getElem] at h1 ⊢
  unfold List.Nodup at h2
  rw [List.pairwise_iff_getElem] at h2
  intro i j hi hj hij
  have h3 := h1 i j hi hj hij
  have h4 := h2 i j hi hj hij
  simp only [notB, Bool.not_eq_true'] at h3
  cases hh : befB (setsL n)[i] (setsL n)[j] with
  | true => rfl
  | false => exact absurd (befB_total hh h3) h4
/-- There is one list of all sets in order. -/
theorem setsL_uniq {n : Nat} {l : List (List Int)} (hp : l.Perm (codesL n)) (hs : l.Pairwise (fun a b => befB a b = true)) : l = setsL n :=
  List.Perm.eq_of_pairwise (le := fun a b => befB a b = true) (fun a b _ _ h h' => by have := befB_asymm h; rw [h'] at this; cases this) hs (setsL_sorted n) (hp.trans (setsL_perm n).symm)
theorem mem_codesL {n : Nat} {S : List Int} : S ∈ codesL n ↔ S ≠ [] ∧ risB S 0 ((n : Int) - 1) = true := by
  constructor
  · intro h
    simp only [codesL, List.mem_map, List.mem_range] at h
    obtain ⟨c, hc, rfl⟩ := h
    refine ⟨fun e => ?_, bitsL_ris _ _ _ (Int.le_refl _)⟩
    have h0 : bitsL n 0 = [] := by simp [bitsL, bitsN]
    have := bitsL_inj (n := n) (a := c + 1) (b := 0) (by omega) (Nat.two_pow_pos n) (e.trans h0.symm)
    omega
  · rintro ⟨hne, hr⟩
    have hr' := ris_iff.1 hr
    have hm : ∀ y ∈ S, 0 ≤ y ∧ y < n := fun y hy => by have := hr'.2 y hy; omega
    have hb := bits_bag hr'.1 hm
    have hlt := bagN_lt hm
    simp only [codesL, List.mem_map, List.mem_range]
    have hpos : 0 < bagN S := by
      rcases Nat.eq_zero_or_pos (bagN S) with h | h
      · rw [h] at hb; exact absurd (by rw [← hb]; simp [bitsL, bitsN]) hne
      · exact h
    exact ⟨bagN S - 1, by omega, by rw [Nat.sub_add_cancel hpos]; exact hb⟩
theorem mem_setsL {n : Nat} {S : List Int} : S ∈ setsL n ↔ S ≠ [] ∧ risB S 0 ((n : Int) - 1) = true := (setsL_perm n).mem_iff.trans mem_codesL
theorem risB_len {n : Nat} {S : List Int} (h : risB S 0 ((n : Int) - 1) = true) : S.length ≤ n := by
  have hr' := ris_iff.1 h
  have hm : ∀ y ∈ S, 0 ≤ y ∧ y < n := fun y hy => by have := hr'.2 y hy; omega
  have := bitsL_len n (bagN S)
  rwa [bits_bag hr'.1 hm] at this
/-- The first one with the least value. -/
def bestStep (v : List Int → Int) (b s : List Int) : List Int := if v s < v b then s else b
def bestL (v : List Int → Int) (l : List (List Int)) : List Int := l.foldl (bestStep v) (l.getD 0 [])
end Go.Proofs.YtlglonjijfpgaaaGreat

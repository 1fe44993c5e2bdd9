/- FnVotes: the reference's field of a tree is one that can be read. No condition. -/
import Derived.Test.YtcccmndkolmboaaQAr
namespace Go.Proofs.Ytcccmndkolmboaa
open Go.RowKit Go.Sort

/-- The first k numbers are those of a tree's parents. -/
def PtTo (ps : List Int) (k : Nat) : Prop := ∀ i, 0 < i → i < k → 0 ≤ ps.getD i 0 ∧ ps.getD i 0 < i
theorem ptTo_succ {ps : List Int} {k : Nat} (hk : k < ps.length) (h : PtTo ps k) (h2 : 0 < k → inB ps[k] 0 ((k : Int) - 1) = true) : PtTo ps (k + 1) := fun i h0 hi => by
  by_cases e : i = k
  · subst e
    have := inB_iff.1 (h2 h0)
    have e2 : ps.getD i 0 = ps[i] := by simp [List.getD, hk]
    rw [e2]; omega
  · exact h i h0 (by omega)
set_option maxRecDepth 100000 in
set_option maxHeartbeats 1000000 in
theorem l4Tree_any (A : Option Addr) (ps : List Int) (n c : Nat) (w : World) (hx : IntsAt w A ps) (hn : ps.length = n) :
    Calls Try.prog 33 #[.slice A n c] w fun e w' => ∃ b, e = .returned (.bool b) ∧ (b = true → TreeP ps) ∧ w = w' := by
  have Hn := Lib.hid hn
  have hn63 : n ≤ 9223372036854775807 := hn ▸ hx.1
  clear hn
  go_enter Try.func33, Try.ntmps33
  go_wp2_with fail
  go_loopw [3] (fun iv wr => ∃ k : Nat, k ≤ n ∧ iv = .int .i64 k ∧ Hid (PtTo ps k) ∧ w = wr) (fun iv _ => n - (intOf iv).toNat)
  case atStart => exact ⟨0, by omega, rfl, Lib.hid (fun i h0 hi => by omega), rfl⟩
  case round =>
    obtain ⟨k, hk, rfl, Hp, rfl⟩ := hrel
    by_cases hlt : k < n
    · have lx : k < ps.length := by rw [Hn.out]; exact hlt
      have hltI : (k : Int) < (n : Int) := by omega
      obtain ⟨ad, rfl, hc⟩ := hx.at_ lx
      have hp2 := Lib.hid (fun h => ptTo_succ lx Hp.out h)
      obtain ⟨pv, hpv⟩ : ∃ z, ps[k] = z := ⟨_, rfl⟩
      rw [hpv] at hc hp2
      have e8 : ((k : Int)).toNat = k := Int.toNat_natCast k
      by_cases h0 : k = 0
      · subst h0
        have hp3 := Lib.hid (hp2.out (fun h => absurd h (by omega)))
        rw [show ad.add 0 = ad from by unfold Addr.add; simp] at hc
        by_cases h1 : pv = -1
        · have n1 : (pv != -1) = false := by simp [h1]
          clear hp2 hpv h1
          go_wp2_with fail
          go_roundw
          case rel => exact ⟨1, by omega, by go_num, hp3, trivial⟩
          case measure => simp [intOf]; omega
        · have n1 : (pv != -1) = true := by simpa using h1
          clear hp2 hpv
          go_wp2_with fail
          go_ret
          exact ⟨_, rfl, (fun h => by cases h), rfl⟩
      · have k0 : ((k : Int) == 0) = false := by simp; omega
        have k1 : decide ((0 : Int) < (k : Int)) = true := decide_eq_true (by omega)
        have w1 : IntKind.i64.wrap ((k : Int) - 1) = (k : Int) - 1 := IntWalk.i64_in _ (by omega)
        have CC := Lib.hid (l1In_any pv 0 ((k : Int) - 1) w)
        clear hpv
        go_wp2_with fail
        with_reducible refine Calls.mono CC.out ?_
        rintro e w2 ⟨rfl, rfl⟩
        clear CC
        cases hb : inB pv 0 ((k : Int) - 1)
        · clear hb hp2
          go_wp2_with fail
          go_ret
          exact ⟨_, rfl, (fun h => by cases h), rfl⟩
        · have hp3 := Lib.hid (hp2.out (fun _ => hb))
          clear hb hp2
          go_wp2_with fail
          go_roundw
          case rel => exact ⟨k + 1, by omega, by go_num, hp3, trivial⟩
          case measure => simp [intOf]; omega
    · obtain rfl : k = n := by omega
      have CC := Lib.hid (l1In_any (k : Int) 1 7 w)
      go_wp2_with fail
      with_reducible refine Calls.mono CC.out ?_
      rintro e w2 ⟨rfl, rfl⟩
      clear CC
      cases hb : inB (k : Int) 1 7
      · clear hb
        go_wp2_with fail
        go_ret
        exact ⟨_, rfl, (fun h => by cases h), rfl⟩
      · have hb2 := inB_iff.1 hb
        clear hb
        go_wp2_with fail
        go_ret
        exact ⟨_, rfl, fun _ => ⟨by rw [Hn.out]; omega, fun i h0 hi => Hp.out i h0 (by rw [Hn.out] at hi; exact hi)⟩, rfl⟩
def LnPost (ls : List Int) (n2 n : Nat) (w : World) (e : Ending) (w' : World) : Prop := ∃ b, e = .returned (.bool b) ∧ (b = true → LenP ls ∧ n2 = n) ∧ w = w'
set_option maxRecDepth 100000 in
set_option maxHeartbeats 1000000 in
theorem l4Lengths_any (A : Option Addr) (n c : Nat) (B : Option Addr) (ls : List Int) (n2 c2 : Nat) (w : World) (h1 : 1 ≤ n) (hx : IntsAt w B ls) (hn : ls.length = n2) :
    Calls Try.prog 34 #[.slice A n c, .slice B n2 c2] w (LnPost ls n2 n w) := by
  have Hn := Lib.hid hn
  have CC := Lib.hid (l2Row_any B ls n2 c2 n w hx hn)
  clear hn
  go_enter Try.func34, Try.ntmps34
  go_wp2_with fail
  with_reducible refine Calls.mono CC.out ?_
  rintro e w2 ⟨rfl, rfl⟩
  clear CC
  cases hb : rowB n ls
  · clear hb
    go_wp2_with fail
    go_ret
    exact ⟨_, rfl, (fun h => by cases h), rfl⟩
  · have hb2 := Lib.hid (rowB_iff.1 hb)
    have hn2 : n2 = n := by have h3 := hb2.out.2; have h4 := Hn.out; omega
    have HL := Lib.hid (lenP_of (allB_iff.2 hb2.out.1))
    clear hb hb2
    subst hn2
    obtain ⟨ad, rfl, y0⟩ := hx.at_ (show 0 < ls.length by rw [Hn.out]; omega)
    rw [show ad.add 0 = ad from by unfold Addr.add; simp] at y0
    have hI : (0 : Int) < (n2 : Int) := by omega
    go_wp2_with fail
    go_ret
    exact ⟨_, rfl, fun _ => ⟨HL.out, rfl⟩, rfl⟩
theorem par_at {ps : List Int} (hT : TreeP ps) {x : Nat} (h0 : 0 < x) (hx : x < ps.length) : ps[x] = ((parOf ps x : Nat) : Int) ∧ parOf ps x < x := by
  have h1 := parOf_lt hT x h0
  have h2 := hT.2 x h0 hx
  have e1 : ps.getD x 0 = ps[x] := by simp [List.getD, hx]
  rw [e1] at h2
  refine ⟨?_, h1⟩
  unfold parOf
  rw [e1]; omega
set_option maxRecDepth 100000 in
set_option maxHeartbeats 1000000 in
theorem l4Apart_any (A1 : Addr) (ps : List Int) (n c1 : Nat) (A2 : Addr) (ls : List Int) (c2 : Nat) (x0 y0 : Nat) (w : World) (hT : TreeP ps) (h1 : IntsAt w (some A1) ps) (hn1 : ps.length = n) (h2 : IntsAt w (some A2) ls) (hn2 : ls.length = n) (hx0 : x0 < n) (hy0 : y0 < n) :
    Calls Try.prog 35 #[.slice (some A1) n c1, .slice (some A2) n c2, .int .i64 x0, .int .i64 y0] w fun e w' => ∃ r, e = .returned (.int .i64 r) ∧ w = w' := by
  have Hn1 := Lib.hid hn1
  have Hn2 := Lib.hid hn2
  have HT := Lib.hid hT
  have hn7 := hT.1
  rw [hn1] at hn7
  clear hn1 hn2 hT
  go_enter Try.func35, Try.ntmps35
  go_wp2_with fail
  go_loopw [2, 3, 9] (fun xv yv sv wr => ∃ (x y : Nat) (s : Int), xv = .int .i64 x ∧ yv = .int .i64 y ∧ sv = .int .i64 s ∧ x < n ∧ y < n ∧ w = wr) (fun xv yv _ _ => (intOf xv).toNat + (intOf yv).toNat)
  case atStart => exact ⟨x0, y0, 0, rfl, rfl, rfl, hx0, hy0, rfl⟩
  case round =>
    clear hx0 hy0
    obtain ⟨x, y, s, rfl, rfl, rfl, hx, hy, rfl⟩ := hrel
    by_cases hxy : x = y
    · subst hxy
      have hxyI : ((x : Int) != (x : Int)) = false := by simp
      go_wp2_with fail
      go_ret
      exact ⟨_, rfl, rfl⟩
    · have hxyI : ((x : Int) != (y : Int)) = true := by simp; omega
      by_cases hgt : y < x
      · have hgtI : decide ((y : Int) < (x : Int)) = true := decide_eq_true (by omega)
        have hp := par_at HT.out (x := x) (by omega) (by rw [Hn1.out]; exact hx)
        have lp : x < ps.length := by rw [Hn1.out]; omega
        have ll : x < ls.length := by rw [Hn2.out]; omega
        have hls := h2.some_ ll
        have hps := h1.some_ lp
        obtain ⟨p1, p2⟩ := hp
        obtain ⟨lx, hlx⟩ : ∃ z, ls[x] = z := ⟨_, rfl⟩
        obtain ⟨px, hpx⟩ : ∃ z, parOf ps x = z := ⟨_, rfl⟩
        rw [hlx] at hls
        rw [hpx] at p1 p2
        rw [p1] at hps
        have hxI : (x : Int) < (n : Int) := by omega
        have e8 : ((x : Int)).toNat = x := Int.toNat_natCast x
        clear hlx hpx p1
        go_wp2_with fail
        go_roundw
        case rel => exact ⟨px, y, _, by go_num, by go_num, rfl, by omega, by omega, trivial⟩
        case measure => simp [intOf]; omega
      · have hgtI : decide ((y : Int) < (x : Int)) = false := decide_eq_false (by omega)
        have hp := par_at HT.out (x := y) (by omega) (by rw [Hn1.out]; exact hy)
        have lp : y < ps.length := by rw [Hn1.out]; omega
        have ll : y < ls.length := by rw [Hn2.out]; omega
        have hls := h2.some_ ll
        have hps := h1.some_ lp
        obtain ⟨p1, p2⟩ := hp
        obtain ⟨lx, hlx⟩ : ∃ z, ls[y] = z := ⟨_, rfl⟩
        obtain ⟨px, hpx⟩ : ∃ z, parOf ps y = z := ⟨_, rfl⟩
        rw [hlx] at hls
        rw [hpx] at p1 p2
        rw [p1] at hps
        have hxI : (y : Int) < (n : Int) := by omega
        have e8 : ((y : Int)).toNat = y := Int.toNat_natCast y
        clear hlx hpx p1
        go_wp2_with fail
        go_roundw
        case rel => exact ⟨x, px, _, by go_num, by go_num, rfl, by omega, by omega, trivial⟩
        case measure => simp [intOf]; omega
theorem ts_newS {w0 W : World} {rb n : Nat} {t : TypeId} (hk : Kp w0 W) (hr : W.there rb 0 2) (h1 : w0.heap.size ≤ rb) (h2 : rb < W.heap.size) (hn : n ≤ 1048576) :
    TS w0 (((W.alloc (.cells (madeCells #[.int .i64 0] n) 3)).alloc (.cells #[] 24)).alloc (.cells #[.slice (some ⟨W.heap.size, 0, none⟩) n n, .slice (some ⟨W.heap.size + 1, 0, none⟩) 0 0] t)) rb (W.heap.size + 2) (.slice (some ⟨W.heap.size, 0, none⟩) n n) (.slice (some ⟨W.heap.size + 1, 0, none⟩) 0 0) n 0 (fun _ => 0) (fun _ => 0) (fun _ _ => 0) := by
  have ho := own_made W (rb + 1) n (by omega) hn
  have ka : Kp W (W.alloc (.cells (madeCells #[.int .i64 0] n) 3)) := (Kp.refl W).alloc _
  have hz : (W.alloc (.cells (madeCells #[.int .i64 0] n) 3)).heap.size = W.heap.size + 1 := by simp
  generalize W.alloc (.cells (madeCells #[.int .i64 0] n) 3) = W1 at *
  have hd : (W1.alloc (.cells #[] 24)).ownsRow (rb + 1) 24 1 (.slice (some ⟨W1.heap.size, 0, none⟩) 0 0) 0 [] := World.ownsRow_lit W1 #[] 0 (by omega) (by unfold maxLen; omega) (by simp)
  have kc : Kp W1 (W1.alloc (.cells #[] 24)) := (Kp.refl W1).alloc _
  rw [hz] at hd
  have hz2 : (W1.alloc (.cells #[] 24)).heap.size = W.heap.size + 2 := by simp [hz]
  generalize W1.alloc (.cells #[] 24) = W2 at *
  have kb : Kp W2 (W2.alloc (.cells #[.slice (some ⟨W.heap.size, 0, none⟩) n n, .slice (some ⟨W.heap.size + 1, 0, none⟩) 0 0] t)) := (Kp.refl W2).alloc _
  obtain ⟨d0, d1⟩ := box2 W2 (.slice (some ⟨W.heap.size, 0, none⟩) n n) (.slice (some ⟨W.heap.size + 1, 0, none⟩) 0 0) t
  have th := there_newD W2 [.slice (some ⟨W.heap.size, 0, none⟩) n n, .slice (some ⟨W.heap.size + 1, 0, none⟩) 0 0] t
  rw [hz2] at d0 d1 th
  refine ⟨d0, d1, th, turn_thereD (Turn.of_kp (S := fun _ => False) ((ka.trans kc).trans kb)) hr (fun h => h), (ho.kp kc).kp kb, ⟨kb.own hd, fun j hj => by omega, fun i j hi => by omega⟩, ⟨fun h => ?_, fun h => ?_, fun j hj => by omega⟩, hk.trans ((ka.trans kc).trans kb), ⟨h1, by omega⟩⟩
  · have : W.heap.size = W.heap.size + 2 := Option.some.inj h
    omega
  · have : W.heap.size + 1 = W.heap.size + 2 := Option.some.inj h
    omega
/-- What it is: it lies in blocks of the call's own. -/
theorem ts_dfld {w : World} {b n J base : Nat} {A : Option Addr} {c : Nat} {D : Option Addr} {d : Nat} {B Cp : Nat → Nat} {f : Nat → Nat → Int} (h1 : Own w b (.slice A n c) (List.replicate n 0)) (h2 : DMat w b (.slice D J d) J n B Cp f) (hn : n ≤ 8) (hJ : J ≤ 8) (hb : base ≤ b) :
    DFld w base (.agg #[.slice A n c, .slice D J d]) := by
  refine ⟨⟨List.replicate n 0, matL J n f⟩, A, c, D, d, by simp [matL_len], h1.intsP (by simp; omega) (fun ad e => ?_), h2.gridP (by omega) (by omega) (fun ad e => ?_) (fun j hj => ?_)⟩
  · subst e; have := (h1.lt ad.block rfl).1; omega
  · subst e; have := (h2.vlt ad.block rfl).1; omega
  · have := (h2.lt hj).1; omega
def TfsPost (w : World) (e : Ending) (w' : World) : Prop := ∃ v b, e = .returned (.tuple #[v, .bool b]) ∧ DFld w' w.heap.size v ∧ Kp w w'
set_option maxRecDepth 100000 in
set_option maxHeartbeats 2000000 in
theorem treeFieldS_any (A1 : Option Addr) (ps : List Int) (n1 c1 : Nat) (A2 : Option Addr) (ls : List Int) (n2 c2 : Nat) (w : World) (h1 : IntsAt w A1 ps) (hn1 : ps.length = n1) (h2 : IntsAt w A2 ls) (hn2 : ls.length = n2) :
    Calls Try.prog 18 #[.slice A1 n1 c1, .slice A2 n2 c2] w (TfsPost w) := by
  have t0 := there_newD w [.slice none 0 0, .slice none 0 0] 27
  simp only [List.length_cons, List.length_nil, Nat.zero_add, Nat.reduceAdd] at t0
  have k0 : Kp w (w.alloc (.cells #[.slice none 0 0, .slice none 0 0] 27)) := (Kp.refl w).alloc _
  have hsz : Hid ((w.alloc (.cells #[.slice none 0 0, .slice none 0 0] 27)).heap.size = w.heap.size + 1) := by show _ = _; simp
  have Hn1 := Lib.hid hn1
  have Hn2 := Lib.hid hn2
  have CC := Lib.hid (l4Tree_any A1 ps n1 c1 _ (h1.kp k0) hn1)
  clear hn1 hn2
  go_enter Try.func18, Try.ntmps18
  go_wp2_with fail
  generalize w.alloc (.cells #[.slice none 0 0, .slice none 0 0] 27) = wa at *
  with_reducible refine Calls.mono CC.out ?_
  rintro e w1 ⟨b, rfl, hb, rfl⟩
  clear CC
  have hs2 : w.heap.size < wa.heap.size := by have h5 := hsz.out; omega
  clear hsz
  cases b
  · clear hb
    go_wp2_with (first | (refine wpList_store_mid rfl 27 (.tmp 4) (.tmp 19) rfl w.heap.size 0 #[.slice none 0 0, .slice none 0 0] rfl rfl t0 (by kernel_rfl) (by simp [Value.oneCell']) ?_) | fail)
    have ts := turn_setCellsD w.heap.size [.slice none 0 0, .slice none 0 0] 0 wa
    have hg := World.rangeAt_setCells_same wa w.heap.size 0 [.slice none 0 0, .slice none 0 0] t0
    have z0 := hg 0 _ rfl
    have z1 := hg 1 _ rfl
    exact bodyPost_ret (v := .tuple #[.agg #[.slice none 0 0, .slice none 0 0], .bool false]) (by simp [results, Try.results18, go_sem, z0, z1]) rfl ⟨_, _, rfl, ⟨_, FldP.zero _ _⟩, (k0).turn ts (fun i hi => by omega)⟩
  have HT := Lib.hid (hb rfl)
  clear hb
  have hT1 := HT.out.1
  rw [Hn1.out] at hT1
  have CC := Lib.hid (l4Lengths_any A1 n1 c1 A2 ls n2 c2 wa hT1.1 (h2.kp k0) Hn2.out)
  go_wp2_with fail
  with_reducible refine Calls.mono CC.out ?_
  rintro e w1 ⟨b, rfl, hb, rfl⟩
  clear CC
  cases b
  · clear hb
    go_wp2_with (first | (refine wpList_store_mid rfl 27 (.tmp 4) (.tmp 19) rfl w.heap.size 0 #[.slice none 0 0, .slice none 0 0] rfl rfl t0 (by kernel_rfl) (by simp [Value.oneCell']) ?_) | fail)
    have ts := turn_setCellsD w.heap.size [.slice none 0 0, .slice none 0 0] 0 wa
    have hg := World.rangeAt_setCells_same wa w.heap.size 0 [.slice none 0 0, .slice none 0 0] t0
    have z0 := hg 0 _ rfl
    have z1 := hg 1 _ rfl
    exact bodyPost_ret (v := .tuple #[.agg #[.slice none 0 0, .slice none 0 0], .bool false]) (by simp [results, Try.results18, go_sem, z0, z1]) rfl ⟨_, _, rfl, ⟨_, FldP.zero _ _⟩, (k0).turn ts (fun i hi => by omega)⟩
  have HL := Lib.hid (hb rfl)
  clear hb
  obtain rfl : n2 = n1 := HL.out.2
  clear HL
  have hmk := run_make_row' (P := Try.prog) 24 3 (.int .i64 0) 8 Try.underlying24 infoInt rfl .i64 .i64 n2 (by omega) (by omega)
  have hst := ts_newS (t := 27) (n := n2) k0 t0 (Nat.le_refl _) hs2 (by omega)
  obtain ⟨g1, rfl, _⟩ := h1.at_ (show 0 < ps.length by rw [Hn1.out]; omega)
  obtain ⟨g2, rfl, _⟩ := h2.at_ (show 0 < ls.length by rw [Hn2.out]; omega)
  go_wp2_with fail
  clear t0
  generalize ((wa.alloc (.cells (madeCells #[.int .i64 0] n2) 3)).alloc (.cells #[] 24)).alloc (.cells #[.slice (some ⟨wa.heap.size, 0, none⟩) n2 n2, .slice (some ⟨wa.heap.size + 1, 0, none⟩) 0 0] 27) = wb at *
  generalize hbe : wa.heap.size = bo at *
  clear k0
  go_loopw [7] (fun iv wr => ∃ (i : Nat) (dv : Value) (B Cp : Nat → Nat) (f : Nat → Nat → Int), iv = .int .i64 i ∧ i ≤ n2 ∧ TS w wr w.heap.size (bo + 2) (.slice (some ⟨bo, 0, none⟩) n2 n2) dv n2 i B Cp f) (fun iv _ => n2 - (intOf iv).toNat)
  case atStart => exact ⟨0, _, _, _, _, rfl, by omega, hst⟩
  case round =>
    clear hst
    obtain ⟨i, dv, B, Cp, f, rfl, hi, hts⟩ := hrel
    obtain ⟨wo, rfl⟩ : ∃ wo : World, wo = wr := ⟨_, rfl⟩
    by_cases hlt : i < n2
    · have hltI : (i : Int) < (n2 : Int) := by omega
      have hun := hts.under
      have hro := own_new0 wo wo.heap.size (Nat.le_refl _)
      have hka : Kp wo (wo.alloc (.cells #[] 3)) := (Kp.refl wo).alloc _
      have hra := hts.go hka
      go_wp2_with fail
      clear hts hka
      generalize hNe : wo.heap.size = N at *
      generalize wo.alloc (.cells #[] 3) = wi at *
      go_loopw [8, 9] (fun rx av wr => ∃ (a g c : Nat) (ys : List Int), av = .int .i64 a ∧ a ≤ n2 ∧ rx = .slice (some ⟨g, 0, none⟩) a c ∧ ys.length = a ∧ Own wr N (.slice (some ⟨g, 0, none⟩) a c) ys ∧ TS w wr w.heap.size (bo + 2) (.slice (some ⟨bo, 0, none⟩) n2 n2) dv n2 i B Cp f) (fun _ av _ => n2 - (intOf av).toNat)
      case atStart => exact ⟨0, N, 0, [], rfl, by omega, rfl, rfl, hro, hra⟩
      case round =>
        clear hro hra
        obtain ⟨a, g, c, ys, rfl, ha, rfl, hyl, hrow, hts⟩ := hrel
        by_cases hla : a < n2
        · have hlaI : (a : Int) < (n2 : Int) := by omega
          have CC := Lib.hid (l4Apart_any g1 ps n2 c1 g2 ls c2 i a wr HT.out (h1.kp hts.kp) Hn1.out (h2.kp hts.kp) Hn2.out hlt hla)
          have hyl2 : ys.length < 1048576 := by omega
          have hNw : N ≤ wr.heap.size := by have := (hrow.lt g rfl); omega
          go_wp2_with fail
          with_reducible refine Calls.mono CC.out ?_
          rintro e w1 ⟨r, rfl, rfl⟩
          clear CC
          go_wp2_with (at_builtin; go_loud (refine wpl_app rfl (.tmp 38) (.tmp 44) rfl N _ ys r rfl rfl hrow hNw hyl2 ?_); intro v2 w2 ho2 ht2 h42; obtain ⟨g2', c2', hv2⟩ := ho2.someD (by simp); rw [show (ys ++ [r]).length = a + 1 from by simp [hyl]] at hv2; subst hv2)
          have hq2 := hts.far hun ht2 (fun i hi => (hrow.lt i hi).1)
          go_roundw
          case rel => exact ⟨a + 1, g2', c2', ys ++ [r], by go_num, by omega, rfl, by simp [hyl], ho2, hq2⟩
          case measure => simp [intOf]; omega
        · obtain rfl : a = n2 := by omega
          have q0 := hts.c0
          have q1 := hts.c1
          have hbs : w.heap.size + 1 ≤ wr.heap.size := by have h3 := hts.lo; have h4 := hts.size; omega
          have hj2 : i < 1048576 := by omega
          have hrow1 := hrow.mono (base' := w.heap.size + 1) (by have h3 := hts.lo; have := hun.2.2.2; omega)
          have hml : mapTo (lget ys) a = ys := by rw [← hyl]; exact mapTo_self ys
          rw [← hml] at hrow1
          have hgN := (hrow.lt g rfl).1
          go_wp2_with (at_builtin; go_loud (refine wpl_apph rfl (.tmp 47) (.tmp 49) rfl (w.heap.size + 1) dv i _ (.slice (some ⟨g, 0, none⟩) a c) rfl rfl rfl hts.di.hd hbs hj2 ?_); intro v2 w2 ho2 ht2 h42; obtain ⟨z0, z1⟩ := hts.stay1 ht2; obtain ⟨A2, c2', hv2⟩ := ownh_shape ho2; subst hv2)
          have hst2 := hts.push ht2 ho2 hrow1 (fun j hj => by have := hun.2.2.1 j hj; omega) (by have := hun.2.2.2; omega) h42
          go_roundw
          case rel => exact ⟨i + 1, _, _, _, _, by go_num, by omega, hst2⟩
          case measure => simp [intOf]; omega
    · obtain rfl : i = n2 := by omega
      obtain ⟨Ad, cd, hdv⟩ := hts.di.shape
      subst hdv
      have q0 := hts.c0
      have q1 := hts.c1
      have hfl := ts_fld hts.op hts.di (by omega) (by omega)
      obtain ⟨F, hF⟩ : ∃ F : Fld, (⟨List.replicate i 0, matL i i f⟩ : Fld) = F := ⟨_, rfl⟩
      rw [hF] at hfl
      have CC := Lib.hid (l2Good_any _ F wo hfl)
      clear hfl hF
      go_wp2_with fail
      with_reducible refine Calls.mono CC.out ?_
      rintro e w3 ⟨rfl, hk3⟩
      clear CC q0 q1
      have ht3 := hts.go hk3
      have HT3 := Lib.hid ht3
      have q0 := ht3.c0
      have q1 := ht3.c1
      clear hts ht3
      cases goodF F
      · go_wp2_with (first | (refine wpList_store_mid rfl 27 (.tmp 4) (.tmp 55) rfl w.heap.size 0 #[.slice none 0 0, .slice none 0 0] rfl rfl HT3.out.rt (by kernel_rfl) (by simp [Value.oneCell']) ?_) | fail)
        have ts := turn_setCellsD w.heap.size [.slice none 0 0, .slice none 0 0] 0 w3
        have hg := World.rangeAt_setCells_same w3 w.heap.size 0 [.slice none 0 0, .slice none 0 0] HT3.out.rt
        have z0 := hg 0 _ rfl
        have z1 := hg 1 _ rfl
        exact bodyPost_ret (v := .tuple #[.agg #[.slice none 0 0, .slice none 0 0], .bool false]) (by simp [results, Try.results18, go_sem, z0, z1]) rfl ⟨_, _, rfl, ⟨_, FldP.zero _ _⟩, (HT3.out.kp).turn ts (fun i hi => by omega)⟩
      · go_wp2_with (first | (refine wpList_store_mid rfl 27 (.tmp 4) (.tmp 56) rfl w.heap.size 0 #[.slice (some ⟨bo, 0, none⟩) i i, .slice Ad i cd] rfl rfl HT3.out.rt (by kernel_rfl) (by simp [Value.oneCell']) ?_) | fail)
        obtain ⟨z0, z1, z2, z3, z4⟩ := HT3.out.ret
        have hfl := ts_dfld (base := w.heap.size) z2 z3 (by omega) (by omega) (by omega)
        exact bodyPost_ret (v := .tuple #[.agg #[.slice (some ⟨bo, 0, none⟩) i i, .slice Ad i cd], .bool true]) (by simp [results, Try.results18, go_sem, z0, z1]) rfl ⟨_, _, rfl, hfl, z4⟩
end Go.Proofs.Ytcccmndkolmboaa

/- Moves of a set: the reference's walk. No condition. -/
import Derived.Test.YtcekddpllpbkmaaLoc
namespace Go.Proofs.Ytcekddpllpbkmaa
open Go.RowKit Go.Sort

theorem GOwn.turnH {w w' : World} {lo lo2 b b2 : Nat} {v v2 : Value} {rows rows2 : List (List Int)} (h : GOwn w (some lo) b v rows) (h2 : GOwn w (some lo2) b2 v2 rows2) (hap : Apart v v2) (ht : Turn (fun i => v2.ownBlock = some i) w w') : GOwn w' (some lo) b v rows := by
  obtain ⟨hs, h1, hr⟩ := h
  obtain ⟨hs2, k1, _⟩ := h2
  refine ⟨hs, own_turn h1 ht (fun g hg hl => hap g hg hl), fun j hj => ?_⟩
  obtain ⟨u, e1, e2, e3⟩ := hr j hj
  exact ⟨u, e1, e2.turn ht (fun _ g hg hl => own_blocks_ne (e2.2 lo rfl) k1 (by decide) hg hl), e3⟩
theorem GOwn.row_ne {w : World} {lo lo2 b : Nat} {v u : Value} {rows : List (List Int)} {r : List Int} (h : GOwn w (some lo) b v rows) (hu : RowP w (some lo2) u r) : ∀ g, u.ownBlock = some g → v.ownBlock ≠ some g := by
  obtain ⟨hs, h1, _⟩ := h
  exact fun g hg => own_blocks_ne (hu.2 lo2 rfl) h1 (by decide) hg
theorem GOwn.own_ne {w : World} {lo b b2 : Nat} {v u : Value} {rows : List (List Int)} {r : List Int} (h : GOwn w (some lo) b v rows) (hu : Own w b2 u r) : ∀ g, u.ownBlock = some g → v.ownBlock ≠ some g := by
  obtain ⟨hs, h1, _⟩ := h
  exact fun g hg => own_blocks_ne hu h1 (by decide) hg
theorem apart_sym {v u : Value} (h : Apart v u) : Apart u v := fun g hu hv => h g hv hu
theorem gapart_grow {w : World} {lo b : Nat} {v v' u : Value} {rows : List (List Int)} (h : Apart v u) (hu : GOwn w (some lo) b u rows) (h4 : v'.ownBlock = v.ownBlock ∨ ∀ g, v'.ownBlock = some g → w.heap.size ≤ g) : Apart v' u := fun g hg e => by
  rcases h4 with h5 | h5
  · exact h g (h5 ▸ hg) e
  · have h6 := h5 g hg
    have h7 := (hu.lt g e).2
    omega
theorem rows_of {w : World} {lo b n c : Nat} {A : Addr} {rows : List (List Int)} (h : GOwn w (some lo) b (.slice (some A) n c) rows) (hl : rows.length ≤ 49) : RowsAt w (some lo) (some A) rows := by
  obtain ⟨A', c', e, _, hr⟩ := h.rows (by omega)
  simp only [Value.slice.injEq] at e
  rw [e.1]; exact hr
/-- Three lists of sets, apart from each other. -/
structure G3 (w : World) (b : Nat) (v1 v2 v3 : Value) (L1 L2 L3 : List (List Int)) : Prop where
  g1 : GOwn w (some b) b v1 L1
  g2 : GOwn w (some b) b v2 L2
  g3 : GOwn w (some b) b v3 L3
  a12 : Apart v1 v2
  a13 : Apart v1 v3
  a23 : Apart v2 v3
  n1 : v1 ≠ .slice none 0 0
  n2 : v2 ≠ .slice none 0 0
  n3 : v3 ≠ .slice none 0 0
theorem G3.kp {w w' : World} {b : Nat} {v1 v2 v3 : Value} {L1 L2 L3 : List (List Int)} (h : G3 w b v1 v2 v3 L1 L2 L3) (hk : Kp w w') : G3 w' b v1 v2 v3 L1 L2 L3 :=
  ⟨h.g1.kp hk, h.g2.kp hk, h.g3.kp hk, h.a12, h.a13, h.a23, h.n1, h.n2, h.n3⟩
theorem G3.app1 {w w' : World} {b : Nat} {v1 v2 v3 v' : Value} {L1 L2 L3 : List (List Int)} {r : List Int} (h : G3 w b v1 v2 v3 L1 L2 L3) (ho : GOwn w' (some b) b v' (L1 ++ [r])) (ht : Turn (fun i => v1.ownBlock = some i) w w') (h4 : v'.ownBlock = v1.ownBlock ∨ ∀ g, v'.ownBlock = some g → w.heap.size ≤ g) : G3 w' b v' v2 v3 (L1 ++ [r]) L2 L3 :=
  ⟨ho, h.g2.turnH h.g1 (apart_sym h.a12) ht, h.g3.turnH h.g1 (apart_sym h.a13) ht, gapart_grow h.a12 h.g2 h4, gapart_grow h.a13 h.g3 h4, h.a23, ho.not_nil (by simp), h.n2, h.n3⟩
theorem G3.p12 {w : World} {b : Nat} {v1 v2 v3 : Value} {L1 L2 L3 : List (List Int)} (h : G3 w b v1 v2 v3 L1 L2 L3) : G3 w b v2 v1 v3 L2 L1 L3 :=
  ⟨h.g2, h.g1, h.g3, apart_sym h.a12, h.a23, h.a13, h.n2, h.n1, h.n3⟩
theorem G3.p13 {w : World} {b : Nat} {v1 v2 v3 : Value} {L1 L2 L3 : List (List Int)} (h : G3 w b v1 v2 v3 L1 L2 L3) : G3 w b v3 v2 v1 L3 L2 L1 :=
  ⟨h.g3, h.g2, h.g1, apart_sym h.a23, apart_sym h.a13, apart_sym h.a12, h.n3, h.n2, h.n1⟩
theorem outN_len (n : Nat) (S : List Int) : (outN n S).length ≤ n := Nat.le_trans (List.length_filter_le _ _) (by simp)
theorem sitesN_len (n : Nat) (S : List Int) : (sitesN n S).length ≤ n := Nat.le_trans (List.length_filter_le _ _) (by simp)
theorem opTo_len (S : List Int) (k : Nat) : (opTo S k).length ≤ k := by unfold opTo; rw [List.length_map]; exact outN_len k S
theorem swIn_len (S : List Int) (s : Int) (k : Nat) : (swIn S s k).length ≤ k := by unfold swIn; rw [List.length_map]; exact outN_len k S
theorem clTo_len (S : List Int) (k : Nat) : (clTo S k).length ≤ k := by
  unfold clTo; rw [List.length_map]
  exact Nat.le_trans (List.length_filter_le _ _) (sitesN_len k S)
theorem swTo_len (n : Nat) (S : List Int) : ∀ k, (swTo n S k).length ≤ k * n
  | 0 => by simp [swTo, sitesN]
  | k + 1 => by
    have h1 := swTo_len n S k
    have h2 := swIn_len S (k : Int) n
    have h3 : (k + 1) * n = k * n + n := by rw [Nat.add_mul]; simp
    cases h : inS S k
    · rw [swTo_no h]; omega
    · rw [swTo_yes h, List.length_append]; omega
theorem swTo_small {n : Nat} {S : List Int} {k : Nat} (hn : n ≤ 7) (hk : k ≤ 7) : (swTo n S k).length ≤ 49 := by
  have h1 := swTo_len n S k
  have h2 : k * n ≤ 7 * 7 := Nat.mul_le_mul hk hn
  omega
set_option maxRecDepth 100000 in
set_option maxHeartbeats 4000000 in
theorem l3Moves_any (f : Value) (F : Fld) (A0 : Option Addr) (S : List Int) (n c0 : Nat) (w : World) (hf : FldAt w f F) (hS : IntsAt w A0 S) (hn : S.length = n) (hc : n ≤ c0) (hg : goodF F = true) (hs : setB F S = true) :
    Calls Try.prog 95 #[f, .slice A0 n c0] w fun e w' => ∃ v, e = .returned v ∧ GOwn w' (some w.heap.size) w.heap.size v (movesL F S) ∧ Kp w w' := by
  have h7n := (goodF_iff.1 hg).1.2
  have hn7 : n ≤ 7 := by rw [← hn]; exact Nat.le_trans (set_len hs) h7n
  obtain ⟨A, c, B, d, rfl, hA, hB⟩ := hf
  have hk0 : Kp w (w.alloc (.cells #[.slice A F.op.length c, .slice B F.di.length d] 29)) := (Kp.refl w).alloc _
  obtain ⟨d0, d1⟩ := box2 w (.slice A F.op.length c) (.slice B F.di.length d) 29
  have hFA := FldAt.kp (show FldAt w (.agg #[.slice A F.op.length c, .slice B F.di.length d]) F from ⟨A, c, B, d, rfl, hA, hB⟩) hk0
  replace hS := hS.kp hk0
  have Hn := Lib.hid hn
  have HS := Lib.hid hs
  have hsl := set_len hs
  clear hA hB hg hn hs
  go_enter Try.func95, Try.ntmps95
  go_wp2_with fail
  have hsz : Hid ((w.alloc (.cells #[.slice A F.op.length c, .slice B F.di.length d] 29)).heap.size = w.heap.size + 1) := by show _ = _; simp
  generalize w.alloc (.cells #[.slice A F.op.length c, .slice B F.di.length d] 29) = wb at *
  have hkb : Kp wb wb := Kp.refl _
  have hkw := hk0
  have hs1 : w.heap.size + 1 ≤ wb.heap.size := by rw [hsz.out]; exact Nat.le_refl _
  have hs2 : wb.heap.size ≤ w.heap.size + 1 := by rw [hsz.out]; exact Nat.le_refl _
  have o1 := gown_new wb (some (w.heap.size + 1)) (w.heap.size + 1) hs1
  have o2 := gown_new (wb.alloc (.cells #[] 22)) (some (w.heap.size + 1)) (w.heap.size + 1) (by simp; omega)
  have o3 := gown_new ((wb.alloc (.cells #[] 22)).alloc (.cells #[] 22)) (some (w.heap.size + 1)) (w.heap.size + 1) (by simp; omega)
  have o1' := (o1.one_kp (o := .cells #[] 22)).one_kp (o := .cells #[] 22)
  have o2' := o2.one_kp (o := .cells #[] 22)
  have hkn : Kp wb (((wb.alloc (.cells #[] 22)).alloc (.cells #[] 22)).alloc (.cells #[] 22)) := (((Kp.refl wb).alloc _).alloc _).alloc _
  simp only [World.size_alloc] at o1' o2' o3 hkn
  rw [hsz.out] at o1' o2' o3
  have hG0 : G3 (((wb.alloc (.cells #[] 22)).alloc (.cells #[] 22)).alloc (.cells #[] 22)) (w.heap.size + 1) (.slice (some ⟨w.heap.size + 1, 0, none⟩) 0 0) (.slice (some ⟨w.heap.size + 1 + 1, 0, none⟩) 0 0) (.slice (some ⟨w.heap.size + 1 + 1 + 1, 0, none⟩) 0 0) (opTo S 0) (clTo S 0) (swTo F.op.length S 0) :=
    ⟨o1', o2', o3, fun g hg e => by simp [Value.ownBlock] at hg e; omega, fun g hg e => by simp [Value.ownBlock] at hg e; omega, fun g hg e => by simp [Value.ownBlock] at hg e; omega, by simp, by simp, by simp⟩
  clear o1 o2 o3 o1' o2' hkb
  go_loopw [5, 6, 7, 8] (fun ox cx sx iv wr => ∃ (k : Nat) (ov cv sv : Value), ov = ox ∧ cv = cx ∧ sv = sx ∧ k ≤ F.op.length ∧ iv = .int .i64 k ∧ G3 wr (w.heap.size + 1) ov cv sv (opTo S k) (clTo S k) (swTo F.op.length S k) ∧ Kp wb wr) (fun _ _ _ iv _ => F.op.length - (intOf iv).toNat)
  case atStart => exact ⟨0, _, _, _, rfl, rfl, rfl, by omega, rfl, hG0, hkn⟩
  case round =>
    clear hG0 hkn
    obtain ⟨k, ov, cv, sv, rfl, rfl, rfl, hk, rfl, hG, hkb⟩ := hrel
    have z0 := hkb.get d0
    by_cases hla : k < F.op.length
    · go_wp2_with fail
      have CC := Lib.hid (l1Has_any A0 S n c0 (k : Int) wr (hS.kp hkb) Hn.out)
      with_reducible refine Calls.mono CC.out ?_
      rintro e wz ⟨rfl, hwz⟩
      obtain rfl := hwz
      clear CC
      have Hib : Hid ((S.any fun x => x == (k : Int)) = inS S k) := rfl
      rw [Hib.out]
      cases hik : inS S k
      · have Hy1 := Lib.hid (opTo_yes hik)
        have Hy2 := Lib.hid (clTo_no hik)
        have Hy3 := Lib.hid (swTo_no (n := F.op.length) hik)
        have hnw : (k : Int) ∉ S := fun hm => by
          have := inS_mem.2 hm
          rw [hik] at this; cases this
        clear hik
        go_wp2_with fail
        have CC := Lib.hid (l1Put_new A0 S n c0 (k : Int) wr (hS.kp hkb) Hn.out (ris_iff.1 HS.out).1 hc (by omega) hnw)
        with_reducible refine Calls.mono CC.out ?_
        rintro e wp ⟨v8, rfl, ho8, hk8⟩
        clear CC
        obtain ⟨A8, c8, hq8⟩ := ho8.shape
        subst hq8
        have hG8 := hG.kp hk8
        have hbw : w.heap.size + 1 ≤ wr.heap.size := by have := hkb.le; omega
        have hrp : RowP wp (some (w.heap.size + 1)) (.slice A8 (putL S (k : Int)).length c8) (putL S (k : Int)) := RowP.of_own (ho8.mono hbw) (by have := putL_len S (k : Int); omega)
        have hll : (opTo S k).length < 1048576 := by have := opTo_len S k; omega
        have hkp := hkb.trans hk8
        go_wp2_with (at_builtin; go_loud (refine wpl_appg rfl (.tmp 25) (.tmp 29) rfl (w.heap.size + 1) ov (opTo S k) (putL S (k : Int)) (.slice A8 (putL S (k : Int)).length c8) rfl rfl hG8.g1 hrp (fun _ g hg => hG8.g1.row_ne hrp g hg) (by have := hkp.le; omega) hll ?_; intro v' w' ho' ht' h4'))
        have hG9 := hG8.app1 ho' ht' h4'
        have hkg : Kp wb w' := hkp.turn ht' (fun x hx => by have h1 := (hG8.g1.lt x hx).1; omega)
        go_roundw
        case rel => exact ⟨k + 1, _, cv, sv, rfl, rfl, rfl, by omega, by go_num, by rw [Hy1.out, Hy2.out, Hy3.out]; exact hG9, hkg⟩
        case measure => simp [intOf]; omega
      · have Hik := Lib.hid hik
        clear hik
        go_wp2_with fail
        have CC := Lib.hid (l2Without_any A0 S n c0 (k : Int) wr (hS.kp hkb) Hn.out (by omega))
        with_reducible refine Calls.mono CC.out ?_
        rintro e wf ⟨v9, rfl, ho9, hk9⟩
        clear CC
        have hwl := woL_len S (k : Int)
        obtain ⟨Af, cf, hfe, hfi⟩ := ho9.ints (by omega)
        have hfc := ho9.cap hfe
        subst hfe
        have Hws := Lib.hid (woL_set HS.out (k : Int))
        have hkbf := hkb.trans hk9
        have hGf := hG.kp hk9
        have y0 := hkbf.get d0
        by_cases hwe : woL S (k : Int) = []
        · have hG2 : G3 wf (w.heap.size + 1) ov cv sv (opTo S k) (clTo S (k + 1)) (swTo F.op.length S k) := by rw [clTo_nil Hik.out hwe]; exact hGf
          have hz : ¬ 0 < (woL S (k : Int)).length := by rw [hwe]; simp
          have hkf := hkbf
          have hof := ho9.mono (base' := w.heap.size + 1) (by have := hkb.le; omega)
          clear hwe hG hGf
          go_wp2_with fail
          go_loopw [7, 10] (fun sx bv wr => ∃ (b : Nat) (sv : Value), sv = sx ∧ b ≤ F.op.length ∧ bv = .int .i64 b ∧ G3 wr (w.heap.size + 1) ov cv sv (opTo S k) (clTo S (k + 1)) (swTo F.op.length S k ++ swIn S (k : Int) b) ∧ Own wr (w.heap.size + 1) (.slice Af (woL S (k : Int)).length cf) (woL S (k : Int)) ∧ Kp wb wr) (fun _ bv _ => F.op.length - (intOf bv).toNat)
          case atStart => exact ⟨0, _, rfl, by omega, rfl, by rw [show swIn S (k : Int) 0 = [] from rfl, List.append_nil]; exact hG2, hof, hkf⟩
          case round =>
            clear hG2 hkf hof
            obtain ⟨b, sv, rfl, hb, rfl, hG, hof, hkr⟩ := hrel
            have hfi2 := hof.intsOf (by omega)
            have z0 := hkr.get d0
            by_cases hlb : b < F.op.length
            · go_wp2_with fail
              have CC := Lib.hid (l1Has_any A0 S n c0 (b : Int) wr (hS.kp hkr) Hn.out)
              with_reducible refine Calls.mono CC.out ?_
              rintro e wz ⟨rfl, hwz⟩
              obtain rfl := hwz
              clear CC
              have Hib : Hid ((S.any fun x => x == (b : Int)) = inS S b) := rfl
              rw [Hib.out]
              cases hib : inS S b
              · have Hy := Lib.hid (swIn_yes (s := (k : Int)) hib)
                have hnw : (b : Int) ∉ woL S (k : Int) := fun hm => by
                  have := inS_mem.2 (mem_woL.1 hm).1
                  rw [hib] at this; cases this
                clear hib
                go_wp2_with fail
                have CC := Lib.hid (l1Put_new Af (woL S (k : Int)) _ cf (b : Int) wr hfi2 rfl (ris_iff.1 Hws.out).1 hfc (by omega) hnw)
                with_reducible refine Calls.mono CC.out ?_
                rintro e wp ⟨v8, rfl, ho8, hk8⟩
                clear CC
                obtain ⟨A8, c8, hq8⟩ := ho8.shape
                subst hq8
                have hG8 := hG.kp hk8
                have hbw : w.heap.size + 1 ≤ wr.heap.size := by have := hkr.le; omega
                have hrp : RowP wp (some (w.heap.size + 1)) (.slice A8 (putL (woL S (k : Int)) (b : Int)).length c8) (putL (woL S (k : Int)) (b : Int)) := RowP.of_own (ho8.mono hbw) (by have := putL_len (woL S (k : Int)) (b : Int); omega)
                have hll : (swTo F.op.length S k ++ swIn S (k : Int) b).length < 1048576 := by
                  rw [List.length_append]
                  have h1 := swTo_small (S := S) h7n (Nat.le_trans (Nat.le_of_lt hla) h7n)
                  have h2 := swIn_len S (k : Int) b
                  omega
                have hkp := hkr.trans hk8
                go_wp2_with (at_builtin; go_loud (refine wpl_appg rfl (.tmp 52) (.tmp 56) rfl (w.heap.size + 1) sv (swTo F.op.length S k ++ swIn S (k : Int) b) (putL (woL S (k : Int)) (b : Int)) (.slice A8 (putL (woL S (k : Int)) (b : Int)).length c8) rfl rfl hG8.g3 hrp (fun _ g hg => hG8.g3.row_ne hrp g hg) (by have := hkp.le; omega) hll ?_; intro v' w' ho' ht' h4'))
                have hG9 := (hG8.p13.app1 ho' ht' h4').p13
                have hkg : Kp wb w' := hkp.turn ht' (fun x hx => by have h1 := (hG8.g3.lt x hx).1; omega)
                have hof2 := (hof.kp hk8).turn ht' (fun g hg hl => hG8.g3.own_ne (hof.kp hk8) g hg hl)
                go_roundw
                case rel => exact ⟨b + 1, _, rfl, by omega, by go_num, by rw [Hy.out, ← List.append_assoc]; exact hG9, hof2, hkg⟩
                case measure => simp [intOf]; omega
              · have Hy := Lib.hid (swIn_no (s := (k : Int)) hib)
                clear hib
                go_wp2_with fail
                go_roundw
                case rel => exact ⟨b + 1, _, rfl, by omega, by go_num, by rw [Hy.out]; exact hG, hof, hkr⟩
                case measure => simp [intOf]; omega
            · obtain rfl : b = F.op.length := by omega
              go_wp2_with fail
              go_roundw
              case rel => exact ⟨k + 1, ov, cv, sv, rfl, rfl, rfl, by omega, by go_num, by rw [opTo_no Hik.out, swTo_yes Hik.out]; exact hG, hkr⟩
              case measure => simp [intOf]; omega
        · have Hcl := Lib.hid (clTo_yes Hik.out hwe)
          have hz : 0 < (woL S (k : Int)).length := List.length_pos_iff.2 hwe
          have hbw : w.heap.size + 1 ≤ wr.heap.size := by have := hkb.le; omega
          have hrp : RowP wf (some (w.heap.size + 1)) (.slice Af (woL S (k : Int)).length cf) (woL S (k : Int)) := RowP.of_own (ho9.mono hbw) (by omega)
          have hll : (clTo S k).length < 1048576 := by have := clTo_len S k; omega
          clear hwe
          obtain ⟨wg, rfl⟩ : ∃ wg : World, wg = wf := ⟨_, rfl⟩
          go_wp2_with (at_builtin; go_loud (refine wpl_appg rfl (.tmp 37) (.tmp 39) rfl (w.heap.size + 1) cv (clTo S k) (woL S (k : Int)) (.slice Af (woL S (k : Int)).length cf) rfl rfl hGf.g2 hrp (fun _ g hg => hGf.g2.row_ne hrp g hg) (by have := hkbf.le; omega) hll ?_; intro v' w' ho' ht' h4'; have hkg : Kp wb w' := hkbf.turn ht' (fun x hx => by have h1 := (hGf.g2.lt x hx).1; omega); have y1 := hkg.get d0))
          have hG9 := (hGf.p12.app1 ho' ht' h4').p12
          have hof := (ho9.turn ht' (fun g hg hl => hGf.g2.row_ne hrp g hg hl)).mono (base' := w.heap.size + 1) hbw
          obtain ⟨wf, rfl⟩ : ∃ wf : World, wf = w' := ⟨_, rfl⟩
          have hG2 : G3 wf (w.heap.size + 1) ov v' sv (opTo S k) (clTo S (k + 1)) (swTo F.op.length S k) := by rw [Hcl.out]; exact hG9
          clear hG9 hGf hG hrp ho' ht' h4' hfi y0 z0
          have hkf := hkg
          clear hkg
          obtain ⟨cv, rfl⟩ : ∃ cv : Value, cv = v' := ⟨_, rfl⟩
          go_loopw [7, 10] (fun sx bv wr => ∃ (b : Nat) (sv : Value), sv = sx ∧ b ≤ F.op.length ∧ bv = .int .i64 b ∧ G3 wr (w.heap.size + 1) ov cv sv (opTo S k) (clTo S (k + 1)) (swTo F.op.length S k ++ swIn S (k : Int) b) ∧ Own wr (w.heap.size + 1) (.slice Af (woL S (k : Int)).length cf) (woL S (k : Int)) ∧ Kp wb wr) (fun _ bv _ => F.op.length - (intOf bv).toNat)
          case atStart => exact ⟨0, _, rfl, by omega, rfl, by rw [show swIn S (k : Int) 0 = [] from rfl, List.append_nil]; exact hG2, hof, hkf⟩
          case round =>
            clear hG2 hkf hof
            obtain ⟨b, sv, rfl, hb, rfl, hG, hof, hkr⟩ := hrel
            have hfi2 := hof.intsOf (by omega)
            have z0 := hkr.get d0
            by_cases hlb : b < F.op.length
            · go_wp2_with fail
              have CC := Lib.hid (l1Has_any A0 S n c0 (b : Int) wr (hS.kp hkr) Hn.out)
              with_reducible refine Calls.mono CC.out ?_
              rintro e wz ⟨rfl, hwz⟩
              obtain rfl := hwz
              clear CC
              have Hib : Hid ((S.any fun x => x == (b : Int)) = inS S b) := rfl
              rw [Hib.out]
              cases hib : inS S b
              · have Hy := Lib.hid (swIn_yes (s := (k : Int)) hib)
                have hnw : (b : Int) ∉ woL S (k : Int) := fun hm => by
                  have := inS_mem.2 (mem_woL.1 hm).1
                  rw [hib] at this; cases this
                clear hib
                go_wp2_with fail
                have CC := Lib.hid (l1Put_new Af (woL S (k : Int)) _ cf (b : Int) wr hfi2 rfl (ris_iff.1 Hws.out).1 hfc (by omega) hnw)
                with_reducible refine Calls.mono CC.out ?_
                rintro e wp ⟨v8, rfl, ho8, hk8⟩
                clear CC
                obtain ⟨A8, c8, hq8⟩ := ho8.shape
                subst hq8
                have hG8 := hG.kp hk8
                have hbw : w.heap.size + 1 ≤ wr.heap.size := by have := hkr.le; omega
                have hrp : RowP wp (some (w.heap.size + 1)) (.slice A8 (putL (woL S (k : Int)) (b : Int)).length c8) (putL (woL S (k : Int)) (b : Int)) := RowP.of_own (ho8.mono hbw) (by have := putL_len (woL S (k : Int)) (b : Int); omega)
                have hll : (swTo F.op.length S k ++ swIn S (k : Int) b).length < 1048576 := by
                  rw [List.length_append]
                  have h1 := swTo_small (S := S) h7n (Nat.le_trans (Nat.le_of_lt hla) h7n)
                  have h2 := swIn_len S (k : Int) b
                  omega
                have hkp := hkr.trans hk8
                go_wp2_with (at_builtin; go_loud (refine wpl_appg rfl (.tmp 52) (.tmp 56) rfl (w.heap.size + 1) sv (swTo F.op.length S k ++ swIn S (k : Int) b) (putL (woL S (k : Int)) (b : Int)) (.slice A8 (putL (woL S (k : Int)) (b : Int)).length c8) rfl rfl hG8.g3 hrp (fun _ g hg => hG8.g3.row_ne hrp g hg) (by have := hkp.le; omega) hll ?_; intro v' w' ho' ht' h4'))
                have hG9 := (hG8.p13.app1 ho' ht' h4').p13
                have hkg : Kp wb w' := hkp.turn ht' (fun x hx => by have h1 := (hG8.g3.lt x hx).1; omega)
                have hof2 := (hof.kp hk8).turn ht' (fun g hg hl => hG8.g3.own_ne (hof.kp hk8) g hg hl)
                go_roundw
                case rel => exact ⟨b + 1, _, rfl, by omega, by go_num, by rw [Hy.out, ← List.append_assoc]; exact hG9, hof2, hkg⟩
                case measure => simp [intOf]; omega
              · have Hy := Lib.hid (swIn_no (s := (k : Int)) hib)
                clear hib
                go_wp2_with fail
                go_roundw
                case rel => exact ⟨b + 1, _, rfl, by omega, by go_num, by rw [Hy.out]; exact hG, hof, hkr⟩
                case measure => simp [intOf]; omega
            · obtain rfl : b = F.op.length := by omega
              go_wp2_with fail
              go_roundw
              case rel => exact ⟨k + 1, ov, cv, sv, rfl, rfl, rfl, by omega, by go_num, by rw [opTo_no Hik.out, swTo_yes Hik.out]; exact hG, hkr⟩
              case measure => simp [intOf]; omega
    · obtain rfl : k = F.op.length := by omega
      obtain ⟨A2, c2, hq2, _, hr2⟩ := hG.g2.rows_some (by have := clTo_len S F.op.length; omega) hG.n2
      obtain ⟨A3, c3, hq3, _, hr3⟩ := hG.g3.rows_some (by have := swTo_small (S := S) h7n h7n; omega) hG.n3
      subst hq2 hq3
      have hl1 := opTo_len S F.op.length
      have hl2 := clTo_len S F.op.length
      have hl3 := swTo_small (S := S) h7n h7n
      have hap1 := Lib.hid (fun (kk : Nat) (hkk : kk < (clTo S F.op.length).length) (ad : Addr) (u : Value) (_ : some A2 = some ad) (_ : wr.cell? (ad.add kk) = some u) (hp : RowP wr (some (w.heap.size + 1)) u (clTo S F.op.length)[kk]) (_ : (clTo S F.op.length)[kk] ≠ [] ∨ some (w.heap.size + 1) ≠ none) (g : Nat) (hg : u.ownBlock = some g) => hG.g1.row_ne hp g hg)
      have hbs : w.heap.size + 1 ≤ wr.heap.size := by have := hkb.le; omega
      have hll1 : (opTo S F.op.length).length + (clTo S F.op.length).length ≤ 4194304 := by omega
      have hll2 : (opTo S F.op.length ++ clTo S F.op.length).length + (swTo F.op.length S F.op.length).length ≤ 4194304 := by rw [List.length_append]; omega
      go_wp2_with (at_builtin; first
        | (go_loud (refine wpl_appg_all rfl (.tmp 58) (.tmp 59) rfl (w.heap.size + 1) ov (opTo S F.op.length) (clTo S F.op.length) (some A2) _ c2 rfl rfl hG.g1 hr2 hap1.out rfl hbs hll1 ?_; intro v1 w1 ho1 ht1 h41; have hg3 := hG.g3.turnH hG.g1 (apart_sym hG.a13) ht1; have hk1 : Kp wb w1 := hkb.turn ht1 (fun x hx => by have h1 := (hG.g1.lt x hx).1; omega)))
        | (go_loud (refine wpl_appg_all rfl (.tmp 60) (.tmp 61) rfl (w.heap.size + 1) v1 (opTo S F.op.length ++ clTo S F.op.length) (swTo F.op.length S F.op.length) (some A3) _ c3 rfl rfl ho1 (rows_of hg3 hl3) (fun kk hkk ad u _ _ hp _ g hg => ho1.row_ne hp g hg) rfl (Nat.le_trans hs1 hk1.le) hll2 ?_; intro v2 w2 ho2 ht2 h42; have hk2 : Kp wb w2 := hk1.turn ht2 (fun x hx => by have h1 := (ho1.lt x hx).1; omega)))
        | fail)
      go_ret
      exact ⟨_, rfl, (ho2.mono (Nat.le_succ _)).lo_mono (Nat.le_succ _), hkw.trans hk2⟩
end Go.Proofs.Ytcekddpllpbkmaa

/- lists and most: the sets of which something is so; the one with the greatest gain. No condition. -/
import Derived.Test.YtbefnhagmejpcaaLeast
import Derived.Test.YtbefnhagmejpcaaGain
namespace Go.Proofs.Ytbefnhagmejpcaa
open Go.RowKit Go.Sort

/-- All sets of n sites, that without sites first. -/
def allS (n : Nat) : List (List Int) := [] :: setsL n
theorem allS_len (n : Nat) : (allS n).length = 2 ^ n := by
  have := setsL_len n
  have h1 : 1 ≤ 2 ^ n := Nat.one_le_two_pow
  simp only [allS, List.length_cons]; omega
theorem allS_ris {n : Nat} : ∀ S ∈ allS n, risB S 0 ((n : Int) - 1) = true := fun S h => by
  rcases List.mem_cons.1 h with rfl | h
  · rfl
  · exact (mem_setsL.1 h).2
theorem RowsAt.mono {w : World} {b b' : Nat} {A : Option Addr} {rows : List (List Int)} (h : RowsAt w (some b) A rows) (hb : b' ≤ b) : RowsAt w (some b') A rows :=
  ⟨h.1, fun k hk => by obtain ⟨ad, u, e, hc, hp⟩ := h.2 k hk; exact ⟨ad, u, e, hc, hp.mono hb⟩⟩
theorem GOwn.lo_mono {w : World} {b b' base : Nat} {v : Value} {rows : List (List Int)} (h : GOwn w (some b) base v rows) (hb : b' ≤ b) : GOwn w (some b') base v rows := by
  obtain ⟨hs, h1, h2⟩ := h
  exact ⟨hs, h1, fun j hj => by obtain ⟨u, e1, e2, e3⟩ := h2 j hj; exact ⟨u, e1, e2.mono hb, fun _ => e3 (.inr (by simp))⟩⟩
/-- A literal slice of one row. -/
theorem gown_one {w : World} {lo : Option Nat} {base : Nat} {u : Value} {xs : List Int} (hb : base ≤ w.heap.size) (hu : RowP w lo u xs) (hn : xs ≠ [] ∨ lo ≠ none) :
    GOwn (w.alloc (.cells #[u] 22)) lo base (.slice (some ⟨w.heap.size, 0, none⟩) 1 1) [xs] :=
  ⟨[u], World.ownsRow_lit w #[u] 1 hb (by unfold maxLen; omega) (by simp), fun j hj => by
    obtain rfl : j = 0 := by simpa using hj
    refine ⟨u, rfl, hu.kp ((Kp.refl w).alloc _), fun _ g hg e => ?_⟩
    have := hu.lt hn g hg
    have e2 : w.heap.size = g := by simpa [Value.ownBlock] using e
    omega⟩
theorem own_blk' {g' g n c : Nat} (h : (Value.slice (some ⟨g', 0, none⟩) n c).ownBlock = some g) : g' = g := by simpa [Value.ownBlock] using h
theorem GOwn.nil_turn {S : Nat → Prop} {w w' : World} {lo : Option Nat} {base : Nat} {v : Value} (h : GOwn w lo base v []) (ht : Turn S w w') (hn : ∀ g, v.ownBlock = some g → ¬ S g) : GOwn w' lo base v [] := by
  obtain ⟨hs, h1, _⟩ := h
  exact ⟨hs, own_turn h1 ht hn, fun j hj => by simp at hj⟩
theorem RowsAt.turn {S : Nat → Prop} {w w' : World} {b : Nat} {ad : Addr} {rows : List (List Int)} (h : RowsAt w (some b) (some ad) rows) (ht : Turn S w w') (h1 : ¬ S ad.block) (h2 : ∀ g, b ≤ g → ¬ S g) : RowsAt w' (some b) (some ad) rows :=
  ⟨h.1, fun k hk => by
    obtain ⟨ad', u, e, hc, hp⟩ := h.2 k hk
    cases e
    refine ⟨ad, u, rfl, ?_, hp.turn ht (fun _ g hg => h2 g (((hp.2 b rfl).lt g hg).1))⟩
    have hb : (ad.add k).block < w.heap.size := World.block_lt_of_cell? _ _ hc
    rw [blk_add] at hb
    have hbk : w'.heap[(ad.add k).block]? = w.heap[(ad.add k).block]? := by rw [blk_add]; exact ht.block _ hb h1
    rw [World.cell?_of_block hbk]; exact hc⟩
def filTo (p : List Int → Bool) (rows : List (List Int)) (k : Nat) : List (List Int) := (rows.take k).filter p
theorem filTo_yes {p : List Int → Bool} {rows : List (List Int)} {k : Nat} (hk : k < rows.length) (h : p rows[k] = true) : filTo p rows (k + 1) = filTo p rows k ++ [rows[k]] := by
  unfold filTo
  rw [List.take_succ_eq_append_getElem hk, List.filter_append]
  simp [h]
theorem filTo_no {p : List Int → Bool} {rows : List (List Int)} {k : Nat} (hk : k < rows.length) (h : p rows[k] = false) : filTo p rows (k + 1) = filTo p rows k := by
  unfold filTo
  rw [List.take_succ_eq_append_getElem hk, List.filter_append]
  simp [h]
theorem filTo_len (p : List Int → Bool) (rows : List (List Int)) (k : Nat) : (filTo p rows k).length ≤ rows.length := by
  unfold filTo
  exact Nat.le_trans (List.length_filter_le _ _) (by simp; omega)
/-- The rows of a list that owns them lie behind the list's first block, or ahead of it. -/
theorem apart_out {w wl : World} {lo : Nat} {u : Value} {xs : List Int} (h : RowP wl (some (w.heap.size + 1)) u xs) (hlo : lo = w.heap.size) {v : Value} (hv : ∀ g, v.ownBlock = some g → g = lo ∨ wl.heap.size ≤ g) : (xs ≠ [] ∨ some (w.heap.size + 1) ≠ none) → ∀ g, u.ownBlock = some g → v.ownBlock ≠ some g := by
  intro _ g hg e
  have h1 := (h.2 _ rfl).lt g hg
  rcases hv g e with h2 | h2 <;> omega
set_option maxRecDepth 100000 in
set_option maxHeartbeats 2000000 in
theorem lists_any (FN : FuncId) (pre caps : Array Value) (p : List Int → Bool) (Q : List Int → Prop) (n : Nat) (w : World) (hn : n ≤ 7) (hp : Tells FN pre caps p Q w) (hq : ∀ S ∈ allS n, Q S) :
    Calls Try.prog 39 #[.int .i64 n, .func (.func FN) pre caps] w fun e w' => ∃ v, e = .returned v ∧ v ≠ .slice none 0 0 ∧ GOwn w' (some w.heap.size) w.heap.size v ((allS n).filter p) ∧ Kp w w' := by
  have HM := Lib.hid hp
  have HF := hp.1
  have HQ := Lib.hid hq
  have HL := Lib.hid (allS_len n)
  have h128 : 2 ^ n ≤ 128 := Nat.pow_le_pow_right (by omega) hn
  have HL2 : Hid ((allS n).length ≤ 128) := by show _ ≤ _; rw [HL.out]; exact h128
  clear hp hq h128
  go_enter Try.func39, Try.ntmps39
  go_wp2_with fail
  have u1 := own_new0 (w.alloc (.cells #[] 22)) (w.heap.size + 1) (by simp)
  have o1 := gown_one (base := w.heap.size + 1 + 1) (by simp) (RowP.of_own u1 (by simp)) (.inr (by simp))
  have o0 := ((gown_new w (some (w.heap.size + 1)) w.heap.size (Nat.le_refl _)).one_kp (o := .cells #[] 3)).one_kp (o := .cells #[.slice (some ⟨(w.alloc (.cells #[] 22)).heap.size, 0, none⟩) 0 0] 22)
  have hkb : Kp w (((w.alloc (.cells #[] 22)).alloc (.cells #[] 3)).alloc (.cells #[.slice (some ⟨(w.alloc (.cells #[] 22)).heap.size, 0, none⟩) 0 0] 22)) := (((Kp.refl w).alloc _).alloc _).alloc _
  simp only [World.size_alloc] at o1 o0 hkb
  have hsz : Hid ((((w.alloc (.cells #[] 22)).alloc (.cells #[] 3)).alloc (.cells #[.slice (some ⟨w.heap.size + 1, 0, none⟩) 0 0] 22)).heap.size = w.heap.size + 1 + 1 + 1) := by show _ = _; simp
  clear u1
  generalize ((w.alloc (.cells #[] 22)).alloc (.cells #[] 3)).alloc (.cells #[.slice (some ⟨w.heap.size + 1, 0, none⟩) 0 0] 22) = wb at *
  have CC := Lib.hid (sets_any n wb hn)
  with_reducible refine Calls.mono CC.out ?_
  rintro e ws ⟨v2, rfl, hvn, hgo, hk1⟩
  clear CC
  have HLs : Hid ((setsL n).length ≤ 127) := by
    show _ ≤ _
    have := HL2.out
    simp only [allS, List.length_cons] at this; omega
  obtain ⟨ad2, c2, hve, _, hrows⟩ := hgo.rows_some (by have := HLs.out; omega) hvn
  subst hve
  have hkb1 := hkb.trans hk1
  have o11 := o1.kp hk1
  have o01 := o0.kp hk1
  have hrm := hrows.mono (b' := w.heap.size + 1) (by rw [hsz.out]; omega)
  clear o1 o0 hgo hvn
  have hap := Lib.hid (fun k (hk : k < (setsL n).length) (ad : Addr) (u : Value) (e : some ad2 = some ad) (hc : ws.cell? (ad.add k) = some u) (_ : RowP ws (some (w.heap.size + 1)) u (setsL n)[k]) (_ : (setsL n)[k] ≠ [] ∨ some (w.heap.size + 1) ≠ none) (g : Nat) (hg : u.ownBlock = some g) => (show (Value.slice (some ⟨w.heap.size + 1 + 1, 0, none⟩) 1 1).ownBlock ≠ some g from by
    obtain ⟨ad', u', e1, e2, e3⟩ := hrows.2 k hk
    cases e
    cases e1
    rw [e2] at hc
    cases hc
    have h1 := ((e3.2 _ rfl).lt g hg).1
    rw [hsz.out] at h1
    intro h2
    have h3 : w.heap.size + 1 + 1 = g := by simpa [Value.ownBlock] using h2
    omega))
  have hs1 : w.heap.size + 1 + 1 ≤ ws.heap.size := by have := hk1.le; rw [hsz.out] at this; omega
  have hl3 : ([[]] : List (List Int)).length + (setsL n).length ≤ 4194304 := by have := HLs.out; simp; omega
  have hlall : (([[]] : List (List Int)) ++ setsL n).length ≤ 9223372036854775807 := by rw [List.length_append]; have := HLs.out; simp; omega
  obtain ⟨m, hml⟩ : ∃ m, m = (([[]] : List (List Int)) ++ setsL n).length := ⟨_, rfl⟩
  replace hml := Lib.hid hml
  go_wp2_with (at_builtin; go_loud (refine wpl_appg_all rfl (.tmp 10) (.tmp 12) rfl (w.heap.size + 1 + 1) (.slice (some ⟨w.heap.size + 1 + 1, 0, none⟩) 1 1) [[]] (setsL n) (some ad2) _ c2 rfl rfl o11 hrm hap.out rfl hs1 hl3 ?_; intro v' w' ho' ht' h4'; obtain ⟨ld, lc, hve, _, hlr⟩ := ho'.rows_some hlall (ho'.not_nil (by simp)); subst hve; rw [← hml.out] at ho' ⊢))
  have hkl : Kp w w' := hkb1.turn ht' (fun i hi => by have h3 := own_blk' hi; omega)
  have o02 := o01.nil_turn ht' (fun g hg hh => by have h3 := own_blk' hh; have h4 := own_blk' hg; omega)
  obtain ⟨wl, rfl⟩ : ∃ wl : World, wl = w' := ⟨_, rfl⟩
  have hlb : w.heap.size + 1 + 1 ≤ ld.block := (ho'.lt ld.block rfl).1
  have hsl : w.heap.size + 1 + 1 ≤ wl.heap.size := Nat.le_trans hs1 ht'.size
  change RowsAt wl (some (w.heap.size + 1)) (some ld) (allS n) at hlr
  replace hml := Lib.hid (show m = (allS n).length from hml.out)
  clear o01 ho' hap o11 hrm hrows ht' h4' hkb1 hk1 hlall hl3
  have hm128 : m ≤ 128 := by rw [hml.out]; exact HL2.out
  obtain ⟨rows, hre⟩ : ∃ rows, rows = allS n := ⟨_, rfl⟩
  rw [← hre] at hlr hml
  have HQ2 : Hid (∀ S ∈ rows, Q S) := by show ∀ S ∈ rows, _; rw [hre]; exact HQ.out
  have HR : Hid ((allS n).filter p = rows.filter p) := by show _ = _; rw [hre]
  have HML : Hid (m = rows.length) := hml
  clear hre hml HQ HL HL2
  go_loopw [5, 15] (fun ox iv wr => ∃ (k : Nat) (ov : Value), ov = ox ∧ k ≤ m ∧ iv = .int .i64 k ∧ Hid (ov ≠ .slice none 0 0) ∧ GOwn wr (some (w.heap.size + 1)) w.heap.size ov (filTo p rows k) ∧ Hid (∀ g, ov.ownBlock = some g → g = w.heap.size ∨ wl.heap.size ≤ g) ∧ Turn (fun i => i = w.heap.size) wl wr) (fun _ iv _ => m - (intOf iv).toNat)
  case atStart => exact ⟨0, _, rfl, by omega, rfl, (by show _ ≠ _; simp), o02, (by show ∀ g, _ → _; intro g hg; exact .inl (own_blk' hg).symm), Turn.refl _ _⟩
  case round =>
    clear o02
    obtain ⟨k, ov, rfl, hk, rfl, Hv, hown, Hap, ht⟩ := hrel
    have hkb : Kp w wr := hkl.turn ht (fun i hi => by rw [hi]; exact Nat.le_refl _)
    by_cases hlt : k < m
    · have lx : k < rows.length := by rw [← HML.out]; exact hlt
      have hlr2 := hlr.turn ht (by omega) (fun g hg e => by omega)
      obtain ⟨A3, c3, hcl, hc3, hri, hrp⟩ := hlr2.some_ lx
      obtain ⟨_, u0, e0, e1, hp0⟩ := hlr.2 k lx
      have q1 := Lib.hid (HQ2.out _ (List.getElem_mem lx))
      have hfl := Lib.hid (filTo_len p rows k)
      have hapr := Lib.hid (fun (g : Nat) (hg : (Value.slice A3 rows[k].length c3).ownBlock = some g) => (show ov.ownBlock ≠ some g from by
        have h1 := ((hrp.2 _ rfl).lt g hg).1
        intro e
        rcases Hap.out g e with h2 | h2
        · omega
        · cases e0
          have hcc : (wl.cell? (ld.add k)) = wr.cell? (ld.add k) := by
            have hb : (ld.add k).block < wl.heap.size := World.block_lt_of_cell? _ _ e1
            have hbk : wr.heap[(ld.add k).block]? = wl.heap[(ld.add k).block]? := ht.block _ hb (by rw [blk_add]; omega)
            rw [World.cell?_of_block hbk]
          rw [hcc, hcl] at e1
          cases e1
          have h3 := ((hp0.2 _ rfl).lt g hg).2
          omega))
      clear e0 e1 hp0
      go_wp2_with fail
      have CC := Lib.hid (HM.out.2 rows[k] A3 c3 _ hkb q1.out hri hc3)
      with_reducible refine Calls.mono CC.out ?_
      rintro e w1 ⟨rfl, hk1⟩
      clear CC
      replace hkb := hkb.trans hk1
      replace hown := hown.kp hk1
      replace hrp := hrp.kp hk1
      have htn : Turn (fun i => i = w.heap.size) wl w1 := ht.trans (Turn.of_kp hk1)
      cases hpk : p rows[k]
      · have Hy := Lib.hid (filTo_no lx hpk)
        clear hpk
        go_wp2_with fail
        go_roundw
        case rel => exact ⟨k + 1, _, rfl, by omega, by go_num, Hv, by rw [Hy.out]; exact hown, Hap, htn⟩
        case measure => simp [intOf]; omega
      · have Hy := Lib.hid (filTo_yes lx hpk)
        have hbase : w.heap.size ≤ w1.heap.size := hkb.le
        have hfl2 : (filTo p rows k).length < 1048576 := by have := hfl.out; have := HML.out; omega
        have hsl1 : wl.heap.size ≤ w1.heap.size := htn.size
        clear hpk
        go_wp2_with (at_builtin; go_loud (refine wpl_appg rfl (.tmp 22) (.tmp 24) rfl w.heap.size ov (filTo p rows k) rows[k] (.slice A3 rows[k].length c3) rfl rfl hown hrp (fun _ g hg => hapr.out g hg) hbase hfl2 ?_; intro v' w' ho' ht' h4'))
        go_roundw
        case rel =>
          refine ⟨k + 1, _, rfl, by omega, by go_num, ho'.not_nil (by simp), by rw [Hy.out]; exact ho', ?_, ?_⟩
          · show ∀ g, _ → _
            intro g hg
            rcases h4' with e | e
            · exact Hap.out g (e ▸ hg)
            · exact .inr (by have := e g hg; omega)
          · refine ⟨ht'.os.trans htn.os, ht'.tape.trans htn.tape, ht'.output.trans htn.output, Nat.le_trans htn.size ht'.size, fun i hi hn => ?_⟩
            rw [ht'.block i (by omega) (fun e => by rcases Hap.out i e with h | h; exact hn h; omega), htn.block i hi hn]
        case measure => simp [intOf]; omega
    · obtain rfl : k = m := by omega
      have He : Hid (filTo p rows k = (allS n).filter p) := by show _ = _; rw [HR.out, HML.out]; unfold filTo; rw [List.take_length]
      go_wp2_with fail
      go_ret
      exact ⟨_, rfl, Hv.out, by rw [← He.out]; exact hown.lo_mono (Nat.le_succ _), hkb⟩
end Go.Proofs.Ytbefnhagmejpcaa

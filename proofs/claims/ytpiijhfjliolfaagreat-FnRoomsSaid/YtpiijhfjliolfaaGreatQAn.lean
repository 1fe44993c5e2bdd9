/- A flow of least cost: the program. No condition. -/
import Derived.Test.YtpiijhfjliolfaaGreatQAl
import Derived.Test.YtpiijhfjliolfaaGreatQAm
import Derived.Test.YtpiijhfjliolfaaGreatQAk
namespace Go.Proofs.YtpiijhfjliolfaaGreat
open Go.RowKit Go.Sort

theorem map_lget {xs : List Int} {M : Nat} (h : xs.length = M) : mapTo (lget xs) M = xs := by
  apply List.ext_getElem
  · rw [mapTo_len, h]
  · intro i h1 h2
    rw [mapTo_get (by rw [mapTo_len] at h1; exact h1), lget_at h2]
theorem mat_nil (w : World) (base M : Nat) (Bk Ck : Nat → Nat) (f : Nat → Nat → Int) (hb : base ≤ w.heap.size) : Mat (w.alloc (.cells #[] 24)) base w.heap.size 0 0 M Bk Ck f :=
  ⟨World.ownsRow_lit w #[] 0 hb (by unfold maxLen; omega) (by simp), fun j hj => by omega, fun i j hi => by omega⟩
theorem Mat.add {w w' : World} {base g cap k M g' c' : Nat} {Bk Ck : Nat → Nat} (h : Mat w base g cap k M Bk Ck (fun _ _ => 0)) (hM : M ≤ 1000)
    (ho : w'.ownsRow base 24 1 (.slice (some ⟨g', 0, none⟩) (k + 1) c') (k + 1) (((List.range k).map fun j => Value.slice (some ⟨Bk j, 0, none⟩) M (Ck j)) ++ [Value.slice (some ⟨w.heap.size, 0, none⟩) M M]))
    (ht : Turn (fun i => (Value.slice (some ⟨g, 0, none⟩) k cap).ownBlock = some i) (w.alloc (.cells (madeCells #[.int .i64 0] M) 3)) w') :
    Mat w' base g' c' (k + 1) M (fun j => if j = k then w.heap.size else Bk j) (fun j => if j = k then M else Ck j) (fun _ _ => 0) := by
  have hg := h.glt
  refine ⟨?_, fun j hj => ?_, fun i j hi hj hne => ?_⟩
  · have e : ((List.range k).map fun j => Value.slice (some ⟨Bk j, 0, none⟩) M (Ck j)) ++ [Value.slice (some ⟨w.heap.size, 0, none⟩) M M] = (List.range (k + 1)).map fun j => Value.slice (some ⟨(fun j => if j = k then w.heap.size else Bk j) j, 0, none⟩) M ((fun j => if j = k then M else Ck j) j) := by
      rw [List.range_succ, List.map_append]
      congr 1
      · apply List.map_congr_left
        intro j hj
        have : j < k := List.mem_range.1 hj
        have hjk : ¬ j = k := by omega
        simp only [if_neg hjk]
      · simp
    rw [← e]; exact ho
  · have hz : mapTo (fun _ => (0 : Int)) M = List.replicate M 0 := by
      apply List.ext_getElem
      · simp [mapTo]
      · intro i h1 h2; simp [mapTo]
    have hs : ∀ (b : Nat) (k2 : Nat) (n c : Nat), (Value.slice (some ⟨b, 0, none⟩) n c).ownBlock = some k2 → b = k2 := fun b k2 n c hh => by simpa [Value.ownBlock] using hh
    by_cases e : j = k
    · subst e
      simp only [if_pos]
      rw [hz]
      exact (own_made w base M (by omega) (by omega)).turn ht (fun k2 h1 h2 => by have := hs _ _ _ _ h1; have := hs _ _ _ _ h2; omega)
    · simp only [if_neg e]
      have hr := h.row j (by omega)
      have hb := h.gne (j := j) (by omega)
      exact (hr.kp ((Kp.refl _).alloc _)).turn ht (fun k2 h1 h2 => by have := hs _ _ _ _ h1; have := hs _ _ _ _ h2; omega)
  · have hlt : ∀ i, i < k → Bk i < w.heap.size := fun i hi => (h.lt hi).2
    by_cases e1 : i = k
    · by_cases e2 : j = k
      · omega
      · simp only [if_pos e1, if_neg e2]; have := hlt j (by omega); omega
    · by_cases e2 : j = k
      · simp only [if_neg e1, if_pos e2]; have := hlt i (by omega); omega
      · simp only [if_neg e1, if_neg e2]; exact h.apart i j (by omega) (by omega) hne
theorem Mat.mono {w : World} {base base' g cap J M : Nat} {B Cp : Nat → Nat} {f : Nat → Nat → Int} (h : Mat w base g cap J M B Cp f) (hb : base' ≤ base) : Mat w base' g cap J M B Cp f := by
  refine ⟨⟨h.hd.1, ?_⟩, fun j hj => (h.row j hj).mono hb, h.apart⟩
  rcases h.hd.2 with hh | ⟨g, cap, cur, e, hg, rest⟩
  · exact .inl hh
  · exact .inr ⟨g, cap, cur, e, Nat.le_trans hb hg, rest⟩
/-- What becomes of a search for a flow. -/
def FlowPost (w : World) (J M : Nat) (d : Nat → Nat → Int) (may : Nat → Nat → Bool) (nd rm : Nat → Int) (e : Ending) (w' : World) : Prop :=
  (∃ (g cap : Nat) (Bk Ck : Nat → Nat) (fl : Nat → Nat → Int) (lf : Nat → Int), e = .returned (.tuple #[.slice (some ⟨g, 0, none⟩) J cap, .bool true]) ∧ Mat w' w.heap.size g cap J M Bk Ck fl ∧ Net J M d may rm fl lf ∧ (∀ i, i < J → rowS M fl i = nd i) ∧ Kp w w') ∨
  (e = .returned (.tuple #[.slice none 0 0, .bool false]) ∧ Kp w w' ∧ (∀ x, ¬ Haul J M may nd rm x) ∧ ∃ j, j < J ∧ sumTo (fun a => if may j a = true then rm a else 0) M < sumTo nd J)
set_option maxRecDepth 100000 in
set_option maxHeartbeats 2000000 in
theorem flow_any (f : Value) (F : Fld) (A1 : Option Addr) (rooms : List Int) (n1 c1 : Nat) (A2 : Option Addr) (needs : List Int) (n2 c2 : Nat) (FN : FuncId) (caps : Array Value) (may : Nat → Nat → Bool) (w : World) (hf : FldAt w f F) (hg : goodF F = true)
    (h1 : IntsAt w A1 rooms) (hn1 : rooms.length = n1) (h2 : IntsAt w A2 needs) (hn2 : needs.length = n2) (hM : n1 = F.op.length) (hJ : n2 = F.di.length) (hcan : Can FN caps F.di.length F.op.length may w) (hr0 : ∀ x, 0 ≤ lget rooms x ∧ lget rooms x ≤ 1000) (hd0 : ∀ x, 0 ≤ lget needs x ∧ lget needs x ≤ 1000) :
    Calls Tryz.prog 56 #[f, .slice A1 n1 c1, .slice A2 n2 c2, .func (.func FN) #[] caps] w (FlowPost w F.di.length F.op.length (dF F) may (lget needs) (lget rooms)) := by
  subst hM
  subst hJ
  have h7 := (goodF_iff.1 hg).1
  have h8 := (goodF_iff.1 hg).2.2.1
  obtain ⟨ad1, rfl⟩ : ∃ ad1, A1 = some ad1 := by
    obtain ⟨ad, e, _⟩ := h1.at_ (k := 0) (by omega)
    exact ⟨ad, e⟩
  obtain ⟨A, c, B, d, rfl, hA, hB⟩ := hf
  have hk0 : Kp w (w.alloc (.cells #[.slice A F.op.length c, .slice B F.di.length d] 27)) := (Kp.refl w).alloc _
  obtain ⟨d0, d1⟩ := box2 w (.slice A F.op.length c) (.slice B F.di.length d) 27
  have hFA := FldAt.kp (show FldAt w (.agg #[.slice A F.op.length c, .slice B F.di.length d]) F from ⟨A, c, B, d, rfl, hA, hB⟩) hk0
  have HG := Lib.hid hg
  have HC := Lib.hid (hcan.kp hk0)
  have H1 := Lib.hid (h1.kp hk0)
  have H2 := Lib.hid (h2.kp hk0)
  have Hn1 := Lib.hid hn1
  have Hn2 := Lib.hid hn2
  have HR := Lib.hid hr0
  have HD := Lib.hid hd0
  have hmk := run_make_row' (P := Tryz.prog) 24 3 (.int .i64 0) 8 Tryz.underlying24 infoInt rfl .i64 .i64 F.op.length (by omega) (by omega)
  clear hA hB hg hcan h1 h2 hn1 hn2 hr0 hd0
  go_enter Tryz.func56, Tryz.ntmps56
  go_wp2_with fail
  have hsz : Hid ((w.alloc (.cells #[.slice A F.op.length c, .slice B F.di.length d] 27)).heap.size = w.heap.size + 1) := by show _ = _; simp
  generalize w.alloc (.cells #[.slice A F.op.length c, .slice B F.di.length d] 27) = wb at *
  have hkb : Kp wb wb := Kp.refl _
  have hkw := hk0
  have ka := (Kp.refl wb).alloc (.cells #[] 24)
  have hm0 : ∀ bs, bs ≤ wb.heap.size → Mat (wb.alloc (.cells #[] 24)) bs (w.heap.size + 1) 0 0 F.op.length (fun _ => 0) (fun _ => 0) (fun _ _ => 0) := fun bs hb => by
    have := mat_nil wb bs F.op.length (fun _ => 0) (fun _ => 0) (fun _ _ => 0) hb
    rw [hsz.out] at this; exact this
  have CC := Lib.hid (clone_some ad1 rooms F.op.length c1 _ (H1.out.kp ka) Hn1.out (by omega))
  with_reducible refine Calls.mono CC.out ?_
  rintro e w1 ⟨v, rfl, ol, hk1⟩
  clear CC
  obtain ⟨gl, cl, rfl⟩ := ol.at0 Hn1.out h7.1
  have hm1 := (hm0 _ (Nat.le_refl _)).kp hk1
  replace hkb := ka.trans hk1
  have hgl0 := (ol.lt gl rfl).1
  replace ol := ol.mono (base' := wb.heap.size) ka.le
  simp only [World.size_alloc] at hgl0
  rw [← map_lget Hn1.out] at ol
  clear hm0 ka hk1
  go_wp2_with fail
  go_loopw [10, 19] (fun ov iv wr => ∃ (k g cap : Nat) (Bk Ck : Nat → Nat), k ≤ F.di.length ∧ iv = .int .i64 k ∧ ov = .slice (some ⟨g, 0, none⟩) k cap ∧ Mat wr wb.heap.size g cap k F.op.length Bk Ck (fun _ _ => 0) ∧ Own wr wb.heap.size (.slice (some ⟨gl, 0, none⟩) F.op.length cl) (mapTo (lget rooms) F.op.length) ∧ Hid (∀ j, j < k → Bk j ≠ gl) ∧ Kp wb wr) (fun _ iv _ => F.di.length - (intOf iv).toNat)
  case atStart => exact ⟨0, _, _, _, _, by omega, rfl, rfl, hm1, ol, fun j hj => by omega, hkb⟩
  case round =>
    clear hm1 ol hkb
    obtain ⟨k, g, cap, Bk, Ck, hk, rfl, rfl, hm, ol, HGl, hkb⟩ := hrel
    by_cases hlk : k < F.di.length
    · have hg0 := hm.glt
      have hgl1 := (ol.lt gl rfl).2
      have HMt := Lib.hid hm
      have hd1 := (Kp.refl wr).alloc (.cells (madeCells #[.int .i64 0] F.op.length) 3) |>.own hm.hd
      have hbs := hkb.le
      go_wp2_with (at_builtin; go_loud (refine wpl_appv rfl (.tmp 21) (.tmp 25) rfl wb.heap.size (.slice (some ⟨g, 0, none⟩) k cap) k _ (.slice (some ⟨wr.heap.size, 0, none⟩) F.op.length F.op.length) rfl (by simp; rfl) hd1 rfl (by simp; omega) (by omega) ?_; intro g' c' w' ho' ht' hg4))
      have HM2 := Lib.hid (Mat.add HMt.out (by omega) ho' ((Turn.of_kp (Kp.refl _)).trans ht'))
      have hb0 := (World.ownsRow.lt ho' g' rfl).1
      have htg : Turn (fun i => i = g) wr w' := ((Turn.of_kp ((Kp.refl wr).alloc _)).trans (ht'.mono fun i e => (show g = i by simpa [Value.ownBlock] using e).symm))
      have OL := Lib.hid (ol.other htg (own_ne_hd ol HMt.out.hd (k := gl) rfl))
      have HK := Lib.hid (hkb.turn htg (fun i e => by subst e; exact hg0.1))
      have HGn : Hid (∀ j, j < k + 1 → (fun j => if j = k then wr.heap.size else Bk j) j ≠ gl) := fun j hj => by
        by_cases e : j = k
        · simp only [if_pos e]; omega
        · simp only [if_neg e]; exact HGl.out j (by omega)
      clear ho' ht' htg hd1 hm
      go_wp2_with fail
      go_roundw
      case rel => exact ⟨k + 1, g', c', _, _, by omega, by go_num, rfl, HM2.out, OL.out, HGn, HK.out⟩
      case measure => simp [intOf]; omega
    · obtain rfl : k = F.di.length := by omega
      have hz : ∀ i, rowS F.op.length (fun _ _ => (0 : Int)) i = 0 := fun i => sumTo_c0 _
      have hN0 : Hid (Net F.di.length F.op.length (dF F) may (lget rooms) (fun _ _ => 0) (lget rooms)) := Net.zero (fun j a => (dF_bd HG.out j a).1) (fun x _ => (HR.out x).1)
      go_wp2_with fail
      go_loopw [30] (fun iv wr => ∃ (i : Nat) (fl : Nat → Nat → Int) (lf : Nat → Int), i ≤ F.di.length ∧ iv = .int .i64 i ∧ Mat wr wb.heap.size g cap F.di.length F.op.length Bk Ck fl ∧ Own wr wb.heap.size (.slice (some ⟨gl, 0, none⟩) F.op.length cl) (mapTo lf F.op.length) ∧ Hid (Net F.di.length F.op.length (dF F) may (lget rooms) fl lf) ∧ Hid (∀ j, j < F.di.length → rowS F.op.length fl j = if j < i then lget needs j else 0) ∧ Kp wb wr) (fun iv _ => F.di.length - (intOf iv).toNat)
      case atStart => exact ⟨0, _, _, by omega, rfl, hm, ol, hN0, (fun j _ => by rw [hz, if_neg (by omega)]), hkb⟩
      case round =>
        clear hm ol hkb
        obtain ⟨i, fl, lf, hi, rfl, hm, ol, HN, HRw, hkb⟩ := hrel
        by_cases hli : i < F.di.length
        · have lx : i < needs.length := by rw [Hn2.out]; exact hli
          obtain ⟨ad2, rfl, hcn⟩ := (H2.out.kp hkb).at_ lx
          have hd := HD.out i
          rw [← lget_at lx] at hcn
          obtain ⟨nd, Hnd⟩ : ∃ z, Hid (lget needs i = z) := ⟨_, rfl⟩
          rw [Hnd.out] at hcn hd
          have hliI : (i : Int) < (F.di.length : Int) := by omega
          go_wp2_with fail
          go_loopw [36] (fun uv wr => ∃ (u : Nat) (fl : Nat → Nat → Int) (lf : Nat → Int), (u : Int) ≤ nd ∧ uv = .int .i64 u ∧ Mat wr wb.heap.size g cap F.di.length F.op.length Bk Ck fl ∧ Own wr wb.heap.size (.slice (some ⟨gl, 0, none⟩) F.op.length cl) (mapTo lf F.op.length) ∧ Hid (Net F.di.length F.op.length (dF F) may (lget rooms) fl lf) ∧ Hid (∀ j, j < F.di.length → rowS F.op.length fl j = if j < i then lget needs j else if j = i then (u : Int) else 0) ∧ Kp wb wr) (fun uv _ => (nd - intOf uv).toNat)
          case atStart => exact ⟨0, fl, lf, by omega, rfl, hm, ol, HN, (fun j hj => by rw [HRw.out j hj]; (repeat' split) <;> first | rfl | omega), hkb⟩
          case round =>
            clear hm ol hkb hcn HN HRw
            obtain ⟨u, fl, lf, hu, rfl, hm, ol, HN, HRw, hkb⟩ := hrel
            by_cases hlu : (u : Int) < nd
            · have CP := Lib.hid (push_any _ F F.di.length F.op.length g cap Bk Ck fl gl cl lf (lget rooms) i FN caps may wb.heap.size wr (hFA.kp hkb) HG.out rfl rfl hm ol HGl.out (HC.out.kp hkb) hli HN.out (fun x _ => (HR.out x).2))
              have q0 := hkb.get d0
              have q1 := hkb.get d1
              go_wp2_with fail
              with_reducible refine Calls.mono CP.out ?_
              rintro e wq hpost
              clear CP q0 q1
              rcases hpost with ⟨fl', lf', rfl, hm', ol', hN', hR', ht'⟩ | ⟨rfl, hkq, hNo⟩
              · have HN2 := Lib.hid hN'
                have HR2 : Hid (∀ j, j < F.di.length → rowS F.op.length fl' j = if j < i then lget needs j else if j = i then ((u + 1 : Nat) : Int) else 0) := fun j hj => by
                  rw [hR' j hj, HRw.out j hj]
                  by_cases e : j = i
                  · rw [if_neg (by omega), if_pos e, if_pos e, if_neg (by omega), if_pos e]; omega
                  · rw [if_neg e, if_neg e, if_neg e]; split <;> omega
                have hk2 := hkb.turn ht' (fun k hk => hk)
                clear hR' hN' ht'
                go_wp2_with fail
                go_roundw
                case rel => exact ⟨u + 1, fl', lf', by omega, by go_num, hm', ol', HN2, HR2, hk2⟩
                case measure => simp [intOf]; omega
              · have HNo := Lib.hid (hNo (lget needs) (fun j hj => by
                  rw [HRw.out j hj]
                  have := HD.out j
                  by_cases e : j = i
                  · subst e; rw [if_neg (by omega), if_pos rfl, Hnd.out]; omega
                  · rw [if_neg e]; split <;> omega) (by rw [HRw.out i hli, if_neg (by omega), if_pos rfl, Hnd.out]; exact hlu))
                have hkf := hkw.trans (hkb.trans hkq)
                have hpost : FlowPost w F.di.length F.op.length (dF F) may (lget needs) (lget rooms) (.returned (.tuple #[.slice none 0 0, .bool false])) wq := .inr ⟨rfl, hkf, HNo.out.1, i, hli, HNo.out.2⟩
                clear hNo
                go_wp2_with fail
                go_ret2
                exact hpost
            · have HR2 : Hid (∀ j, j < F.di.length → rowS F.op.length fl j = if j < i + 1 then lget needs j else 0) := fun j hj => by
                rw [HRw.out j hj]
                by_cases e : j = i
                · subst e; rw [if_neg (by omega), if_pos rfl, if_pos (by omega), Hnd.out]; omega
                · rw [if_neg e]
                  by_cases h : j < i
                  · rw [if_pos h, if_pos (by omega)]
                  · rw [if_neg h, if_neg (by omega)]
              go_wp2_with fail
              go_roundw
              case rel => exact ⟨i + 1, fl, lf, by omega, by go_num, hm, ol, HN, HR2, hkb⟩
              case measure => simp [intOf]; omega
        · obtain rfl : i = F.di.length := by omega
          have hfin : FlowPost w F.di.length F.op.length (dF F) may (lget needs) (lget rooms) (.returned (.tuple #[.slice (some ⟨g, 0, none⟩) F.di.length cap, .bool true])) wr :=
            .inl ⟨g, cap, Bk, Ck, fl, lf, rfl, hm.mono hkw.le, HN.out, fun j hj => by rw [HRw.out j hj, if_pos hj], hkw.trans hkb⟩
          go_wp2_with fail
          go_ret2
          exact hfin
end Go.Proofs.YtpiijhfjliolfaaGreat

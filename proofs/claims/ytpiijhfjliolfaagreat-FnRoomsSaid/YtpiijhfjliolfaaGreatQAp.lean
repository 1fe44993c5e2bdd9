/- The reference's ways of least cost: one round of the innermost loop. No condition. -/
import Derived.Test.YtpiijhfjliolfaaGreatQAo
import Derived.StillTailTactics
namespace Go.Proofs.YtpiijhfjliolfaaGreat
open Go.RowKit Go.Sort

def findBlock (n : Nat) : Code → Option Code
  | .block m c => if m = n then some c else findBlock n c
  | .loop c => findBlock n c
  | .seq a b => match findBlock n a with
    | some c => some c
    | none => findBlock n b
  | .scope c => findBlock n c
  | .cond _ a b => match findBlock n a with
    | some c => some c
    | none => findBlock n b
  | _ => none
def firstLoop : Code → Option Code
  | .loop c => some c
  | .seq a b => match firstLoop a with
    | some c => some c
    | none => firstLoop b
  | .block _ c => firstLoop c
  | .scope c => firstLoop c
  | .cond _ a b => match firstLoop a with
    | some c => some c
    | none => firstLoop b
  | _ => none
noncomputable def l7Round : Code := ((Tryz.f109.body.bind (findBlock 8)).bind firstLoop).getD .skip
set_option maxRecDepth 100000 in
set_option maxHeartbeats 4000000 in
theorem l7Least_round (F : Fld) (L : NetL) (nl lf : Nat → Int) (fl : Nat → Nat → Int) (may : Nat → Nat → Bool) (base : Nat) (w wb wr : World) (A : Option Addr) (c : Nat) (B : Option Addr) (d : Nat) (gc gs gb gf bp : Nat) (pc ps : Nat → Int) (T s0 : Int) (j a : Nat) (ch : Bool) (cl si be fr : List Int) (Q0 : Exit → Act → World → Prop) (R : Act → World → Prop)
    (h7 : 1 ≤ F.op.length ∧ F.op.length ≤ 7) (h8 : F.di.length ≤ 7) (HG : Hid (goodF F = true)) (HS1 : Hid (NetS wb base L F.di.length F.op.length nl lf fl may)) (HB1 : Hid (GridAt wb B F.di)) (HP : Hid (Pot F.di.length F.op.length (dF F) may fl lf pc ps T))
    (d0 : wb.cell? ⟨w.heap.size, 0, none⟩ = some (.slice A F.op.length c)) (d1 : wb.cell? ⟨w.heap.size, 1, none⟩ = some (.slice B F.di.length d)) (n2' : wb.cell? ⟨w.heap.size + 1, 2, none⟩ = some (.slice (some ⟨L.g, 0, none⟩) F.di.length L.cf)) (n3' : wb.cell? ⟨w.heap.size + 1, 3, none⟩ = some (.slice (some ⟨L.gm, 0, none⟩) F.di.length L.cm))
    (hlj : j < F.di.length) (hla : a < F.op.length) (hst : LSt wb wr bp gc gs gb gf F.di.length F.op.length cl si be fr) (HBS : Hid (Bss F.di.length F.op.length (dF F) may fl pc ps nl cl si be fr)) (HPa : Hid (PassS F.di.length F.op.length (dF F) may fl cl si ch j a)) (HFe : Hid (FellS F.di.length F.op.length s0 cl si ch))
    (u11 u12 u13 u14 u15 u16 u17 u18 u19 u20 u21 u22 u23 u24 u25 u26 u27 u28 u29 u30 u31 u32 u33 u34 u35 u36 u37 u38 u39 u40 u41 u42 u43 u44 u45 u46 u47 u48 u49 u50 u51 u52 u53 u54 u55 u56 u57 u58 u59 u60 u61 u62 u63 u64 u65 u66 u67 u68 u69 u70 u71 u72 u73 u74 u75 u76 u77 u78 u79 u80 u81 u82 u83 u84 u85 u86 u87 u88 u89 u90 u91 u92 u93 u94 u95 u96 u97 u98 u99 u100 u101 u102 u103 u104 u105 u106 u107 u108 u109 u110 u111 u112 u113 u114 u115 u116 u117 u118 u119 u120 u121 u122 u123 u124 u125 u126 u127 u128 u129 u130 u131 u132 u133 u134 u135 u136 u137 u138 u139 u140 u141 u142 u143 u144 u145 u146 u147 u148 u149 u150 u151 u152 u153 u154 u155 u156 u157 u158 u159 u160 u161 u162 u163 u164 u165 u166 u167 u168 u169 u170 u171 u172 u173 u174 u175 u176 u177 u178 u179 : Value)
    (hR : ∀ (ch' : Bool) (cl' si' be' fr' : List Int) (cv av : Value) (w' : World) (x11 x69 x70 x71 x72 x73 x74 x75 x76 x77 x78 x79 x80 x81 x82 x83 x84 x85 x86 x87 x88 x89 x90 x91 x92 x93 x94 x95 x96 x97 x98 x99 x100 x101 x102 x103 x104 x105 x106 x107 x108 x109 x110 x111 x112 x113 x114 x115 x116 x117 x118 x119 x120 x121 x122 x123 x124 x125 x126 x127 x128 x129 x130 x131 x132 x133 x134 x135 x136 x137 x138 x139 x140 x141 x142 x143 x144 x145 x146 x147 x148 x149 x150 x151 x152 x153 x154 x155 x156 x157 x158 x159 x160 x161 x162 x163 x164 x165 x166 x167 x168 x169 x170 x171 x172 x173 x174 x175 x176 x177 x178 : Value), av = .int .i64 ((a + 1 : Nat) : Int) → cv = .bool ch' → LSt wb w' bp gc gs gb gf F.di.length F.op.length cl' si' be' fr' → Hid (Bss F.di.length F.op.length (dF F) may fl pc ps nl cl' si' be' fr') → Hid (PassS F.di.length F.op.length (dF F) may fl cl' si' ch' j (a + 1)) → Hid (FellS F.di.length F.op.length s0 cl' si' ch') → R ⟨#[Value.agg #[Value.slice A F.op.length c, Value.slice B F.di.length d], Value.agg #[Value.slice L.nA F.di.length L.cn, Value.slice (some ⟨L.gr, 0, none⟩) F.op.length L.cr, Value.slice L.fA F.di.length L.cf, Value.slice L.mA F.di.length L.cm], Value.pointer (some ⟨w.heap.size, 0, none⟩), Value.pointer (some ⟨w.heap.size + 1, 0, none⟩), Value.pointer (some ⟨w.heap.size + 1 + 1, 0, none⟩), Value.pointer (some ⟨bp, 0, none⟩), Value.int .i64 (F.di.length : Int), Value.int .i64 (F.op.length : Int), cv, Value.int .i64 (j : Int), av, x11, u12, u13, u14, u15, u16, u17, u18, u19, u20, u21, u22, u23, u24, u25, u26, u27, u28, u29, u30, u31, u32, u33, u34, u35, u36, u37, u38, u39, u40, u41, u42, u43, u44, u45, u46, u47, u48, u49, u50, u51, u52, u53, u54, u55, u56, u57, u58, u59, u60, u61, u62, u63, u64, u65, u66, u67, u68, x69, x70, x71, x72, x73, x74, x75, x76, x77, x78, x79, x80, x81, x82, x83, x84, x85, x86, x87, x88, x89, x90, x91, x92, x93, x94, x95, x96, x97, x98, x99, x100, x101, x102, x103, x104, x105, x106, x107, x108, x109, x110, x111, x112, x113, x114, x115, x116, x117, x118, x119, x120, x121, x122, x123, x124, x125, x126, x127, x128, x129, x130, x131, x132, x133, x134, x135, x136, x137, x138, x139, x140, x141, x142, x143, x144, x145, x146, x147, x148, x149, x150, x151, x152, x153, x154, x155, x156, x157, x158, x159, x160, x161, x162, x163, x164, x165, x166, x167, x168, x169, x170, x171, x172, x173, x174, x175, x176, x177, x178, u179], []⟩ w') :
    Code.wp Tryz.prog l7Round (Exit.then R Q0) ⟨#[Value.agg #[Value.slice A F.op.length c, Value.slice B F.di.length d], Value.agg #[Value.slice L.nA F.di.length L.cn, Value.slice (some ⟨L.gr, 0, none⟩) F.op.length L.cr, Value.slice L.fA F.di.length L.cf, Value.slice L.mA F.di.length L.cm], Value.pointer (some ⟨w.heap.size, 0, none⟩), Value.pointer (some ⟨w.heap.size + 1, 0, none⟩), Value.pointer (some ⟨w.heap.size + 1 + 1, 0, none⟩), Value.pointer (some ⟨bp, 0, none⟩), Value.int .i64 (F.di.length : Int), Value.int .i64 (F.op.length : Int), (Value.bool ch), Value.int .i64 (j : Int), (Value.int .i64 (a : Int)), u11, u12, u13, u14, u15, u16, u17, u18, u19, u20, u21, u22, u23, u24, u25, u26, u27, u28, u29, u30, u31, u32, u33, u34, u35, u36, u37, u38, u39, u40, u41, u42, u43, u44, u45, u46, u47, u48, u49, u50, u51, u52, u53, u54, u55, u56, u57, u58, u59, u60, u61, u62, u63, u64, u65, u66, u67, u68, u69, u70, u71, u72, u73, u74, u75, u76, u77, u78, u79, u80, u81, u82, u83, u84, u85, u86, u87, u88, u89, u90, u91, u92, u93, u94, u95, u96, u97, u98, u99, u100, u101, u102, u103, u104, u105, u106, u107, u108, u109, u110, u111, u112, u113, u114, u115, u116, u117, u118, u119, u120, u121, u122, u123, u124, u125, u126, u127, u128, u129, u130, u131, u132, u133, u134, u135, u136, u137, u138, u139, u140, u141, u142, u143, u144, u145, u146, u147, u148, u149, u150, u151, u152, u153, u154, u155, u156, u157, u158, u159, u160, u161, u162, u163, u164, u165, u166, u167, u168, u169, u170, u171, u172, u173, u174, u175, u176, u177, u178, u179], []⟩ wr := by
  have HR := Lib.hid hR
  clear hR
  conv => arg 2; whnf
  have hljI : (j : Int) < (F.di.length : Int) := by omega
  have ad1 : (⟨L.gm, 0, none⟩ : Addr).add j = ⟨L.gm, j, none⟩ := add0 _ _
  have ad2 : (⟨L.g, 0, none⟩ : Addr).add j = ⟨L.g, j, none⟩ := add0 _ _
  have ad3 : (⟨gc, 0, none⟩ : Addr).add j = ⟨gc, j, none⟩ := add0 _ _
  have ad4 : (⟨gb, 0, none⟩ : Addr).add j = ⟨gb, j, none⟩ := add0 _ _
  have hlaI : (a : Int) < (F.op.length : Int) := by omega
  have ad5 : (⟨L.Bm j, 0, none⟩ : Addr).add a = ⟨L.Bm j, a, none⟩ := add0 _ _
  have ad6 : (⟨L.Bk j, 0, none⟩ : Addr).add a = ⟨L.Bk j, a, none⟩ := add0 _ _
  have ad7 : (⟨gs, 0, none⟩ : Addr).add a = ⟨gs, a, none⟩ := add0 _ _
  have ad8 : (⟨gf, 0, none⟩ : Addr).add a = ⟨gf, a, none⟩ := add0 _ _
  obtain ⟨dd, Hdd⟩ : ∃ z, Hid (dF F j a = z) := ⟨_, rfl⟩
  have hdb := dF_bd HG.out j a
  rw [Hdd.out] at hdb
  obtain ⟨fv, Hfv⟩ : ∃ z, Hid (fl j a = z) := ⟨_, rfl⟩
  obtain ⟨x0, x1, x2, x3⟩ := hst.fld
  have hn := HS1.out.kp hst.kp
  obtain ⟨m1, m2⟩ := hn.hcell hlj
  have m3 := m2 a hla
  obtain ⟨f1, f2, _, _⟩ := hn.setFlow hlj hla
  have p0 := hst.kp.get d0
  have p1 := hst.kp.get d1
  have p2 := hst.kp.get n2'
  have p3 := hst.kp.get n3'
  obtain ⟨c1, _, _⟩ := hst.setC HBS.out.lcl hlj
  obtain ⟨s1, _, _⟩ := hst.setS HBS.out.lsi hla
  have lc := (HBS.out.low (dF_bd HG.out)).1 j hlj
  have ls := (HBS.out.low (dF_bd HG.out)).2 a hla
  obtain ⟨sa, Hsa⟩ : ∃ z, Hid (lget si a = z) := ⟨_, rfl⟩
  obtain ⟨cj, Hcj⟩ : ∃ z, Hid (lget cl j = z) := ⟨_, rfl⟩
  rw [Hsa.out] at s1 ls
  rw [Hcj.out] at c1 lc
  rw [Hfv.out] at f2
  unfold farN at lc ls
  clear m2 hn
  obtain ⟨bd, ar, cr, rfl, hd1, hd2⟩ := dist_row HG.out (HB1.out.kp hst.kp) hlj
  have hda := hd2 a hla
  rw [Hdd.out] at hda
  have hw1 : IntKind.i64.wrap (cj + dd) = cj + dd := IntWalk.i64_in _ (by omega)
  have HST := Lib.hid hst
  clear hd2 hst
  go_wp2_with fail
  clear hda hd1
  go_cut [114] from 69 to 178 (fun bv wc => ∃ bq : Bool, bv = .bool bq ∧ LSt wb wc bp gc gs gb gf F.di.length F.op.length cl si be fr ∧ (if bq = true then may j a = true ∧ cj < farN ∧ cj + dd < sa else ¬ (may j a = true ∧ cj < farN ∧ cj + dd < sa)))
  case first =>
    cases hmy : may j a
    · rw [hmy] at m3
      go_quiet (fail)
      go_wp2_with fail
      go_meet
      exact ⟨false, rfl, HST.out.go (by repeat (first | with_reducible assumption | with_reducible exact Kp.refl _ | with_reducible refine Kp.drew ?_ | with_reducible refine Kp.alloc ?_ _ | with_reducible refine Kp.drewN ?_ _ | refine Kp.setCell ?_ (by dsimp only; omega) _)), by rw [if_neg (by decide)]; exact fun h => by have := h.1; rw [hmy] at this; cases this⟩
    · rw [hmy] at m3
      by_cases hcf : cj < 1099511627776
      · have g2 : decide (cj < 1099511627776) = true := decide_eq_true hcf
        by_cases hlt1 : cj + dd < sa
        · have g3 : decide (cj + dd < sa) = true := decide_eq_true hlt1
          go_quiet (fail)
          go_wp2_with fail
          go_meet
          exact ⟨true, rfl, HST.out.go (by repeat (first | with_reducible assumption | with_reducible exact Kp.refl _ | with_reducible refine Kp.drew ?_ | with_reducible refine Kp.alloc ?_ _ | with_reducible refine Kp.drewN ?_ _ | refine Kp.setCell ?_ (by dsimp only; omega) _)), by rw [if_pos rfl]; unfold farN; exact ⟨hmy, hcf, hlt1⟩⟩
        · have g3 : decide (cj + dd < sa) = false := decide_eq_false hlt1
          go_quiet (fail)
          go_wp2_with fail
          go_meet
          exact ⟨false, rfl, HST.out.go (by repeat (first | with_reducible assumption | with_reducible exact Kp.refl _ | with_reducible refine Kp.drew ?_ | with_reducible refine Kp.alloc ?_ _ | with_reducible refine Kp.drewN ?_ _ | refine Kp.setCell ?_ (by dsimp only; omega) _)), by rw [if_neg (by decide)]; exact fun h => by have := h.2.2; omega⟩
      · have g2 : decide (cj < 1099511627776) = false := decide_eq_false hcf
        go_quiet (fail)
        go_wp2_with fail
        go_meet
        exact ⟨false, rfl, HST.out.go (by repeat (first | with_reducible assumption | with_reducible exact Kp.refl _ | with_reducible refine Kp.drew ?_ | with_reducible refine Kp.alloc ?_ _ | with_reducible refine Kp.drewN ?_ _ | refine Kp.setCell ?_ (by dsimp only; omega) _)), by rw [if_neg (by decide)]; unfold farN; exact fun h => by have := h.2.1; omega⟩
  case rest =>
    clear x0 x1 x2 x3 m1 m3 f1 f2 p0 p1 p2 p3 c1 s1 HST
    obtain ⟨bq, rfl, hst, HC1⟩ := hcut
    clear lc ls
    go_upto_if 114 with fail
    go_cut [8] from 69 to 178 (fun cv wc => ∃ (ch : Bool) (cl si be fr : List Int), cv = .bool ch ∧ LSt wb wc bp gc gs gb gf F.di.length F.op.length cl si be fr ∧ Hid (Bss F.di.length F.op.length (dF F) may fl pc ps nl cl si be fr) ∧ Hid (PassH F.di.length F.op.length (dF F) may fl cl si ch j a) ∧ Hid (FellS F.di.length F.op.length s0 cl si ch))
    case first =>
      cases bq
      · rw [if_neg (by decide)] at HC1
        have HPh := Lib.hid (HPa.out.half (fun h1 h2 => by rw [Hsa.out, Hcj.out, Hdd.out]; rw [Hcj.out] at h2; exact Int.not_lt.1 (fun h3 => HC1 ⟨h1, h2, h3⟩)))
        clear HC1 HPa
        go_wp2_with fail
        go_meet
        exact ⟨ch, cl, si, be, fr, rfl, hst, HBS, HPh, HFe⟩
      · rw [if_pos rfl] at HC1
        obtain ⟨hmy, hcf, hlt1⟩ := HC1
        have hlt3 : Hid (lget cl j + dF F j a < lget si a) := by show _ < _; rw [Hsa.out, Hcj.out, Hdd.out]; exact hlt1
        have hbs3 := HBS.out.site HP.out hlj hla hmy (by rw [Hcj.out]; exact hcf) hlt3.out
        have hfe3 := HFe.out.setS HBS.out.lsi hla hlt3.out
        rw [Hcj.out, Hdd.out] at hbs3 hfe3
        have HBS3 := Lib.hid hbs3
        have HFe3 := Lib.hid hfe3
        clear hbs3 hfe3 HPa hmy hcf hlt1
        obtain ⟨c2, c3, c4⟩ := hst.setS HBS.out.lsi hla
        have hstx := (c4 (cj + dd)).go (Kp.refl _).drew
        obtain ⟨b2, b3, b4⟩ := hstx.setF HBS.out.lfr hla
        have hstw := b4 (j : Int)
        obtain ⟨x0, x1, x2, x3⟩ := hst.fld
        obtain ⟨y0, y1, y2, y3⟩ := hstx.fld
        obtain ⟨s2, _, _⟩ := hst.setC HBS.out.lcl hlj
        rw [Hcj.out] at s2
        have HW := Lib.hid hstw
        clear c4 b4 hstw hstx hst
        go_wp2_with fail
        go_still_tail 11, (by kernel_rfl)
        change wpList _ _ _ _ _ _
        go_wp2_with fail
        go_meet
        exact ⟨true, cl, _, be, _, rfl, HW.out, HBS3, PassH.yes, HFe3⟩
    case rest =>
      clear HC1 hst HBS HPa HFe Hsa Hcj hw1
      obtain ⟨ch, cl, si, be, fr, rfl, hst, HBS, HPh, HFe⟩ := hcut
      obtain ⟨x0, x1, x2, x3⟩ := hst.fld
      have hn := HS1.out.kp hst.kp
      obtain ⟨m1, m2⟩ := hn.hcell hlj
      have m3 := m2 a hla
      obtain ⟨f1, f2, _, _⟩ := hn.setFlow hlj hla
      have p0 := hst.kp.get d0
      have p1 := hst.kp.get d1
      have p2 := hst.kp.get n2'
      have p3 := hst.kp.get n3'
      obtain ⟨c1, _, _⟩ := hst.setC HBS.out.lcl hlj
      obtain ⟨s1, _, _⟩ := hst.setS HBS.out.lsi hla
      have lc := (HBS.out.low (dF_bd HG.out)).1 j hlj
      have ls := (HBS.out.low (dF_bd HG.out)).2 a hla
      obtain ⟨sa, Hsa⟩ : ∃ z, Hid (lget si a = z) := ⟨_, rfl⟩
      obtain ⟨cj, Hcj⟩ : ∃ z, Hid (lget cl j = z) := ⟨_, rfl⟩
      rw [Hsa.out] at s1 ls
      rw [Hcj.out] at c1 lc
      rw [Hfv.out] at f2
      unfold farN at lc ls
      clear m2 hn
      have hw2 : IntKind.i64.wrap (sa - dd) = sa - dd := IntWalk.i64_in _ (by omega)
      have HST := Lib.hid hst
      clear hst
      go_wp2_with fail
      go_cut [162] from 69 to 178 (fun bv wc => ∃ bq : Bool, bv = .bool bq ∧ LSt wb wc bp gc gs gb gf F.di.length F.op.length cl si be fr ∧ (if bq = true then 0 < fv ∧ sa < farN ∧ sa - dd < cj else ¬ (0 < fv ∧ sa < farN ∧ sa - dd < cj)))
      case first =>
        by_cases hf0 : 0 < fv
        · have g5 : decide (0 < fv) = true := decide_eq_true hf0
          by_cases hsf : sa < 1099511627776
          · have g6 : decide (sa < 1099511627776) = true := decide_eq_true hsf
            by_cases hlt2 : sa - dd < cj
            · have g7 : decide (sa - dd < cj) = true := decide_eq_true hlt2
              go_quiet (fail)
              go_wp2_with fail
              go_meet
              exact ⟨true, rfl, HST.out.go (by repeat (first | with_reducible assumption | with_reducible exact Kp.refl _ | with_reducible refine Kp.drew ?_ | with_reducible refine Kp.alloc ?_ _ | with_reducible refine Kp.drewN ?_ _ | refine Kp.setCell ?_ (by dsimp only; omega) _)), by rw [if_pos rfl]; unfold farN; exact ⟨hf0, hsf, hlt2⟩⟩
            · have g7 : decide (sa - dd < cj) = false := decide_eq_false hlt2
              go_quiet (fail)
              go_wp2_with fail
              go_meet
              exact ⟨false, rfl, HST.out.go (by repeat (first | with_reducible assumption | with_reducible exact Kp.refl _ | with_reducible refine Kp.drew ?_ | with_reducible refine Kp.alloc ?_ _ | with_reducible refine Kp.drewN ?_ _ | refine Kp.setCell ?_ (by dsimp only; omega) _)), by rw [if_neg (by decide)]; exact fun h => by have := h.2.2; omega⟩
          · have g6 : decide (sa < 1099511627776) = false := decide_eq_false hsf
            go_quiet (fail)
            go_wp2_with fail
            go_meet
            exact ⟨false, rfl, HST.out.go (by repeat (first | with_reducible assumption | with_reducible exact Kp.refl _ | with_reducible refine Kp.drew ?_ | with_reducible refine Kp.alloc ?_ _ | with_reducible refine Kp.drewN ?_ _ | refine Kp.setCell ?_ (by dsimp only; omega) _)), by rw [if_neg (by decide)]; unfold farN; exact fun h => by have := h.2.1; omega⟩
        · have g5 : decide (0 < fv) = false := decide_eq_false hf0
          go_quiet (fail)
          go_wp2_with fail
          go_meet
          exact ⟨false, rfl, HST.out.go (by repeat (first | with_reducible assumption | with_reducible exact Kp.refl _ | with_reducible refine Kp.drew ?_ | with_reducible refine Kp.alloc ?_ _ | with_reducible refine Kp.drewN ?_ _ | refine Kp.setCell ?_ (by dsimp only; omega) _)), by rw [if_neg (by decide)]; exact fun h => by have := h.1; omega⟩
      case rest =>
        clear x0 x1 x2 x3 m1 m3 f1 f2 p0 p1 p2 p3 c1 s1 HST lc ls
        obtain ⟨bq, rfl, hst, HC1⟩ := hcut
        cases bq
        · rw [if_neg (by decide)] at HC1
          have HPn := Lib.hid (HPh.out.full (fun h1 h2 => by rw [Hsa.out, Hcj.out, Hdd.out]; rw [Hsa.out] at h2; rw [Hfv.out] at h1; exact Int.not_lt.1 (fun h3 => HC1 ⟨h1, h2, h3⟩)))
          clear HC1 HPh
          go_wp2_with fail
          exact HR.out _ _ _ _ _ _ _ _ _ _ _ _ _ _ _ _ _ _ _ _ _ _ _ _ _ _ _ _ _ _ _ _ _ _ _ _ _ _ _ _ _ _ _ _ _ _ _ _ _ _ _ _ _ _ _ _ _ _ _ _ _ _ _ _ _ _ _ _ _ _ _ _ _ _ _ _ _ _ _ _ _ _ _ _ _ _ _ _ _ _ _ _ _ _ _ _ _ _ _ _ _ _ _ _ _ _ _ _ _ _ _ _ _ _ _ _ _ _ _ (by go_num) rfl hst HBS HPn HFe
        · rw [if_pos rfl] at HC1
          obtain ⟨hf0, hsf, hlt2⟩ := HC1
          have hlt3 : Hid (lget si a - dF F j a < lget cl j) := by show _ < _; rw [Hsa.out, Hcj.out, Hdd.out]; exact hlt2
          have hbs3 := HBS.out.client HP.out hlj hla (by rw [Hfv.out]; exact hf0) (by rw [Hsa.out]; exact hsf) hlt3.out
          have hfe3 := HFe.out.setC HBS.out.lcl hlj hlt3.out
          rw [Hsa.out, Hdd.out] at hbs3 hfe3
          have HBS3 := Lib.hid hbs3
          have HFe3 := Lib.hid hfe3
          clear hbs3 hfe3 HPh hf0 hsf hlt2
          obtain ⟨c2, c3, c4⟩ := hst.setC HBS.out.lcl hlj
          have hstx := (c4 (sa - dd)).go (Kp.refl _).drew
          obtain ⟨b2, b3, b4⟩ := hstx.setB HBS.out.lbe hlj
          have hstw := b4 (a : Int)
          obtain ⟨x0, x1, x2, x3⟩ := hst.fld
          obtain ⟨y0, y1, y2, y3⟩ := hstx.fld
          obtain ⟨s2, _, _⟩ := hst.setS HBS.out.lsi hla
          rw [Hsa.out] at s2
          have HW := Lib.hid hstw
          clear c4 b4 hstw hstx hst
          go_wp2_with fail
          go_still_tail 11, (by kernel_rfl)
          change wpList _ _ _ _ _ _
          go_wp2_with fail
          exact HR.out _ _ _ _ _ _ _ _ _ _ _ _ _ _ _ _ _ _ _ _ _ _ _ _ _ _ _ _ _ _ _ _ _ _ _ _ _ _ _ _ _ _ _ _ _ _ _ _ _ _ _ _ _ _ _ _ _ _ _ _ _ _ _ _ _ _ _ _ _ _ _ _ _ _ _ _ _ _ _ _ _ _ _ _ _ _ _ _ _ _ _ _ _ _ _ _ _ _ _ _ _ _ _ _ _ _ _ _ _ _ _ _ _ _ _ _ _ _ _ (by go_num) rfl HW.out HBS3 PassS.yes HFe3
end Go.Proofs.YtpiijhfjliolfaaGreat

/- slices.DeleteFunc of rows of the call's own: the rows of which something is so are struck out. No condition. -/
import Derived.Test.YtcekddpllpbkmaaDelLay
import Derived.Test.YtcekddpllpbkmaaLeast
namespace Go.Proofs.Ytcekddpllpbkmaa
open Go.RowKit Go.Sort Go.Shelf

theorem rows_map (rows : List (List Int)) : (List.range rows.length).map (rowD rows) = rows := by
  apply List.ext_getElem
  · simp
  · intro i hi hi2
    simp [rowD, List.getD, hi2]
theorem rowD_lt {rows : List (List Int)} {i : Nat} (h : i < rows.length) : rowD rows i = rows[i] := by simp [rowD, List.getD, h]
theorem fil_map (rows : List (List Int)) (q : List Int → Bool) : ((List.range rows.length).filter fun i => q (rowD rows i)).map (rowD rows) = rows.filter q := by
  conv => rhs; rw [← rows_map rows]
  rw [List.filter_map]; rfl
theorem fil_get {rows : List (List Int)} {q : List Int → Bool} {k : Nat} (hk : k < (rows.filter q).length) : ∃ h : k < ((List.range rows.length).filter fun i => q (rowD rows i)).length, (rows.filter q)[k] = rowD rows ((List.range rows.length).filter fun i => q (rowD rows i))[k] ∧ ((List.range rows.length).filter fun i => q (rowD rows i))[k] < rows.length := by
  have e := fil_map rows q
  have hl : ((List.range rows.length).filter fun i => q (rowD rows i)).length = (rows.filter q).length := by rw [← e, List.length_map]
  have h : k < ((List.range rows.length).filter fun i => q (rowD rows i)).length := by omega
  refine ⟨h, ?_, ?_⟩
  · have : ((((List.range rows.length).filter fun i => q (rowD rows i)).map (rowD rows)))[k]'(by rw [List.length_map]; exact h) = (rows.filter q)[k] := by simp only [e]
    rw [← this, List.getElem_map]
  · have := List.getElem_mem h
    rw [List.mem_filter] at this
    simpa using this.1
set_option maxHeartbeats 1000000 in
theorem del_any {base : Nat} {lo : Option Nat} {v : Value} {rows : List (List Int)} {w : World} (h : GOwn w lo base v rows) (hv : v ≠ .slice none 0 0) (h0 : rows ≠ []) (hl : rows.length ≤ 1000000)
    (FN : Nat) (lb : Array Value) (p : List Int → Bool) (Q : List Int → Prop) (eg : ∀ args w, (callFunc FN args).run Try.prog w = .ok (.enter FN args) w) (hq : ∀ S ∈ rows, Q S) (hq0 : Q [])
    (hC : ∀ (W : World) (A : Option Addr) (xs : List Int) (n c : Nat), Turn (fun i => v.ownBlock = some i) w W → Q xs → IntsAt W A xs → xs.length = n → Calls Try.prog FN (#[.slice A n c] ++ lb) W fun e w' => e = .returned (.bool (p xs)) ∧ ∃ q, w' = W.drewN q) :
    Calls Try.prog 51 #[v, .func (.func FN) #[] lb] w fun e w' => ∃ ad c, e = .returned (.slice (some ad) (rows.filter fun s => !p s).length c) ∧ RowsAt w' lo (some ad) (rows.filter fun s => !p s) ∧ Turn (fun i => v.ownBlock = some i) w w' := by
  obtain ⟨hs, h1, h2⟩ := h
  have hlen : hs.length = rows.length := by rw [h1.1]; omega
  rcases id h1.2 with ⟨rfl, _⟩ | ⟨g, cap, cur, rfl, hb, hg, hn, hm, hsz, ht⟩
  · exact absurd rfl hv
  have hblk : g < w.heap.size := (World.ownsRow.lt h1 g rfl).2
  have hs0 : hs = (List.range rows.length).map (hdD hs) := by
    apply List.ext_getElem
    · simp [hlen]
    · intro i hi hi2
      simp [hdD, List.getD, hi]
  have h1' : w.ownsRow base 22 1 (.slice (some ⟨g, 0, none⟩) rows.length cap) rows.length ((List.range rows.length).map (hdD hs)) := by rw [← hs0]; exact h1
  obtain ⟨g2, cap2, e2, _, hcap, _, _, _, hH⟩ := Lib.holds_of_ownsRow h1' (by simp)
  simp only [Value.slice.injEq, Option.some.injEq, Addr.mk.injEq] at e2
  obtain ⟨⟨rfl, _, _⟩, _, rfl⟩ := e2
  have one : OneCell (hdD hs) := fun i => by
    by_cases hi : i < rows.length
    · obtain ⟨u, e1, e2, _⟩ := h2 i hi
      have := e2.one
      simp [hdD, List.getD, e1, this]
    · simp [hdD, List.getD, List.getElem?_eq_none (show hs.length ≤ i by omega), Value.oneCell']
  have key : ∀ (W : World), Turn (fun i => i = g) w W → ∀ i, FnGives Try.prog FN lb #[hdD hs i] (.bool (p (rowD rows i))) W := fun W hT i => by
    have hT2 : Turn (fun i => (Value.slice (some ⟨g, 0, none⟩) rows.length cap).ownBlock = some i) w W := hT.mono (fun i hi => by rw [hi]; rfl)
    unfold FnGives
    by_cases hi : i < rows.length
    · obtain ⟨u, e1, e2, e3⟩ := h2 i hi
      have er : rowD rows i = rows[i] := by simp [rowD, List.getD, hi]
      obtain ⟨A, c, rfl, _, e5⟩ := (e2.turn hT (fun hn g' hg' hh => e3 hn g' hg' (by rw [hh]; rfl))).read
      have eh : hdD hs i = .slice A rows[i].length c := by simp [hdD, List.getD, e1]
      rw [eh, er]
      exact hC W A rows[i] _ c hT2 (hq _ (List.getElem_mem hi)) e5 rfl
    · have eh : hdD hs i = .slice none 0 0 := by simp [hdD, List.getD, List.getElem?_eq_none (show hs.length ≤ i by omega)]
      have er : rowD rows i = [] := by simp [rowD, List.getD, List.getElem?_eq_none (show rows.length ≤ i by omega)]
      rw [eh, er]
      exact hC W none [] 0 0 hT2 hq0 (IntsAt.nil _ _) rfl
  have hH' : Holds (hdD hs) w g 0 (Array.range rows.length) := by
    have e : (List.range rows.length).toArray = Array.range rows.length := by simp
    rw [← e]; exact hH
  have hcon := AnyE.slices_DeleteFunc delL (hdD hs) one (fun i => p (rowD rows i)) FN lb eg rows.length (fun w => by
      have e : hdD hs rows.length = .slice none 0 0 := by simp [hdD, List.getD, List.getElem?_eq_none (show hs.length ≤ rows.length by omega)]
      rw [e]; exact Try.zeroValue22 w) g 0 cap (Array.range rows.length) w
    (fun W x hb => key W ⟨hb.os, hb.tape, hb.output, hb.size, fun k hk _ => hb.block k hk⟩ x)
    (fun n os dk x _ => key (sortWorld (hdD hs) w g 0 n dk os) ⟨rfl, rfl, rfl, by simp [sortWorld], fun i hi hn => by
      unfold sortWorld
      rw [heap_grow_old _ _ (by simpa using hi)]
      simp [putRow, mapBlock, Sort.ahead, Array.getElem?_modify, Ne.symm hn]⟩ x) hH' (by rw [Array.size_range]; omega) (by rw [Array.size_range]; omega)
  have el : ((Array.range rows.length).toList.filter fun x => !p (rowD rows x)) = (List.range rows.length).filter fun x => !p (rowD rows x) := by simp
  have ell : ((List.range rows.length).filter fun x => !p (rowD rows x)).length = (rows.filter fun s => !p s).length := by
    rw [← fil_map rows (fun s => !p s), List.length_map]
  have hle : (rows.filter fun s => !p s).length ≤ rows.length := List.length_filter_le _ _
  rw [el, Array.size_range] at hcon
  refine Calls.mono hcon ?_
  rintro e w' ⟨rfl, q, rfl⟩
  have hT : Turn (fun i => i = g) w (putRow (hdD hs) (Sort.ahead w q) g 0 (((List.range rows.length).filter fun x => !p (rowD rows x)) ++ List.replicate (rows.length - ((List.range rows.length).filter fun x => !p (rowD rows x)).length) rows.length).toArray) := ⟨rfl, rfl, rfl, by simp [putRow, mapBlock, Sort.ahead], fun i hi hn => by
    simp [putRow, mapBlock, Sort.ahead, Array.getElem?_modify, Ne.symm hn]⟩
  have hHd := holds_putRow (hdD hs) (Sort.ahead w q) g 0 (Array.range rows.length) (((List.range rows.length).filter fun x => !p (rowD rows x)) ++ List.replicate (rows.length - ((List.range rows.length).filter fun x => !p (rowD rows x)).length) rows.length).toArray (holds_ahead _ w q g 0 _ hH') (by simp; omega)
  refine ⟨⟨g, 0, none⟩, cap, by rw [ell], ⟨by omega, fun k hk => ?_⟩, hT.mono (fun i hi => by rw [hi]; rfl)⟩
  obtain ⟨hk2, ek, hlt⟩ := fil_get hk
  obtain ⟨u, e1, e2, e3⟩ := h2 _ hlt
  have er : rowD rows ((List.range rows.length).filter fun i => !p (rowD rows i))[k] = rows[((List.range rows.length).filter fun i => !p (rowD rows i))[k]] := rowD_lt hlt
  refine ⟨⟨g, 0, none⟩, u, rfl, ?_, ?_⟩
  · have hc := (hHd k (by simp; omega)).1
    have ea : (Addr.mk g 0 none).add k = ⟨g, 0 + k, none⟩ := by simp [Addr.add]; exact fun h => h.symm
    rw [ea, hc]
    congr 1
    rw [getElem!_pos _ k (by simp; omega)]
    simp only [List.getElem_toArray]
    rw [List.getElem_append_left hk2]
    simp [hdD, List.getD, e1]
  · rw [ek, er]
    exact e2.turn hT (fun hn g' hg' hh => e3 hn g' hg' (by rw [hh]; rfl))
end Go.Proofs.Ytcekddpllpbkmaa

/- Unset, of the program and of the document. -/
import Derived.Test.YtpgcaehbbdnhiaaB4
namespace Go.Proofs.Ytpgcaehbbdnhiaa
open Go.RowKit
noncomputable def unE (l : List GNode) (k : Int) : Int := if hasB l k = false then 4 else if (nameOf l k).isEmpty = true then 3 else 0
def unL (l : List GNode) (k : Int) (nm : ByteArray) : List GNode := putAttrs l k.toNat (filA (attrsOf l k) nm.toList)
set_option maxRecDepth 100000 in
set_option maxHeartbeats 1000000 in
theorem Unset_c (A : Option Addr) (c : Nat) (l : List GNode) (k : Int) (nm : ByteArray) (w : World) (B : Nat) (hB : B ≤ w.heap.size) (hs : ∀ n ∈ l, NodeSmall reachBytes n) (hll : l.length * 88 ≤ reachBytes) (h : NodesAt w B A l) (E : Int) (hE : E = unE l k) :
    Calls Try.prog 51 #[.slice A l.length c, .int .i64 k, .string nm] w fun e w' => ∃ v, e = .returned (.tuple #[v, .int .i64 E]) ∧ DocOut w w' E (unL l k nm) v := by
  have hll' : l.length ≤ 4611686018427387904 := by unfold reachBytes at hll; omega
  have HS := Lib.hid hs
  have hb0 : Below w.heap.size w (w.alloc (Obj.cells #[.string nm] 9)) := (Below.refl _ _).alloc (Nat.le_refl _) _
  have h0 := h.below (hb0.mono hB)
  have hB0 : B ≤ (w.alloc (Obj.cells #[.string nm] 9)).heap.size := by simp; omega
  unfold unE at hE
  by_cases h1 : hasB l k = false
  · obtain rfl : E = 4 := by rw [hE, if_pos h1]
    clear hE
    go_enter Try.func51, Try.ntmps51
    go_wp2_with (go_at_call 62; refine (has_c A c l k _ B hB0 HS.out hll' h0).mono ?_; rintro e w1 ⟨rfl, hb1⟩)
    go_ret2
    exact ⟨_, rfl, DocOut.no (by omega) (hb0.trans (hb1.mono hb0.size))⟩
  have hh : hasB l k = true := by simpa using h1
  rw [if_neg h1] at hE
  obtain ⟨hi, hr⟩ := hasB_iff.1 hh
  obtain ⟨q, rfl, hq⟩ := is_nat hi
  have HR := Lib.hid hr
  obtain ⟨b, o, rfl, hbB, -⟩ := h.at_ hq
  rw [nameOf_at hq] at hE
  have hal := small_attrs hs hq
  have hal2 : l[q].attrs.length * 32 ≤ 140737488355328 := by have := (hs _ (List.getElem_mem hq)).attrs; unfold reachBytes at this; omega
  have HEN := Lib.hid (ba_empty l[q].name)
  have hnsz : l[q].name.size ≤ 4611686018427387904 := by have := (hs _ (List.getElem_mem hq)).name; unfold reachBytes at this; omega
  have hpos : 0 < l.length := by omega
  have h400 : l.length ≤ 400 := by obtain ⟨⟨_, h2, _⟩, _⟩ := hr; exact h2
  have hq0 : (0 : Int) ≤ (q : Int) := by omega
  have HSL := Lib.hid (show unL l q nm = putAttrs l q (filA l[q].attrs nm.toList) by unfold unL; rw [attrsOf_at hq, Int.toNat_natCast])
  clear h1 hr hi
  by_cases e1 : l[q].name.toList.isEmpty = true
  · obtain rfl : E = 3 := by rw [hE, if_pos e1]
    have en : l[q].name.size = 0 := HEN.out.1 e1
    clear hE
    go_enter Try.func51, Try.ntmps51
    go_wp2_with ((go_at_call 62; refine (has_c _ c l q _ B hB0 HS.out hll' h0).mono ?_; rintro e w1 ⟨rfl, hb1⟩; obtain ⟨T1, ac1, K1, kc1, x0, -, -, -, -, -, -, -, -⟩ := (h0.below (hb1.mono hB0)).at2 hq; have hz1 : B ≤ w1.heap.size := (by have := hb1.size; omega)))
    go_ret2
    exact ⟨_, rfl, DocOut.no (by omega) (hb0.trans (hb1.mono hb0.size))⟩
  have e1' : l[q].name.toList.isEmpty = false := by simpa using e1
  have en : ((l[q].name.size : Int) == 0) = false := by rw [beq_eq_false_iff_ne]; intro e; exact e1 (HEN.out.2 (by omega))
  obtain rfl : E = 0 := by rw [hE, if_neg e1]
  clear e1 hE
  go_enter Try.func51, Try.ntmps51
  go_wp2_with (first | (go_at_call 62; refine (has_c _ c l q _ B hB0 HS.out hll' h0).mono ?_; rintro e w1 ⟨rfl, hb1⟩; obtain ⟨T1, ac1, K1, kc1, x0, -, -, -, -, -, -, -, -⟩ := (h0.below (hb1.mono hB0)).at2 hq; have hz1 : B ≤ w1.heap.size := (by have := hb1.size; omega)) | (go_at_call 64; refine (copied_c _ c l w1 B hz1 HS.out hpos (by omega) (h0.below (hb1.mono hB0))).mono ?_; rintro e w3 ⟨v3, rfl, ⟨own3, xs3, hd3⟩, hb3⟩; obtain ⟨g, cap, rfl, hgb, hgl, -⟩ := owns_form hd3.row (by omega); obtain ⟨T4, ac4, K4, kc4, hseg, hno⟩ := hd3.node q _ (List.getElem?_eq_getElem hq); have z2 : w3.cell? ⟨g, q * 5 + 2, none⟩ = some (.slice T4 l[q].attrs.length ac4) := (hd3.row.cellAt _ (by omega)).trans (seg_get hseg (by omega)); have f2 := owns_frozen hd3.row (q * 5 + 2); have hTg : ∀ bb, (Value.slice T4 l[q].attrs.length ac4).ownBlock = some bb → bb ≠ g := (fun bb e e2 => by have a1 := hno.ta bb e; have a2 := hd3.tag g rfl; rw [e2] at a1; omega); have hbl : w.heap.size < w1.heap.size := Nat.lt_of_lt_of_le (by simp) hb1.size; have hcb : w3.cell? ⟨w.heap.size, 0, none⟩ = some (.string nm) := (hb3.cell (p := ⟨w.heap.size, 0, none⟩) hbl).trans ((hb1.cell (p := ⟨w.heap.size, 0, none⟩) (by simp)).trans (by go_simp))) | (go_at_call 76; refine (DelA_c T4 ac4 l[q].attrs nm w3 w1.heap.size w.heap.size hb3.size hal hno.attrs (by have := hb3.size; omega) (fun e => by have := (hno.attrs.lt _ e).1; omega) hcb).mono ?_; rintro e w9 ⟨T9, c9, rfl, hown9, hg9, hat9⟩; have z9 : w9.cell? ⟨g, q * 5 + 2, none⟩ = some (.slice T4 l[q].attrs.length ac4) := (hg9.cell_far ⟨g, q * 5 + 2, none⟩ hgl (fun e => hTg g e.symm rfl)).trans z2; have u9 : w9.frozen? ⟨g, q * 5 + 2, none⟩ = false := (hg9.frozen_far ⟨g, q * 5 + 2, none⟩ hgl (fun e => hTg g e.symm rfl)).trans f2))
  obtain ⟨own', hd'⟩ := hd3.attrs_ hq hseg hno hg9 (fun bb e => .inl (hno.ta bb e)) hown9 (fun bb e => .inl (hno.ta bb (hat9 bb e)))
  rw [← HSL.out] at hd'
  have hb01 := hb0.trans (hb1.mono hb0.size)
  go_ret2
  exact ⟨_, rfl, ⟨(DocAt.base ⟨own', _, hd'⟩ hb01.size), hb01.trans (((hb3.grown hg9 hb3.size (fun bb e => (hno.attrs.lt bb e).1)).setCell (by show w1.heap.size ≤ g; exact hgb) _).mono hb01.size)⟩⟩
set_option maxRecDepth 100000 in
set_option maxHeartbeats 1000000 in
theorem rUnset_c (A : Option Addr) (c : Nat) (l : List GNode) (k : Int) (nm : ByteArray) (w : World) (B : Nat) (hB : B ≤ w.heap.size) (hs : ∀ n ∈ l, NodeSmall reachBytes n) (hll : l.length * 88 ≤ reachBytes) (h : NodesAt w B A l) (E : Int) (hE : E = unE l k) :
    Calls Try.prog 52 #[.slice A l.length c, .int .i64 k, .string nm] w fun e w' => ∃ v, e = .returned (.tuple #[v, .int .i64 E]) ∧ DocOut w w' E (unL l k nm) v := by
  have hll' : l.length ≤ 4611686018427387904 := by unfold reachBytes at hll; omega
  have HS := Lib.hid hs
  have hb0 : Below w.heap.size w w := Below.refl _ _
  have h0 := h
  have hB0 := hB
  unfold unE at hE
  by_cases h1 : hasB l k = false
  · obtain rfl : E = 4 := by rw [hE, if_pos h1]
    clear hE
    go_enter Try.func52, Try.ntmps52
    go_wp2_with (go_at_call 40; refine (rHas_c A c l k w B hB0 HS.out hll' h0).mono ?_; rintro e w1 ⟨rfl, hb1⟩)
    go_ret2
    exact ⟨_, rfl, DocOut.no (by omega) (hb0.trans (hb1.mono hb0.size))⟩
  have hh : hasB l k = true := by simpa using h1
  rw [if_neg h1] at hE
  obtain ⟨hi, hr⟩ := hasB_iff.1 hh
  obtain ⟨q, rfl, hq⟩ := is_nat hi
  have HR := Lib.hid hr
  obtain ⟨b, o, rfl, hbB, -⟩ := h.at_ hq
  rw [nameOf_at hq] at hE
  have hal := small_attrs hs hq
  have hal2 : l[q].attrs.length * 32 ≤ 140737488355328 := by have := (hs _ (List.getElem_mem hq)).attrs; unfold reachBytes at this; omega
  have HEN := Lib.hid (ba_empty l[q].name)
  have hnsz : l[q].name.size ≤ 4611686018427387904 := by have := (hs _ (List.getElem_mem hq)).name; unfold reachBytes at this; omega
  have hpos : 0 < l.length := by omega
  have h400 : l.length ≤ 400 := by obtain ⟨⟨_, h2, _⟩, _⟩ := hr; exact h2
  have hq0 : (0 : Int) ≤ (q : Int) := by omega
  have HSL := Lib.hid (show unL l q nm = putAttrs l q (filA l[q].attrs nm.toList) by unfold unL; rw [attrsOf_at hq, Int.toNat_natCast])
  clear h1 hr hi
  by_cases e1 : l[q].name.toList.isEmpty = true
  · obtain rfl : E = 3 := by rw [hE, if_pos e1]
    have en : l[q].name.size = 0 := HEN.out.1 e1
    clear hE
    go_enter Try.func52, Try.ntmps52
    go_wp2_with ((go_at_call 40; refine (rHas_c _ c l q w B hB0 HS.out hll' h0).mono ?_; rintro e w1 ⟨rfl, hb1⟩; obtain ⟨T1, ac1, K1, kc1, x0, -, -, -, -, -, -, -, -⟩ := (h0.below (hb1.mono hB0)).at2 hq; have hz1 : B ≤ w1.heap.size := (by have := hb1.size; omega)))
    go_ret2
    exact ⟨_, rfl, DocOut.no (by omega) (hb0.trans (hb1.mono hb0.size))⟩
  have e1' : l[q].name.toList.isEmpty = false := by simpa using e1
  have en : ((l[q].name.size : Int) == 0) = false := by rw [beq_eq_false_iff_ne]; intro e; exact e1 (HEN.out.2 (by omega))
  obtain rfl : E = 0 := by rw [hE, if_neg e1]
  clear e1 hE
  go_enter Try.func52, Try.ntmps52
  go_wp2_with (first | (go_at_call 40; refine (rHas_c _ c l q w B hB0 HS.out hll' h0).mono ?_; rintro e w1 ⟨rfl, hb1⟩; obtain ⟨T1, ac1, K1, kc1, x0, -, -, -, -, -, -, -, -⟩ := (h0.below (hb1.mono hB0)).at2 hq; have hz1 : B ≤ w1.heap.size := (by have := hb1.size; omega)) | (go_at_call 22; refine (rCopied_c _ c l w1 B hz1 HS.out hll (h0.below (hb1.mono hB0))).mono ?_; rintro e w3 ⟨v3, rfl, ⟨own3, xs3, hd3⟩, hb3⟩; obtain ⟨g, cap, rfl, hgb, hgl, -⟩ := owns_form hd3.row (by omega); obtain ⟨T4, ac4, K4, kc4, hseg, hno⟩ := hd3.node q _ (List.getElem?_eq_getElem hq); have z2 : w3.cell? ⟨g, q * 5 + 2, none⟩ = some (.slice T4 l[q].attrs.length ac4) := (hd3.row.cellAt _ (by omega)).trans (seg_get hseg (by omega)); have f2 := owns_frozen hd3.row (q * 5 + 2); have hTg : ∀ bb, (Value.slice T4 l[q].attrs.length ac4).ownBlock = some bb → bb ≠ g := (fun bb e e2 => by have a1 := hno.ta bb e; have a2 := hd3.tag g rfl; rw [e2] at a1; omega)))
  obtain ⟨ia, ia0, iaz, ia1, ia2⟩ := info_parts info_attr
  have hat := attrs_of_owns hno.attrs
  have HAT := Lib.hid hat
  have HD3 := Lib.hid hd3
  have HNO := Lib.hid hno
  have HSG := Lib.hid hseg
  have HTG := Lib.hid hTg
  clear hat hd3 hno hseg hTg
  go_loopw [9, 10] (fun va iv wr => Below w3.heap.size w3 wr ∧ ∃ j : Nat, j ≤ l[q].attrs.length ∧ iv = .int .i64 j ∧ wr.ownsRow w3.heap.size 68 2 va (filA (l[q].attrs.take j) nm.toList).length (attrCells (filA (l[q].attrs.take j) nm.toList))) (fun _ iv _ => l[q].attrs.length - (intOf iv).toNat)
  case atStart => exact ⟨Below.refl _ _, 0, by omega, rfl, World.ownsRow_nil _ _ _ _⟩
  case round =>
    obtain ⟨hbw, j, hj, rfl, hown⟩ := hrel
    have y2 := (hbw.cell (p := ⟨g, q * 5 + 2, none⟩) hgl).trans z2
    have k2 := (hbw.frozen (p := ⟨g, q * 5 + 2, none⟩) hgl).trans f2
    by_cases hjl : j < l[q].attrs.length
    · obtain ⟨gb, go, rfl, hgb4, hc1, hc2⟩ := (HAT.out.below hbw).at_ hjl
      have hsu := filA_succ (m := nm.toList) hjl
      have HSU := Lib.hid hsu
      have hlf : (filA (l[q].attrs.take j) nm.toList).length ≤ j := by
        have := List.length_filter_le (fun a : GAttr => !(a.name.toList == nm.toList)) (l[q].attrs.take j)
        unfold filA
        rw [List.length_take] at this
        omega
      generalize hL : filA (l[q].attrs.take j) nm.toList = L at hown HSU hlf
      clear hL hsu
      generalize l[q].attrs[j] = aj at hc1 hc2 HSU
      obtain ⟨an, av⟩ := aj
      dsimp only at hc1 hc2 HSU
      have hj0 : (0 : Int) ≤ (j : Int) := by omega
      by_cases hm : (an.toList == nm.toList) = true
      · have hm2 : (an.toList != nm.toList) = false := by simpa using hm
        go_wp2_with fail
        go_roundw
        case rel => exact ⟨hbw, j + 1, by omega, by go_num, by rw [HSU.out, if_pos hm, List.append_nil]; exact hown⟩
        case measure => simp [intOf]; omega
      · have hm' : (an.toList == nm.toList) = false := by simpa using hm
        have hm2 : (an.toList != nm.toList) = true := by simpa using hm
        clear hm
        go_wp2_with (at_builtin; refine wpList_append_src rfl (.tmp 45) (.tmp 54) 44 rfl w3.heap.size 68 ia _ 2 32 Try.underlying44 ia0 iaz ia1 ia2 rfl (by decide) u9 L.length (attrCells L) rfl (World.ownsRow.alloc hown _) (some ⟨wr.heap.size, 0, none⟩) 1 1 [.string an, .string av] rfl rfl (fun _ => ⟨_, rfl, World.news_of_block (heap_alloc_new wr _)⟩) (by simp [Value.oneCell']) (by simp only [maxLen]; omega) (by omega) (by have := hbw.size; simp; omega) ?_; intro T9 c9 w9 hown9 hg9 hat9)
        go_roundw
        case rel =>
          refine ⟨(hbw.alloc hbw.size _).grown hg9 (by have := hbw.size; simp; omega) (fun bb e => (hown.lt bb e).1), j + 1, by omega, by go_num, ?_⟩
          rw [HSU.out, if_neg (by rw [hm']; simp), List.length_append]
          have e1 : attrCells (L ++ [(⟨an, av⟩ : GAttr)]) = attrCells L ++ [.string an, .string av] := by simp [attrCells]
          rw [e1]; exact hown9
        case measure => simp [intOf]; omega
    · obtain rfl : j = l[q].attrs.length := by omega
      rw [List.take_length] at hown
      obtain ⟨Tv, cv, rfl⟩ := owns_slice hown
      have HOW := Lib.hid hown
      go_wp2_with fail
      obtain ⟨own', hd'⟩ := HD3.out.attrs_ hq HSG.out HNO.out (grown_of_below hbw) (fun bb e => by cases e) (owns_baseMono HOW.out hb3.size) (fun bb e => .inr (HOW.out.lt bb e).1)
      rw [← HSL.out] at hd'
      go_ret2
      exact ⟨_, rfl, ⟨(DocAt.base ⟨own', _, hd'⟩ hb1.size), hb1.trans (((hb3.trans (hbw.mono hb3.size)).setCell (by show w1.heap.size ≤ g; exact hgb) _).mono hb1.size)⟩⟩
end Go.Proofs.Ytpgcaehbbdnhiaa

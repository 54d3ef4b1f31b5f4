/- Set, of the program and of the document. -/
import Derived.Test.YtpgcaehbbdnhiaaB3
import Derived.Test.YtpgcaehbbdnhiaaA3
import Derived.Test.YtpgcaehbbdnhiaaO3
namespace Go.Proofs.Ytpgcaehbbdnhiaa
open Go.RowKit
noncomputable def setE (l : List GNode) (k : Int) (nm vl : ByteArray) : Int :=
  if hasB l k = false then 4 else if (nameOf l k).isEmpty = true then 3 else if nameB nm.toList = false then 7 else if 4000 < vl.size then 2
  else if fnd (attrsOf l k) nm.toList < 0 ∧ (attrsOf l k).length = 40 then 6 else 0
def setL (l : List GNode) (k : Int) (nm vl : ByteArray) : List GNode := putAttrs l k.toNat (setA (attrsOf l k) nm vl)
structure DocOut (w w' : World) (E : Int) (L : List GNode) (v : Value) : Prop where
  doc : DocAt w' w.heap.size v (if E = 0 then L else [])
  below : Below w.heap.size w w'
theorem DocOut.no {w w' : World} {E : Int} {L : List GNode} (hE : E ≠ 0) (hb : Below w.heap.size w w') : DocOut w w' E L (.slice none 0 0) where
  doc := by rw [if_neg hE]; exact DocAt.empty _ _
  below := hb
set_option maxRecDepth 100000 in
set_option maxHeartbeats 1000000 in
theorem Set_c (A : Option Addr) (c : Nat) (l : List GNode) (k : Int) (nm vl : ByteArray) (w : World) (B : Nat) (hB : B ≤ w.heap.size) (hs : ∀ n ∈ l, NodeSmall reachBytes n) (hll : l.length * 88 ≤ reachBytes) (_hn : nm.size ≤ reachBytes) (hv : vl.size ≤ reachBytes) (h : NodesAt w B A l) (E : Int) (hE : E = setE l k nm vl) :
    Calls Try.prog 49 #[.slice A l.length c, .int .i64 k, .string nm, .string vl] w fun e w' => ∃ v, e = .returned (.tuple #[v, .int .i64 E]) ∧ DocOut w w' E (setL l k nm vl) v := by
  have hll' : l.length ≤ 4611686018427387904 := by unfold reachBytes at hll; omega
  have hv' : vl.size ≤ 4611686018427387904 := by unfold reachBytes at hv; omega
  have HS := Lib.hid hs
  obtain ⟨ia, ia0, iaz, ia1, ia2⟩ := info_parts info_attr
  unfold setE at hE
  by_cases h1 : hasB l k = false
  · obtain rfl : E = 4 := by rw [hE, if_pos h1]
    clear hE
    go_enter Try.func49, Try.ntmps49
    go_wp2_with (go_at_call 62; refine (has_c A c l k w B hB HS.out hll' h).mono ?_; rintro e w1 ⟨rfl, hb1⟩)
    go_ret2
    exact ⟨_, rfl, DocOut.no (by omega) hb1⟩
  have hh : hasB l k = true := by simpa using h1
  rw [if_neg h1] at hE
  obtain ⟨hi, hr⟩ := hasB_iff.1 hh
  obtain ⟨q, rfl, hq⟩ := is_nat hi
  have HR := Lib.hid hr
  obtain ⟨b, o, rfl, hbB, -⟩ := h.at_ hq
  rw [nameOf_at hq, attrsOf_at hq] at hE
  have hal := small_attrs hs hq
  have HEN := Lib.hid (ba_empty l[q].name)
  have hnsz : l[q].name.size ≤ 4611686018427387904 := by have := (hs _ (List.getElem_mem hq)).name; unfold reachBytes at this; omega
  have hpos : 0 < l.length := by omega
  have h400 : l.length ≤ 400 := by obtain ⟨⟨_, h2, _⟩, _⟩ := hr; exact h2
  have hq0 : (0 : Int) ≤ (q : Int) := by omega
  have HSL := Lib.hid (show setL l q nm vl = putAttrs l q (setA l[q].attrs nm vl) by unfold setL; rw [attrsOf_at hq, Int.toNat_natCast])
  clear h1 hr hi
  by_cases e1 : l[q].name.toList.isEmpty = true
  · obtain rfl : E = 3 := by rw [hE, if_pos e1]
    have en : l[q].name.size = 0 := HEN.out.1 e1
    clear hE
    go_enter Try.func49, Try.ntmps49
    go_wp2_with (first | (go_at_call 62; refine (has_c _ c l q w B hB HS.out hll' h).mono ?_; rintro e w1 ⟨rfl, hb1⟩; obtain ⟨T1, ac1, K1, kc1, x0, -, x2, -, -, hT1, -, -, -⟩ := (h.below (hb1.mono hB)).at2 hq; have hz1 : B ≤ w1.heap.size := (by have := hb1.size; omega)) | (go_at_call 73; refine (named_c nm _).mono ?_; rintro e wn ⟨rfl, rfl⟩))
    go_ret2
    exact ⟨_, rfl, DocOut.no (by omega) hb1⟩
  have e1' : l[q].name.toList.isEmpty = false := by simpa using e1
  have en : ((l[q].name.size : Int) == 0) = false := by rw [beq_eq_false_iff_ne]; intro e; exact e1 (HEN.out.2 (by omega))
  have HNM := Lib.hid e1'
  rw [if_neg e1] at hE
  clear e1
  by_cases e3 : nameB nm.toList = false
  · obtain rfl : E = 7 := by rw [hE, if_pos e3]
    clear hE
    go_enter Try.func49, Try.ntmps49
    go_wp2_with (first | (go_at_call 62; refine (has_c _ c l q w B hB HS.out hll' h).mono ?_; rintro e w1 ⟨rfl, hb1⟩; obtain ⟨T1, ac1, K1, kc1, x0, -, x2, -, -, hT1, -, -, -⟩ := (h.below (hb1.mono hB)).at2 hq; have hz1 : B ≤ w1.heap.size := (by have := hb1.size; omega)) | (go_at_call 73; refine (named_c nm _).mono ?_; rintro e wn ⟨rfl, rfl⟩))
    go_ret2
    exact ⟨_, rfl, DocOut.no (by omega) hb1⟩
  have e3' : nameB nm.toList = true := by simpa using e3
  rw [if_neg e3] at hE
  clear e3
  by_cases e2 : 4000 < vl.size
  · obtain rfl : E = 2 := by rw [hE, if_pos e2]
    have e2' : (4000 : Int) < (vl.size : Int) := by omega
    clear hE e2
    go_enter Try.func49, Try.ntmps49
    go_wp2_with (first | (go_at_call 62; refine (has_c _ c l q w B hB HS.out hll' h).mono ?_; rintro e w1 ⟨rfl, hb1⟩; obtain ⟨T1, ac1, K1, kc1, x0, -, x2, -, -, hT1, -, -, -⟩ := (h.below (hb1.mono hB)).at2 hq; have hz1 : B ≤ w1.heap.size := (by have := hb1.size; omega)) | (go_at_call 73; refine (named_c nm _).mono ?_; rintro e wn ⟨rfl, rfl⟩))
    go_ret2
    exact ⟨_, rfl, DocOut.no (by omega) hb1⟩
  have e2' : decide ((4000 : Int) < (vl.size : Int)) = false := decide_eq_false (by omega)
  rw [if_neg e2] at hE
  clear e2
  have h40 := (one_attrs HR.out hq HNM.out).2
  by_cases e5 : fnd l[q].attrs nm.toList < 0
  · obtain ⟨f, hf⟩ : ∃ f, fnd l[q].attrs nm.toList = f := ⟨_, rfl⟩
    have hfn : f < 0 := by rw [← hf]; exact e5
    have hfd : decide ((0 : Int) ≤ f) = false := decide_eq_false (by omega)
    have HSA := Lib.hid (setA_new (vl := vl) e5)
    have HF := Lib.hid hf
    by_cases e6 : l[q].attrs.length = 40
    · obtain rfl : E = 6 := by rw [hE, if_pos ⟨e5, e6⟩]
      have e6' : ((l[q].attrs.length : Int) == 40) = true := by simp; omega
      have e6'' : (40 : Int) ≤ (l[q].attrs.length : Int) := by omega
      have H6 := Lib.hid e6
      clear hE e5 e6 hf h40
      go_enter Try.func49, Try.ntmps49
      go_wp2_with (first | (go_at_call 62; refine (has_c _ c l q w B hB HS.out hll' h).mono ?_; rintro e w1 ⟨rfl, hb1⟩; obtain ⟨T1, ac1, K1, kc1, x0, -, x2, -, -, hT1, -, -, -⟩ := (h.below (hb1.mono hB)).at2 hq; have hz1 : B ≤ w1.heap.size := (by have := hb1.size; omega)) | (go_at_call 73; refine (named_c nm _).mono ?_; rintro e wn ⟨rfl, rfl⟩) | (go_at_call 72; refine (find_c T1 ac1 _ l[q].attrs nm _ B hz1 rfl hal hT1).mono ?_; rw [HF.out]; rintro e w2 ⟨rfl, hb2⟩; have hb12 := hb1.trans (hb2.mono hb1.size); obtain ⟨T2, ac2, K2, kc2, -, -, y2, -, -, -, -, -, -⟩ := (h.below (hb12.mono hB)).at2 hq))
      go_ret2
      exact ⟨_, rfl, DocOut.no (by omega) hb12⟩
    · obtain rfl : E = 0 := by rw [hE, if_neg (fun e => e6 e.2)]
      have e6' : ((l[q].attrs.length : Int) == 40) = false := by rw [beq_eq_false_iff_ne]; omega
      have e6'' : decide ((40 : Int) ≤ (l[q].attrs.length : Int)) = false := decide_eq_false (by omega)
      clear hE e5 hf
      go_enter Try.func49, Try.ntmps49
      go_wp2_with (first | (go_at_call 62; refine (has_c _ c l q w B hB HS.out hll' h).mono ?_; rintro e w1 ⟨rfl, hb1⟩; obtain ⟨T1, ac1, K1, kc1, x0, -, x2, -, -, hT1, -, -, -⟩ := (h.below (hb1.mono hB)).at2 hq; have hz1 : B ≤ w1.heap.size := (by have := hb1.size; omega)) | (go_at_call 73; refine (named_c nm _).mono ?_; rintro e wn ⟨rfl, rfl⟩) | (go_at_call 72; refine (find_c T1 ac1 _ l[q].attrs nm _ B hz1 rfl hal hT1).mono ?_; rw [HF.out]; rintro e w2 ⟨rfl, hb2⟩; have hb12 := hb1.trans (hb2.mono hb1.size); obtain ⟨T2, ac2, K2, kc2, -, -, y2, -, -, -, -, -, -⟩ := (h.below (hb12.mono hB)).at2 hq) | (go_at_call 64; refine (copied_c _ c l w2 B (by have := hb12.size; omega) HS.out hpos (by omega) (h.below (hb12.mono hB))).mono ?_; rintro e w3 ⟨v3, rfl, ⟨own3, xs3, hd3⟩, hb3⟩; obtain ⟨g, cap, rfl, hgb, hgl, -⟩ := owns_form hd3.row (by omega); obtain ⟨T4, ac4, K4, kc4, hseg, hno⟩ := hd3.node q _ (List.getElem?_eq_getElem hq); have z2 : w3.cell? ⟨g, q * 5 + 2, none⟩ = some (.slice T4 l[q].attrs.length ac4) := (hd3.row.cellAt _ (by omega)).trans (seg_get hseg (by omega)); have f2 := owns_frozen hd3.row (q * 5 + 2); have hTg : ∀ bb, (Value.slice T4 l[q].attrs.length ac4).ownBlock = some bb → bb ≠ g := (fun bb e e2 => by have a1 := hno.ta bb e; have a2 := hd3.tag g rfl; rw [e2] at a1; omega)) | (at_builtin; refine wpList_append_src rfl (.tmp 60) (.tmp 64) 44 rfl w2.heap.size 68 ia _ 2 32 Try.underlying44 ia0 iaz ia1 ia2 rfl (by decide) (.slice T4 l[q].attrs.length ac4) l[q].attrs.length (attrCells l[q].attrs) rfl (hno.attrs.alloc _) (some ⟨w3.heap.size, 0, none⟩) 1 1 [.string nm, .string vl] rfl rfl (fun _ => ⟨_, rfl, World.news_of_block (heap_alloc_new w3 _)⟩) (by simp [Value.oneCell']) (by simp only [maxLen]; omega) (by omega) (by have := hb3.size; simp; omega) ?_; intro T9 c9 w9 hown9 hg9 hat9; have z9 : w9.cell? ⟨g, q * 5 + 2, none⟩ = some (.slice T4 l[q].attrs.length ac4) := (hg9.cell_far ⟨g, q * 5 + 2, none⟩ (by simp; omega) (fun e => hTg g e.symm rfl)).trans ((((Below.refl w3.heap.size w3).alloc (Nat.le_refl _) _).cell (p := ⟨g, q * 5 + 2, none⟩) hgl).trans z2); have u9 : w9.frozen? ⟨g, q * 5 + 2, none⟩ = false := (hg9.frozen_far ⟨g, q * 5 + 2, none⟩ (by simp; omega) (fun e => hTg g e.symm rfl)).trans ((((Below.refl w3.heap.size w3).alloc (Nat.le_refl _) _).frozen (p := ⟨g, q * 5 + 2, none⟩) hgl).trans f2)))
      have hlen : (l[q].attrs ++ [(⟨nm, vl⟩ : GAttr)]).length = l[q].attrs.length + 1 := by simp
      have hX : w9.ownsRow w2.heap.size 68 2 (.slice T9 (l[q].attrs ++ [(⟨nm, vl⟩ : GAttr)]).length c9) (l[q].attrs ++ [(⟨nm, vl⟩ : GAttr)]).length (attrCells (l[q].attrs ++ [(⟨nm, vl⟩ : GAttr)])) := by
        rw [hlen]
        have e1 : attrCells (l[q].attrs ++ [(⟨nm, vl⟩ : GAttr)]) = attrCells l[q].attrs ++ [.string nm, .string vl] := by simp [attrCells]
        rw [e1]; exact hown9
      obtain ⟨own', hd'⟩ := hd3.attrs_ hq hseg hno (grown_new (r := (Value.slice T4 l[q].attrs.length ac4).ownBlock) (World.grownBy_alloc w3 _ _) hg9 (fun _ e => .inl e)) (fun bb e => .inl (hno.ta bb e)) hX (fun bb e => by
        rw [hlen] at e
        rcases hat9 bb e with h1 | h1
        · exact .inl (hno.ta bb h1)
        · right; rw [h1]; simp)
      rw [hlen, ← HSA.out, ← HSL.out] at hd'
      go_ret2
      exact ⟨_, rfl, ⟨(DocAt.base ⟨own', _, hd'⟩ hb12.size), hb12.trans (((((hb3.alloc hb3.size _).grown hg9 (by have := hb3.size; simp; omega) (fun bb e => (hno.attrs.lt bb e).1)).setCell (by show w2.heap.size ≤ g; exact hgb) _)).mono hb12.size)⟩⟩
  · obtain ⟨j, hj⟩ := Int.eq_ofNat_of_zero_le (Int.not_lt.1 e5)
    obtain ⟨hjl, _⟩ := fnd_is hj
    obtain rfl : E = 0 := by rw [hE, if_neg (fun e => e5 e.1)]
    have HSA := Lib.hid (setA_at (vl := vl) hj hjl)
    have HF := Lib.hid hj
    have hjd : decide ((j : Int) < 0) = false := decide_eq_false (by omega)
    have hj0 : (0 : Int) ≤ (j : Int) := by omega
    clear hE e5 hj
    go_enter Try.func49, Try.ntmps49
    go_wp2_with (first | (go_at_call 62; refine (has_c _ c l q w B hB HS.out hll' h).mono ?_; rintro e w1 ⟨rfl, hb1⟩; obtain ⟨T1, ac1, K1, kc1, x0, -, x2, -, -, hT1, -, -, -⟩ := (h.below (hb1.mono hB)).at2 hq; have hz1 : B ≤ w1.heap.size := (by have := hb1.size; omega)) | (go_at_call 73; refine (named_c nm _).mono ?_; rintro e wn ⟨rfl, rfl⟩) | (go_at_call 72; refine (find_c T1 ac1 _ l[q].attrs nm _ B hz1 rfl hal hT1).mono ?_; rw [HF.out]; rintro e w2 ⟨rfl, hb2⟩; have hb12 := hb1.trans (hb2.mono hb1.size); obtain ⟨T2, ac2, K2, kc2, -, -, y2, -, -, -, -, -, -⟩ := (h.below (hb12.mono hB)).at2 hq) | (go_at_call 64; refine (copied_c _ c l w2 B (by have := hb12.size; omega) HS.out hpos (by omega) (h.below (hb12.mono hB))).mono ?_; rintro e w3 ⟨v3, rfl, ⟨own3, xs3, hd3⟩, hb3⟩; obtain ⟨g, cap, rfl, hgb, hgl, -⟩ := owns_form hd3.row (by omega); obtain ⟨T4, ac4, K4, kc4, hseg, hno⟩ := hd3.node q _ (List.getElem?_eq_getElem hq); have z2 : w3.cell? ⟨g, q * 5 + 2, none⟩ = some (.slice T4 l[q].attrs.length ac4) := (hd3.row.cellAt _ (by omega)).trans (seg_get hseg (by omega)); have f2 := owns_frozen hd3.row (q * 5 + 2); have hTg : ∀ bb, (Value.slice T4 l[q].attrs.length ac4).ownBlock = some bb → bb ≠ g := (fun bb e e2 => by have a1 := hno.ta bb e; have a2 := hd3.tag g rfl; rw [e2] at a1; omega); obtain ⟨gt, capt, e9, hgtb, hgtl, hgtc⟩ := owns_form hno.attrs (by omega); obtain ⟨rfl, rfl⟩ : T4 = some ⟨gt, 0, none⟩ ∧ ac4 = capt := (by simpa using e9); have z5 := hgtc (j * 2 + 1) (by omega); rw [(attrCells_at l[q].attrs j).2, List.getElem?_eq_getElem hjl] at z5; have f5 := owns_frozen hno.attrs (j * 2 + 1); have hjc : (j : Int) < (l[q].attrs.length : Int) := (by omega)))
    have hX := (hno.attrs.stored (j * 2 + 1) (.string vl)).1
    have hG := (hno.attrs.stored (j * 2 + 1) (.string vl)).2
    have e1 : (attrCells l[q].attrs).set (j * 2 + 1) (.string vl) = attrCells (l[q].attrs.set j ⟨l[q].attrs[j].name, vl⟩) := by
      refine List.ext_getElem? fun r => ?_
      obtain ⟨i, s, rfl, hs2⟩ : ∃ i s, r = i * 2 + s ∧ s < 2 := ⟨r / 2, r % 2, by omega, by omega⟩
      obtain ⟨a1, a2⟩ := attrCells_at l[q].attrs i
      obtain ⟨b1, b2⟩ := attrCells_at (l[q].attrs.set j ⟨l[q].attrs[j].name, vl⟩) i
      match s, hs2 with
      | 0, _ =>
        simp only [Nat.add_zero]
        rw [List.getElem?_set_ne (by omega), a1, b1]
        by_cases e : i = j
        · subst e; rw [List.getElem?_set_self hjl, List.getElem?_eq_getElem hjl]; rfl
        · rw [List.getElem?_set_ne (fun e' => e e'.symm)]
      | 1, _ =>
        rw [b2]
        by_cases e : i = j
        · subst e; rw [List.getElem?_set_self hjl, List.getElem?_set_self (by rw [attrCells_length]; omega)]; rfl
        · rw [List.getElem?_set_ne (fun e' => e e'.symm), List.getElem?_set_ne (by omega), a2]
    rw [e1] at hX
    have hd' := hd3.attrsin hq hseg hno (b0 := gt) rfl hG (by rw [List.length_set]) hX
    rw [← HSA.out, ← HSL.out] at hd'
    go_ret2
    exact ⟨_, rfl, ⟨(DocAt.base ⟨own3, _, hd'⟩ hb12.size), hb12.trans ((hb3.setCell (by show w2.heap.size ≤ gt; exact hgtb) _).mono hb12.size)⟩⟩
set_option maxRecDepth 100000 in
set_option maxHeartbeats 1000000 in
theorem rSet_c (A : Option Addr) (c : Nat) (l : List GNode) (k : Int) (nm vl : ByteArray) (w : World) (B : Nat) (hB : B ≤ w.heap.size) (hs : ∀ n ∈ l, NodeSmall reachBytes n) (hll : l.length * 88 ≤ reachBytes) (hn : nm.size ≤ reachBytes) (hv : vl.size ≤ reachBytes) (h : NodesAt w B A l) (E : Int) (hE : E = setE l k nm vl) :
    Calls Try.prog 50 #[.slice A l.length c, .int .i64 k, .string nm, .string vl] w fun e w' => ∃ v, e = .returned (.tuple #[v, .int .i64 E]) ∧ DocOut w w' E (setL l k nm vl) v := by
  have hll' : l.length ≤ 4611686018427387904 := by unfold reachBytes at hll; omega
  have hv' : vl.size ≤ 4611686018427387904 := by unfold reachBytes at hv; omega
  have HS := Lib.hid hs
  obtain ⟨ia, ia0, iaz, ia1, ia2⟩ := info_parts info_attr
  unfold setE at hE
  by_cases h1 : hasB l k = false
  · obtain rfl : E = 4 := by rw [hE, if_pos h1]
    clear hE
    go_enter Try.func50, Try.ntmps50
    go_wp2_with (go_at_call 40; refine (rHas_c A c l k w B hB HS.out hll' h).mono ?_; rintro e w1 ⟨rfl, hb1⟩)
    go_ret2
    exact ⟨_, rfl, DocOut.no (by omega) hb1⟩
  have hh : hasB l k = true := by simpa using h1
  rw [if_neg h1] at hE
  obtain ⟨hi, hr⟩ := hasB_iff.1 hh
  obtain ⟨q, rfl, hq⟩ := is_nat hi
  have HR := Lib.hid hr
  obtain ⟨b, o, rfl, hbB, -⟩ := h.at_ hq
  rw [nameOf_at hq, attrsOf_at hq] at hE
  have hal := small_attrs hs hq
  have HEN := Lib.hid (ba_empty l[q].name)
  have hnsz : l[q].name.size ≤ 4611686018427387904 := by have := (hs _ (List.getElem_mem hq)).name; unfold reachBytes at this; omega
  have hpos : 0 < l.length := by omega
  have h400 : l.length ≤ 400 := by obtain ⟨⟨_, h2, _⟩, _⟩ := hr; exact h2
  have hq0 : (0 : Int) ≤ (q : Int) := by omega
  have HSL := Lib.hid (show setL l q nm vl = putAttrs l q (setA l[q].attrs nm vl) by unfold setL; rw [attrsOf_at hq, Int.toNat_natCast])
  clear h1 hr hi
  by_cases e1 : l[q].name.toList.isEmpty = true
  · obtain rfl : E = 3 := by rw [hE, if_pos e1]
    have en : l[q].name.size = 0 := HEN.out.1 e1
    clear hE
    go_enter Try.func50, Try.ntmps50
    go_wp2_with (first | (go_at_call 40; refine (rHas_c _ c l q w B hB HS.out hll' h).mono ?_; rintro e w1 ⟨rfl, hb1⟩; obtain ⟨T1, ac1, K1, kc1, x0, -, x2, -, -, hT1, -, -, -⟩ := (h.below (hb1.mono hB)).at2 hq; have hz1 : B ≤ w1.heap.size := (by have := hb1.size; omega)) | (go_at_call 74; refine (rName_c nm _ hn).mono ?_; rintro e wn ⟨rfl, rfl⟩))
    go_ret2
    exact ⟨_, rfl, DocOut.no (by omega) hb1⟩
  have e1' : l[q].name.toList.isEmpty = false := by simpa using e1
  have en : ((l[q].name.size : Int) == 0) = false := by rw [beq_eq_false_iff_ne]; intro e; exact e1 (HEN.out.2 (by omega))
  have HNM := Lib.hid e1'
  rw [if_neg e1] at hE
  clear e1
  by_cases e3 : nameB nm.toList = false
  · obtain rfl : E = 7 := by rw [hE, if_pos e3]
    clear hE
    go_enter Try.func50, Try.ntmps50
    go_wp2_with (first | (go_at_call 40; refine (rHas_c _ c l q w B hB HS.out hll' h).mono ?_; rintro e w1 ⟨rfl, hb1⟩; obtain ⟨T1, ac1, K1, kc1, x0, -, x2, -, -, hT1, -, -, -⟩ := (h.below (hb1.mono hB)).at2 hq; have hz1 : B ≤ w1.heap.size := (by have := hb1.size; omega)) | (go_at_call 74; refine (rName_c nm _ hn).mono ?_; rintro e wn ⟨rfl, rfl⟩))
    go_ret2
    exact ⟨_, rfl, DocOut.no (by omega) hb1⟩
  have e3' : nameB nm.toList = true := by simpa using e3
  rw [if_neg e3] at hE
  clear e3
  by_cases e2 : 4000 < vl.size
  · obtain rfl : E = 2 := by rw [hE, if_pos e2]
    have e2' : (4000 : Int) < (vl.size : Int) := by omega
    clear hE e2
    go_enter Try.func50, Try.ntmps50
    go_wp2_with (first | (go_at_call 40; refine (rHas_c _ c l q w B hB HS.out hll' h).mono ?_; rintro e w1 ⟨rfl, hb1⟩; obtain ⟨T1, ac1, K1, kc1, x0, -, x2, -, -, hT1, -, -, -⟩ := (h.below (hb1.mono hB)).at2 hq; have hz1 : B ≤ w1.heap.size := (by have := hb1.size; omega)) | (go_at_call 74; refine (rName_c nm _ hn).mono ?_; rintro e wn ⟨rfl, rfl⟩))
    go_ret2
    exact ⟨_, rfl, DocOut.no (by omega) hb1⟩
  have e2' : decide ((4000 : Int) < (vl.size : Int)) = false := decide_eq_false (by omega)
  rw [if_neg e2] at hE
  clear e2
  have h40 := (one_attrs HR.out hq HNM.out).2
  by_cases e5 : fnd l[q].attrs nm.toList < 0
  · obtain ⟨f, hf⟩ : ∃ f, fnd l[q].attrs nm.toList = f := ⟨_, rfl⟩
    have hfn : f < 0 := by rw [← hf]; exact e5
    have hfd : decide ((0 : Int) ≤ f) = false := decide_eq_false (by omega)
    have HSA := Lib.hid (setA_new (vl := vl) e5)
    have HF := Lib.hid hf
    by_cases e6 : l[q].attrs.length = 40
    · obtain rfl : E = 6 := by rw [hE, if_pos ⟨e5, e6⟩]
      have e6' : ((l[q].attrs.length : Int) == 40) = true := by simp; omega
      have e6'' : (40 : Int) ≤ (l[q].attrs.length : Int) := by omega
      have H6 := Lib.hid e6
      clear hE e5 e6 hf h40
      go_enter Try.func50, Try.ntmps50
      go_wp2_with (first | (go_at_call 40; refine (rHas_c _ c l q w B hB HS.out hll' h).mono ?_; rintro e w1 ⟨rfl, hb1⟩; obtain ⟨T1, ac1, K1, kc1, x0, -, x2, -, -, hT1, -, -, -⟩ := (h.below (hb1.mono hB)).at2 hq; have hz1 : B ≤ w1.heap.size := (by have := hb1.size; omega)) | (go_at_call 74; refine (rName_c nm _ hn).mono ?_; rintro e wn ⟨rfl, rfl⟩) | (go_at_call 22; refine (rCopied_c _ c l w1 B hz1 HS.out hll (h.below (hb1.mono hB))).mono ?_; rintro e w3 ⟨v3, rfl, ⟨own3, xs3, hd3⟩, hb3⟩; obtain ⟨g, cap, rfl, hgb, hgl, -⟩ := owns_form hd3.row (by omega); obtain ⟨T4, ac4, K4, kc4, hseg, hno⟩ := hd3.node q _ (List.getElem?_eq_getElem hq); have z2 : w3.cell? ⟨g, q * 5 + 2, none⟩ = some (.slice T4 l[q].attrs.length ac4) := (hd3.row.cellAt _ (by omega)).trans (seg_get hseg (by omega)); have f2 := owns_frozen hd3.row (q * 5 + 2); have hTg : ∀ bb, (Value.slice T4 l[q].attrs.length ac4).ownBlock = some bb → bb ≠ g := (fun bb e e2 => by have a1 := hno.ta bb e; have a2 := hd3.tag g rfl; rw [e2] at a1; omega)) | (go_at_call 75; refine (rFind_c T4 ac4 l[q].attrs nm _ w3.heap.size hal (attrs_of_owns hno.attrs)).mono ?_; rw [HF.out]; rintro e w4 ⟨rfl, rfl⟩))
      go_ret2
      exact ⟨_, rfl, DocOut.no (by omega) (hb1.trans (hb3.mono hb1.size))⟩
    · obtain rfl : E = 0 := by rw [hE, if_neg (fun e => e6 e.2)]
      have e6' : ((l[q].attrs.length : Int) == 40) = false := by rw [beq_eq_false_iff_ne]; omega
      have e6'' : decide ((40 : Int) ≤ (l[q].attrs.length : Int)) = false := decide_eq_false (by omega)
      clear hE e5 hf
      go_enter Try.func50, Try.ntmps50
      go_wp2_with (first | (go_at_call 40; refine (rHas_c _ c l q w B hB HS.out hll' h).mono ?_; rintro e w1 ⟨rfl, hb1⟩; obtain ⟨T1, ac1, K1, kc1, x0, -, x2, -, -, hT1, -, -, -⟩ := (h.below (hb1.mono hB)).at2 hq; have hz1 : B ≤ w1.heap.size := (by have := hb1.size; omega)) | (go_at_call 74; refine (rName_c nm _ hn).mono ?_; rintro e wn ⟨rfl, rfl⟩) | (go_at_call 22; refine (rCopied_c _ c l w1 B hz1 HS.out hll (h.below (hb1.mono hB))).mono ?_; rintro e w3 ⟨v3, rfl, ⟨own3, xs3, hd3⟩, hb3⟩; obtain ⟨g, cap, rfl, hgb, hgl, -⟩ := owns_form hd3.row (by omega); obtain ⟨T4, ac4, K4, kc4, hseg, hno⟩ := hd3.node q _ (List.getElem?_eq_getElem hq); have z2 : w3.cell? ⟨g, q * 5 + 2, none⟩ = some (.slice T4 l[q].attrs.length ac4) := (hd3.row.cellAt _ (by omega)).trans (seg_get hseg (by omega)); have f2 := owns_frozen hd3.row (q * 5 + 2); have hTg : ∀ bb, (Value.slice T4 l[q].attrs.length ac4).ownBlock = some bb → bb ≠ g := (fun bb e e2 => by have a1 := hno.ta bb e; have a2 := hd3.tag g rfl; rw [e2] at a1; omega)) | (go_at_call 75; refine (rFind_c T4 ac4 l[q].attrs nm _ w3.heap.size hal (attrs_of_owns hno.attrs)).mono ?_; rw [HF.out]; rintro e w4 ⟨rfl, rfl⟩) | (at_builtin; refine wpList_append_src rfl (.tmp 63) (.tmp 67) 44 rfl w1.heap.size 68 ia _ 2 32 Try.underlying44 ia0 iaz ia1 ia2 rfl (by decide) (.slice T4 l[q].attrs.length ac4) l[q].attrs.length (attrCells l[q].attrs) rfl (hno.attrs.alloc _) (some ⟨w3.heap.size, 0, none⟩) 1 1 [.string nm, .string vl] rfl rfl (fun _ => ⟨_, rfl, World.news_of_block (heap_alloc_new w3 _)⟩) (by simp [Value.oneCell']) (by simp only [maxLen]; omega) (by omega) (by have := hb3.size; simp; omega) ?_; intro T9 c9 w9 hown9 hg9 hat9; have z9 : w9.cell? ⟨g, q * 5 + 2, none⟩ = some (.slice T4 l[q].attrs.length ac4) := (hg9.cell_far ⟨g, q * 5 + 2, none⟩ (by simp; omega) (fun e => hTg g e.symm rfl)).trans ((((Below.refl w3.heap.size w3).alloc (Nat.le_refl _) _).cell (p := ⟨g, q * 5 + 2, none⟩) hgl).trans z2); have u9 : w9.frozen? ⟨g, q * 5 + 2, none⟩ = false := (hg9.frozen_far ⟨g, q * 5 + 2, none⟩ (by simp; omega) (fun e => hTg g e.symm rfl)).trans ((((Below.refl w3.heap.size w3).alloc (Nat.le_refl _) _).frozen (p := ⟨g, q * 5 + 2, none⟩) hgl).trans f2)))
      have hlen : (l[q].attrs ++ [(⟨nm, vl⟩ : GAttr)]).length = l[q].attrs.length + 1 := by simp
      have hX : w9.ownsRow w1.heap.size 68 2 (.slice T9 (l[q].attrs ++ [(⟨nm, vl⟩ : GAttr)]).length c9) (l[q].attrs ++ [(⟨nm, vl⟩ : GAttr)]).length (attrCells (l[q].attrs ++ [(⟨nm, vl⟩ : GAttr)])) := by
        rw [hlen]
        have e1 : attrCells (l[q].attrs ++ [(⟨nm, vl⟩ : GAttr)]) = attrCells l[q].attrs ++ [.string nm, .string vl] := by simp [attrCells]
        rw [e1]; exact hown9
      obtain ⟨own', hd'⟩ := hd3.attrs_ hq hseg hno (grown_new (r := (Value.slice T4 l[q].attrs.length ac4).ownBlock) (World.grownBy_alloc w3 _ _) hg9 (fun _ e => .inl e)) (fun bb e => .inl (hno.ta bb e)) hX (fun bb e => by
        rw [hlen] at e
        rcases hat9 bb e with h1 | h1
        · exact .inl (hno.ta bb h1)
        · right; rw [h1]; simp)
      rw [hlen, ← HSA.out, ← HSL.out] at hd'
      go_ret2
      exact ⟨_, rfl, ⟨(DocAt.base ⟨own', _, hd'⟩ hb1.size), hb1.trans (((((hb3.alloc hb3.size _).grown hg9 (by have := hb3.size; simp; omega) (fun bb e => (hno.attrs.lt bb e).1)).setCell (by show w1.heap.size ≤ g; exact hgb) _)).mono hb1.size)⟩⟩
  · obtain ⟨j, hj⟩ := Int.eq_ofNat_of_zero_le (Int.not_lt.1 e5)
    obtain ⟨hjl, _⟩ := fnd_is hj
    obtain rfl : E = 0 := by rw [hE, if_neg (fun e => e5 e.1)]
    have HSA := Lib.hid (setA_at (vl := vl) hj hjl)
    have HF := Lib.hid hj
    have hjd : decide ((j : Int) < 0) = false := decide_eq_false (by omega)
    have hj0 : (0 : Int) ≤ (j : Int) := by omega
    clear hE e5 hj
    go_enter Try.func50, Try.ntmps50
    go_wp2_with (first | (go_at_call 40; refine (rHas_c _ c l q w B hB HS.out hll' h).mono ?_; rintro e w1 ⟨rfl, hb1⟩; obtain ⟨T1, ac1, K1, kc1, x0, -, x2, -, -, hT1, -, -, -⟩ := (h.below (hb1.mono hB)).at2 hq; have hz1 : B ≤ w1.heap.size := (by have := hb1.size; omega)) | (go_at_call 74; refine (rName_c nm _ hn).mono ?_; rintro e wn ⟨rfl, rfl⟩) | (go_at_call 22; refine (rCopied_c _ c l w1 B hz1 HS.out hll (h.below (hb1.mono hB))).mono ?_; rintro e w3 ⟨v3, rfl, ⟨own3, xs3, hd3⟩, hb3⟩; obtain ⟨g, cap, rfl, hgb, hgl, -⟩ := owns_form hd3.row (by omega); obtain ⟨T4, ac4, K4, kc4, hseg, hno⟩ := hd3.node q _ (List.getElem?_eq_getElem hq); have z2 : w3.cell? ⟨g, q * 5 + 2, none⟩ = some (.slice T4 l[q].attrs.length ac4) := (hd3.row.cellAt _ (by omega)).trans (seg_get hseg (by omega)); have f2 := owns_frozen hd3.row (q * 5 + 2); have hTg : ∀ bb, (Value.slice T4 l[q].attrs.length ac4).ownBlock = some bb → bb ≠ g := (fun bb e e2 => by have a1 := hno.ta bb e; have a2 := hd3.tag g rfl; rw [e2] at a1; omega); obtain ⟨gt, capt, e9, hgtb, hgtl, hgtc⟩ := owns_form hno.attrs (by omega); obtain ⟨rfl, rfl⟩ : T4 = some ⟨gt, 0, none⟩ ∧ ac4 = capt := (by simpa using e9); have z5 := hgtc (j * 2 + 1) (by omega); rw [(attrCells_at l[q].attrs j).2, List.getElem?_eq_getElem hjl] at z5; have f5 := owns_frozen hno.attrs (j * 2 + 1); have hjc : (j : Int) < (l[q].attrs.length : Int) := (by omega)) | (go_at_call 75; refine (rFind_c _ _ l[q].attrs nm _ w3.heap.size hal (attrs_of_owns hno.attrs)).mono ?_; rw [HF.out]; rintro e w4 ⟨rfl, rfl⟩))
    have hX := (hno.attrs.stored (j * 2 + 1) (.string vl)).1
    have hG := (hno.attrs.stored (j * 2 + 1) (.string vl)).2
    have e1 : (attrCells l[q].attrs).set (j * 2 + 1) (.string vl) = attrCells (l[q].attrs.set j ⟨l[q].attrs[j].name, vl⟩) := by
      refine List.ext_getElem? fun r => ?_
      obtain ⟨i, s, rfl, hs2⟩ : ∃ i s, r = i * 2 + s ∧ s < 2 := ⟨r / 2, r % 2, by omega, by omega⟩
      obtain ⟨a1, a2⟩ := attrCells_at l[q].attrs i
      obtain ⟨b1, b2⟩ := attrCells_at (l[q].attrs.set j ⟨l[q].attrs[j].name, vl⟩) i
      match s, hs2 with
      | 0, _ =>
        simp only [Nat.add_zero]
        rw [List.getElem?_set_ne (by omega), a1, b1]
        by_cases e : i = j
        · subst e; rw [List.getElem?_set_self hjl, List.getElem?_eq_getElem hjl]; rfl
        · rw [List.getElem?_set_ne (fun e' => e e'.symm)]
      | 1, _ =>
        rw [b2]
        by_cases e : i = j
        · subst e; rw [List.getElem?_set_self hjl, List.getElem?_set_self (by rw [attrCells_length]; omega)]; rfl
        · rw [List.getElem?_set_ne (fun e' => e e'.symm), List.getElem?_set_ne (by omega), a2]
    rw [e1] at hX
    have hd' := hd3.attrsin hq hseg hno (b0 := gt) rfl hG (by rw [List.length_set]) hX
    rw [← HSA.out, ← HSL.out] at hd'
    go_ret2
    exact ⟨_, rfl, ⟨(DocAt.base ⟨own3, _, hd'⟩ hb1.size), hb1.trans ((hb3.setCell (by show w1.heap.size ≤ gt; exact hgtb) _).mono hb1.size)⟩⟩
end Go.Proofs.Ytpgcaehbbdnhiaa

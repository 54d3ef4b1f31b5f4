/- Insert, of a node without a parent. -/
import Derived.Test.YtpgcaehbbdnhiaaB9
import Derived.Test.YtpgcaehbbdnhiaaN3
namespace Go.Proofs.Ytpgcaehbbdnhiaa
open Go.RowKit
theorem Contains_c (A : Option Addr) (c : Nat) (l : List Int) (m : Int) (w : World) (B : Nat) (hl : l.length ≤ 4611686018427387904) (h : IntsAt w B A l) (bv : Bool) (hb : bv = decide (0 ≤ fndI l m)) :
    Calls Try.prog 69 #[.slice A l.length c, .int .i64 m] w fun e w' => e = .returned (.bool bv) ∧ w = w' := by
  have HB := Lib.hid hb
  clear hb
  obtain ⟨f, hf⟩ : ∃ f, fndI l m = f := ⟨_, rfl⟩
  rw [hf] at HB
  go_enter Try.func69, Try.ntmps69
  go_wp2_with (go_at_call 70; refine (Index_c A c l m w B hl h).mono ?_; rw [hf]; rintro e w1 ⟨rfl, rfl⟩)
  go_ret
  exact ⟨by rw [HB.out]; rfl, rfl⟩
def insL (l : List GNode) (p ch i : Nat) : List GNode := putParent (putKids l p (insI (kidsOf l p) i ch)) ch p
set_option maxRecDepth 100000 in
set_option maxHeartbeats 1000000 in
theorem InsertOk_c (A : Option Addr) (c : Nat) (l : List GNode) (p ch : Nat) (bf : Int) (i : Nat) (hr : RightP l) (hp : p < l.length) (hch : ch < l.length) (hnm : l[p].name.toList.isEmpty = false) (hc0 : ch ≠ 0) (hin : ¬ InsideP l p ch) (hpar : parOf l (ch : Int) < 0)
    (hpos : (bf = -1 ∧ i = l[p].kids.length) ∨ (bf ≠ -1 ∧ bf ≠ (ch : Int) ∧ fndI l[p].kids bf = i)) (w : World) (B : Nat) (hB : B ≤ w.heap.size) (hs : ∀ n ∈ l, NodeSmall reachBytes n) (h : NodesAt w B A l) :
    Calls Try.prog 34 #[.slice A l.length c, .int .i64 p, .int .i64 ch, .int .i64 bf] w fun e w' => ∃ v, e = .returned (.tuple #[v, .int .i64 0]) ∧ DocAt w' w.heap.size v (insL l p ch i) ∧ Below w.heap.size w w' := by
  obtain ⟨⟨hpo, h400, _⟩, _⟩ := id hr
  have hll : l.length ≤ 4611686018427387904 := by omega
  have hh1 := hasB_yes (l := l) (k := (p : Int)) ⟨by omega, by omega⟩ hr
  have hh2 := hasB_yes (l := l) (k := (ch : Int)) ⟨by omega, by omega⟩ hr
  have hii := insideB_no hin
  have hc0' : ((ch : Int) == 0) = false := by rw [beq_eq_false_iff_ne]; omega
  have hpl : parOf l (ch : Int) < l.length := by omega
  have hkl : ∀ i (h : i < l.length), l[i].kids.length ≤ 400 := fun i hi => kids_few hr hi
  have hil : i ≤ l[p].kids.length := by
    rcases hpos with ⟨_, h1⟩ | ⟨_, _, h1⟩
    · omega
    · have := (fndI_bd l[p].kids bf).2; omega
  obtain ⟨b, o, rfl, hbB, -⟩ := h.at_ hp
  have hcur : Below w.heap.size w w := Below.refl _ _
  have HS := Lib.hid hs
  have HR := Lib.hid hr
  have HKL := Lib.hid hkl
  have HPAR := Lib.hid hpar
  have HPL := Lib.hid hpl
  have HIL := Lib.hid hil
  have HPK := Lib.hid (kidsOf_at hp)
  have hp0 : (0 : Int) ≤ (p : Int) := by omega
  have hpl' : (p : Int) < (l.length : Int) := by omega
  have hkp := hkl p hp
  clear hs hr hin hpar hpl hkl hil hc0
  have HF : ∀ (W : World) (base : Nat) (g cap : Nat) (own : Nat → Nat) (xs : List Value) (T : Option Addr) (ac : Nat) (K : Option Addr) (kc : Nat) (W9 : World) (T9 : Option Addr) (c9 : Nat), DocX W base own (.slice (some ⟨g, 0, none⟩) l.length cap) l xs → (xs.drop (p * 5)).take 5 = nodeCells l[p] T ac K kc → NodeOwn W base own p l[p] T ac K kc → W.grownBy W9 (Value.slice K l[p].kids.length kc).ownBlock → W9.ownsRow base 3 1 (.slice T9 (insI l[p].kids i ch).length c9) (insI l[p].kids i ch).length (intCells (insI l[p].kids i ch)) → (∀ gg, (Value.slice T9 (insI l[p].kids i ch).length c9).ownBlock = some gg → (Value.slice K l[p].kids.length kc).ownBlock = some gg ∨ W.heap.size ≤ gg) →
      ∃ pv, (W9.setCell ⟨g, p * 5 + 4, none⟩ (.slice T9 (insI l[p].kids i ch).length c9)).cell? ⟨g, ch * 5 + 3, none⟩ = some (.int .i64 pv) ∧ (W9.setCell ⟨g, p * 5 + 4, none⟩ (.slice T9 (insI l[p].kids i ch).length c9)).frozen? ⟨g, ch * 5 + 3, none⟩ = false ∧ DocAt ((W9.setCell ⟨g, p * 5 + 4, none⟩ (.slice T9 (insI l[p].kids i ch).length c9)).setCell ⟨g, ch * 5 + 3, none⟩ (.int .i64 p)) base (.slice (some ⟨g, 0, none⟩) l.length cap) (insL l p ch i) := by
    intro W base g cap own xs T ac K kc W9 T9 c9 hd hseg hno hg hX hXb
    obtain ⟨own', hd'⟩ := hd.kids_ hp hseg hno hg (fun bb e => .inl (hno.ka bb e)) hX (fun bb e => by
      rcases hXb bb e with h1 | h1
      · exact .inl (hno.ka bb h1)
      · exact .inr h1)
    have hlen : (putKids l p (insI l[p].kids i ch)).length = l.length := putKids_len _ _ _
    have hq' : ch < (putKids l p (insI l[p].kids i ch)).length := by rw [hlen]; exact hch
    obtain ⟨T6, ac6, K6, kc6, hseg6, -⟩ := hd'.node ch _ (List.getElem?_eq_getElem hq')
    have hrow6 := hd'.row
    rw [hlen] at hrow6
    refine ⟨_, (hrow6.cellAt (ch * 5 + 3) (by omega)).trans (seg_get hseg6 (by omega)), owns_frozen hrow6 _, ?_⟩
    rw [← hlen] at hd'
    have hfin := hd'.parent hq' p
    rw [hlen] at hfin
    have e : insL l p ch i = putParent (putKids l p (insI l[p].kids i ch)) ch p := by unfold insL; rw [HPK.out]
    rw [e]
    exact ⟨_, _, hfin⟩
  have HFF := Lib.hid HF
  clear HF
  rcases hpos with ⟨rfl, hi⟩ | ⟨hb1, hb2, hi⟩
  · subst hi
    go_enter Try.func34, Try.ntmps34
    go_wp2_with (first | (go_at_call 62; refine (has_c _ c l _ _ B (by have := hcur.size; omega) HS.out hll (h.below (hcur.mono hB))).mono ?_; rintro e w1 ⟨rfl, hb1⟩; replace hcur := hcur.trans (hb1.mono hcur.size); clear hb1; obtain ⟨T3, ac3, K3, kc3, v0, -, -, -, v4, -, hK3, -, -⟩ := (h.below (hcur.mono hB)).at2 hp) | (go_at_call 68; refine (inside_c _ c l HR.out p ch hpl' _ B (h.below (hcur.mono hB))).mono ?_; rintro e w3 ⟨rfl, rfl⟩) | (go_at_call 64; refine (copied_c _ c l _ B (by have := hcur.size; omega) HS.out hpo (by omega) (h.below (hcur.mono hB))).mono ?_; rintro e w5 ⟨v5, rfl, ⟨own5, xs5, hd5⟩, hb5⟩; obtain ⟨g, cap, rfl, hgb, hgl, -⟩ := owns_form hd5.row (by omega)) | (go_at_call 65; refine (take_c g cap l ch hch HPL.out (fun i hi => by have := HKL.out i hi; omega) w5 _ own5 xs5 hd5).mono ?_; rintro e w6 ⟨rfl, hd6, hz6, hb6⟩; rw [if_pos HPAR.out] at hd6; obtain ⟨own6, xs6, hd6⟩ := hd6; obtain ⟨T6, ac6, K6, kc6, hseg6, hno6⟩ := hd6.node p _ (List.getElem?_eq_getElem hp); have z6 : w6.cell? ⟨g, p * 5 + 4, none⟩ = some (.slice K6 l[p].kids.length kc6) := (hd6.row.cellAt _ (by omega)).trans (seg_get hseg6 (by omega)); have f6 := owns_frozen hd6.row (p * 5 + 4); have hgl6 : g < w6.heap.size := Nat.lt_of_lt_of_le hgl hz6; have hKg : ∀ bb, (Value.slice K6 l[p].kids.length kc6).ownBlock = some bb → bb ≠ g := (fun bb e e2 => by have a1 := hno6.ka bb e; have a2 := hd6.tag g rfl; rw [e2] at a1; omega)) | (go_at_call 71; refine (InsI_c K6 kc6 l[p].kids _ ch HIL.out w6 _ (by have := hb5.size; omega) (by omega) hno6.kids).mono ?_; rintro e w9 ⟨T9, c9, rfl, hown9, hg9, hat9⟩; have z9 := (hg9.cell_far ⟨g, p * 5 + 4, none⟩ hgl6 (fun e => hKg g e.symm rfl)).trans z6; have u9 := (hg9.frozen_far ⟨g, p * 5 + 4, none⟩ hgl6 (fun e => hKg g e.symm rfl)).trans f6; obtain ⟨pv, y1, y2, hfin⟩ := HFF.out _ _ g cap own6 xs6 T6 ac6 K6 kc6 w9 T9 c9 hd6 hseg6 hno6 hg9 hown9 hat9))
    go_ret2
    exact ⟨_, rfl, hfin.base hcur.size, hcur.trans (((((hb5.trans (hb6 hb5.size)).grown hg9 (by have := hb5.size; omega) (fun bb e => (hno6.kids.lt bb e).1)).setCell hgb _).setCell hgb _).mono hcur.size)⟩
  · have HI := Lib.hid hi
    have HCT := Lib.hid (show true = decide (0 ≤ fndI l[p].kids bf) by rw [hi]; simp)
    have hb1' : (bf != -1) = true := by simpa using hb1
    have hb2' : (bf == (ch : Int)) = false := by simpa using hb2
    clear hi hb1 hb2
    go_enter Try.func34, Try.ntmps34
    go_wp2_with (first | (go_at_call 62; refine (has_c _ c l _ _ B (by have := hcur.size; omega) HS.out hll (h.below (hcur.mono hB))).mono ?_; rintro e w1 ⟨rfl, hb1⟩; replace hcur := hcur.trans (hb1.mono hcur.size); clear hb1; obtain ⟨T3, ac3, K3, kc3, v0, -, -, -, v4, -, hK3, -, -⟩ := (h.below (hcur.mono hB)).at2 hp) | (go_at_call 68; refine (inside_c _ c l HR.out p ch hpl' _ B (h.below (hcur.mono hB))).mono ?_; rintro e w3 ⟨rfl, rfl⟩) | (go_at_call 69; refine (Contains_c K3 kc3 l[p].kids bf _ B (by omega) hK3 true HCT.out).mono ?_; rintro e wct ⟨rfl, rfl⟩) | (go_at_call 64; refine (copied_c _ c l _ B (by have := hcur.size; omega) HS.out hpo (by omega) (h.below (hcur.mono hB))).mono ?_; rintro e w5 ⟨v5, rfl, ⟨own5, xs5, hd5⟩, hb5⟩; obtain ⟨g, cap, rfl, hgb, hgl, -⟩ := owns_form hd5.row (by omega)) | (go_at_call 65; refine (take_c g cap l ch hch HPL.out (fun i hi => by have := HKL.out i hi; omega) w5 _ own5 xs5 hd5).mono ?_; rintro e w6 ⟨rfl, hd6, hz6, hb6⟩; rw [if_pos HPAR.out] at hd6; obtain ⟨own6, xs6, hd6⟩ := hd6; obtain ⟨T6, ac6, K6, kc6, hseg6, hno6⟩ := hd6.node p _ (List.getElem?_eq_getElem hp); have z6 : w6.cell? ⟨g, p * 5 + 4, none⟩ = some (.slice K6 l[p].kids.length kc6) := (hd6.row.cellAt _ (by omega)).trans (seg_get hseg6 (by omega)); have f6 := owns_frozen hd6.row (p * 5 + 4); have hgl6 : g < w6.heap.size := Nat.lt_of_lt_of_le hgl hz6; have hKg : ∀ bb, (Value.slice K6 l[p].kids.length kc6).ownBlock = some bb → bb ≠ g := (fun bb e e2 => by have a1 := hno6.ka bb e; have a2 := hd6.tag g rfl; rw [e2] at a1; omega)) | (go_at_call 70; refine (Index_c K6 kc6 l[p].kids bf _ _ (by omega) (ints_of_owns hno6.kids)).mono ?_; rw [HI.out]; rintro e wix ⟨rfl, rfl⟩) | (go_at_call 71; refine (InsI_c K6 kc6 l[p].kids i ch HIL.out w6 _ (by have := hb5.size; omega) (by omega) hno6.kids).mono ?_; rintro e w9 ⟨T9, c9, rfl, hown9, hg9, hat9⟩; have z9 := (hg9.cell_far ⟨g, p * 5 + 4, none⟩ hgl6 (fun e => hKg g e.symm rfl)).trans z6; have u9 := (hg9.frozen_far ⟨g, p * 5 + 4, none⟩ hgl6 (fun e => hKg g e.symm rfl)).trans f6; obtain ⟨pv, y1, y2, hfin⟩ := HFF.out _ _ g cap own6 xs6 T6 ac6 K6 kc6 w9 T9 c9 hd6 hseg6 hno6 hg9 hown9 hat9))
    go_ret2
    exact ⟨_, rfl, hfin.base hcur.size, hcur.trans (((((hb5.trans (hb6 hb5.size)).grown hg9 (by have := hb5.size; omega) (fun bb e => (hno6.kids.lt bb e).1)).setCell hgb _).setCell hgb _).mono hcur.size)⟩
end Go.Proofs.Ytpgcaehbbdnhiaa

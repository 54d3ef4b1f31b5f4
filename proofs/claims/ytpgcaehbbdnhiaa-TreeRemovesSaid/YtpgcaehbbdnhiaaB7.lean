/- take, Remove; without, the document's Remove. -/
import Derived.Test.YtpgcaehbbdnhiaaB6
import Derived.Test.YtpgcaehbbdnhiaaB4
namespace Go.Proofs.Ytpgcaehbbdnhiaa
open Go.RowKit
theorem putKids_len (l : List GNode) (q : Nat) (ks : List Int) : (putKids l q ks).length = l.length := by
  unfold putKids
  split
  · rw [List.length_set]
  · rfl
theorem putParent_len (l : List GNode) (q : Nat) (p : Int) : (putParent l q p).length = l.length := by
  unfold putParent
  split
  · rw [List.length_set]
  · rfl
/-- a node without its parent -/
def remL (l : List GNode) (k : Int) : List GNode := putParent (putKids l (parOf l k).toNat (filI (kidsOf l (parOf l k)) k)) k.toNat (-1)
set_option maxRecDepth 100000 in
set_option maxHeartbeats 1000000 in
theorem take_c (g cap : Nat) (l : List GNode) (q : Nat) (hq : q < l.length) (hp : parOf l (q : Int) < l.length) (hal : ∀ i (h : i < l.length), l[i].kids.length ≤ 4611686018427387904) (w : World) (base : Nat) (own : Nat → Nat) (xs : List Value) (hd : DocX w base own (.slice (some ⟨g, 0, none⟩) l.length cap) l xs) :
    Calls Try.prog 65 #[.slice (some ⟨g, 0, none⟩) l.length cap, .int .i64 q] w fun e w' => e = .returned (.tuple #[]) ∧ DocAt w' base (.slice (some ⟨g, 0, none⟩) l.length cap) (if parOf l (q : Int) < 0 then l else remL l q) ∧ w.heap.size ≤ w'.heap.size ∧ (base ≤ w.heap.size → Below base w w') := by
  have hd1 := hd.keptB (World.grownBy_alloc w (Obj.cells #[.int .i64 q] 3) none)
  obtain ⟨Tq, acq, Kq, kcq, hsq, -⟩ := hd.node q _ (List.getElem?_eq_getElem hq)
  have hgb := (hd.row.lt g rfl).1
  have hgl := (hd.row.lt g rfl).2
  have x3 : (w.alloc (Obj.cells #[.int .i64 q] 3)).cell? ⟨g, q * 5 + 3, none⟩ = some (.int .i64 l[q].parent) := (hd1.row.cellAt _ (by omega)).trans (seg_get hsq (by omega))
  have hq0 : (0 : Int) ≤ (q : Int) := by omega
  rw [parOf_at hq] at hp ⊢
  have HPO := Lib.hid (parOf_at hq)
  generalize l[q].parent = p at x3 hp HPO
  have HD := Lib.hid hd
  by_cases hp0 : p < 0
  · rw [if_pos hp0]
    clear hd1 hsq
    go_enter Try.func65, Try.ntmps65
    go_wp2_with fail
    refine bodyPost_ret (v := .tuple #[]) (by simp [results, Try.results65, go_sem]) rfl ⟨rfl, ⟨_, _, HD.out.keptB (World.grownBy_alloc w _ none)⟩, by simp, fun hb => (Below.refl _ _).alloc hb _⟩
  · rw [if_neg hp0]
    obtain ⟨pn, rfl⟩ : ∃ pn : Nat, p = pn := ⟨p.toNat, by omega⟩
    have hpn : pn < l.length := by omega
    have hpd : decide ((pn : Int) < 0) = false := decide_eq_false hp0
    obtain ⟨T4, ac4, K4, kc4, hseg, hno⟩ := hd1.node pn _ (List.getElem?_eq_getElem hpn)
    have x4 : (w.alloc (Obj.cells #[.int .i64 q] 3)).cell? ⟨g, pn * 5 + 4, none⟩ = some (.slice K4 l[pn].kids.length kc4) := (hd1.row.cellAt _ (by omega)).trans (seg_get hseg (by omega))
    have f4 := owns_frozen hd1.row (pn * 5 + 4)
    have hcb : (w.alloc (Obj.cells #[.int .i64 q] 3)).cell? ⟨w.heap.size, 0, none⟩ = some (.int .i64 q) := by go_simp
    have hKg : ∀ bb, (Value.slice K4 l[pn].kids.length kc4).ownBlock = some bb → bb ≠ g := fun bb e e2 => by have a1 := hno.ka bb e; have a2 := hd1.tag g rfl; rw [e2] at a1; omega
    have HKD := Lib.hid (kidsOf_at hpn)
    have hkl := hal pn hpn
    obtain ⟨-, -, -, -, -, hnoq⟩ := hd.node pn _ (List.getElem?_eq_getElem hpn)
    have hKlt : ∀ bb, (Value.slice K4 l[pn].kids.length kc4).ownBlock = some bb → bb < w.heap.size := fun bb e => by
      have h1 := (hno.kids.lt bb e).2
      have h2 := hno.ka bb e
      rcases Nat.lt_or_ge bb w.heap.size with h3 | h3
      · exact h3
      · exfalso
        obtain ⟨T5, ac5, K5, kc5, hseg5, hno5⟩ := HD.out.node pn _ (List.getElem?_eq_getElem hpn)
        rw [hseg5] at hseg
        have e5 : Value.slice K5 l[pn].kids.length kc5 = .slice K4 l[pn].kids.length kc4 := by
          have := congrArg (fun z : List Value => z[4]?) hseg
          simpa [nodeCells] using this
        have h6 := (hno5.kids.lt bb (by rw [e5]; exact e)).2
        omega
    clear hp0 hd hsq
    go_enter Try.func65, Try.ntmps65
    go_wp2_with (go_at_call 82; refine (DelI_c K4 kc4 l[pn].kids q _ base w.heap.size hkl hno.kids (by simp) (fun e => by have := hKlt _ e; omega) hcb).mono ?_; rintro e w9 ⟨T9, c9, rfl, hown9, hg9, hat9⟩; have z9 : w9.cell? ⟨g, pn * 5 + 4, none⟩ = some (.slice K4 l[pn].kids.length kc4) := (hg9.cell_far ⟨g, pn * 5 + 4, none⟩ (by simp; omega) (fun e => hKg g e.symm rfl)).trans x4; have u9 : w9.frozen? ⟨g, pn * 5 + 4, none⟩ = false := (hg9.frozen_far ⟨g, pn * 5 + 4, none⟩ (by simp; omega) (fun e => hKg g e.symm rfl)).trans f4; have zb : w9.cell? ⟨w.heap.size, 0, none⟩ = some (.int .i64 q) := (hg9.cell_far ⟨w.heap.size, 0, none⟩ (by simp) (fun e => absurd (hKlt _ e.symm) (Nat.lt_irrefl _))).trans hcb; obtain ⟨own', hd'⟩ := hd1.kids_ hpn hseg hno hg9 (fun bb e => .inl (hno.ka bb e)) hown9 (fun bb e => .inl (hno.ka bb (hat9 bb e))); have hq' : q < (putKids l pn (filI l[pn].kids q)).length := (by rw [putKids_len]; exact hq); obtain ⟨T6, ac6, K6, kc6, hseg6, -⟩ := hd'.node q _ (List.getElem?_eq_getElem hq'); have hrow6 := hd'.row; rw [putKids_len] at hrow6; have z6 := (hrow6.cellAt (q * 5 + 3) (by omega)).trans (seg_get hseg6 (by omega)); have f6 := owns_frozen hrow6 (q * 5 + 3); have z7 : (w9.setCell ⟨g, pn * 5 + 4, none⟩ (.slice T9 (filI l[pn].kids q).length c9)).cell? ⟨g, q * 5 + 3, none⟩ = some (.int .i64 (putKids l pn (filI l[pn].kids q))[q].parent) := z6)
    have hlen : (putKids l pn (filI l[pn].kids q)).length = l.length := putKids_len _ _ _
    rw [← hlen] at hd'
    have hfin := hd'.parent hq' (-1)
    rw [hlen] at hfin
    have hrem : remL l q = putParent (putKids l pn (filI l[pn].kids q)) q (-1) := by unfold remL; rw [HPO.out, HKD.out, Int.toNat_natCast, Int.toNat_natCast]
    rw [← hrem] at hfin
    have hz9 : w.heap.size ≤ w9.heap.size := by have := hg9.size; simp at this; omega
    refine bodyPost_end (v := .tuple #[]) (by simp [results, Try.results65, go_sem]) rfl ⟨rfl, ⟨_, _, hfin⟩, by simpa [World.setCell] using hz9, fun hb => ((((Below.refl _ _).alloc hb _).grown hg9 (by simp; omega) (fun bb e => (hno.kids.lt bb e).1)).setCell hgb _).setCell hgb _⟩
end Go.Proofs.Ytpgcaehbbdnhiaa

/- A document of one's own that is written: a node's attributes, its children, its parent. No walk. -/
import Derived.Test.YtpgcaehbbdnhiaaA3
namespace Go.Proofs.Ytpgcaehbbdnhiaa
open Go.RowKit
theorem nodeCells_len (n : GNode) (T : Option Addr) (ac : Nat) (K : Option Addr) (kc : Nat) : (nodeCells n T ac K kc).length = 5 := rfl
def putAttrs (l : List GNode) (q : Nat) (az : List GAttr) : List GNode := match l[q]? with | some n => l.set q ⟨n.name, n.text, az, n.parent, n.kids⟩ | none => l
def putKids (l : List GNode) (q : Nat) (ks : List Int) : List GNode := match l[q]? with | some n => l.set q ⟨n.name, n.text, n.attrs, n.parent, ks⟩ | none => l
def putParent (l : List GNode) (q : Nat) (p : Int) : List GNode := match l[q]? with | some n => l.set q ⟨n.name, n.text, n.attrs, p, n.kids⟩ | none => l
theorem putAttrs_at {l : List GNode} {q : Nat} (h : q < l.length) (az : List GAttr) : putAttrs l q az = l.set q ⟨l[q].name, l[q].text, az, l[q].parent, l[q].kids⟩ := by unfold putAttrs; rw [List.getElem?_eq_getElem h]
theorem putKids_at {l : List GNode} {q : Nat} (h : q < l.length) (ks : List Int) : putKids l q ks = l.set q ⟨l[q].name, l[q].text, l[q].attrs, l[q].parent, ks⟩ := by unfold putKids; rw [List.getElem?_eq_getElem h]
theorem putParent_at {l : List GNode} {q : Nat} (h : q < l.length) (p : Int) : putParent l q p = l.set q ⟨l[q].name, l[q].text, l[q].attrs, p, l[q].kids⟩ := by unfold putParent; rw [List.getElem?_eq_getElem h]
/-- what is one's own hangs on its own block alone -/
theorem owns_block {w w' : World} {base : Nat} {e : TypeId} {size : Nat} {v : Value} {n : Nat} {xs : List Value} (h : w.ownsRow base e size v n xs) (hb : ∀ g, v.ownBlock = some g → w'.heap[g]? = w.heap[g]?) : w'.ownsRow base e size v n xs := by
  refine ⟨h.1, ?_⟩
  rcases h.2 with h1 | ⟨g, cap, cur, rfl, hbg, hgg, rest⟩
  · exact .inl h1
  · exact .inr ⟨g, cap, cur, rfl, hbg, (hb g rfl).trans hgg, rest⟩
theorem NodeOwn.block {w w' : World} {base : Nat} {own own' : Nat → Nat} {i : Nat} {n : GNode} {T : Option Addr} {ac : Nat} {K : Option Addr} {kc : Nat} (h : NodeOwn w base own i n T ac K kc)
    (hb : ∀ g, g < w.heap.size → own g = 2 * i + 1 ∨ own g = 2 * i + 2 → w'.heap[g]? = w.heap[g]? ∧ own' g = own g) : NodeOwn w' base own' i n T ac K kc where
  attrs := owns_block h.attrs fun g e => (hb g (h.attrs.lt g e).2 (.inl (h.ta g e))).1
  kids := owns_block h.kids fun g e => (hb g (h.kids.lt g e).2 (.inr (h.ka g e))).1
  ta := fun g e => by rw [(hb g (h.attrs.lt g e).2 (.inl (h.ta g e))).2]; exact h.ta g e
  ka := fun g e => by rw [(hb g (h.kids.lt g e).2 (.inr (h.ka g e))).2]; exact h.ka g e
/-- one node is another one now -/
theorem DocX.upd {w w3 : World} {base : Nat} {own own3 : Nat → Nat} {v : Value} {l : List GNode} {xs xs3 : List Value} (h : DocX w base own v l xs) {q : Nat} (hq : q < l.length) {n' : GNode}
    (htag : ∀ g, v.ownBlock = some g → own3 g = 0) (hrow : w3.ownsRow base 46 5 v l.length xs3)
    (hsame : ∀ i, i ≠ q → (xs3.drop (i * 5)).take 5 = (xs.drop (i * 5)).take 5)
    (hkeep : ∀ i, i ≠ q → ∀ g, g < w.heap.size → own g = 2 * i + 1 ∨ own g = 2 * i + 2 → w3.heap[g]? = w.heap[g]? ∧ own3 g = own g)
    (hnode : ∃ T ac K kc, (xs3.drop (q * 5)).take 5 = nodeCells n' T ac K kc ∧ NodeOwn w3 base own3 q n' T ac K kc) : DocX w3 base own3 v (l.set q n') xs3 where
  tag := htag
  row := by rw [List.length_set]; exact hrow
  node := fun i n hi => by
    by_cases e : i = q
    · subst e
      rw [List.getElem?_set_self hq] at hi
      cases hi
      exact hnode
    · rw [List.getElem?_set_ne (fun e' => e e'.symm)] at hi
      obtain ⟨T, ac, K, kc, e1, ho⟩ := h.node i n hi
      exact ⟨T, ac, K, kc, (hsame i e).trans e1, ho.block (hkeep i e)⟩
theorem set_block (w : World) (g j : Nat) (u : Value) {k : Nat} (h : k ≠ g) : (w.setCell ⟨g, j, none⟩ u).heap[k]? = w.heap[k]? := Below.heap_setCell w ⟨g, j, none⟩ u k h
/-- the attributes are put in, from a row of one's own -/
theorem DocX.attrs_ {w w2 : World} {base : Nat} {own : Nat → Nat} {g cap : Nat} {l : List GNode} {xs : List Value} (h : DocX w base own (.slice (some ⟨g, 0, none⟩) l.length cap) l xs) {q : Nat} (hq : q < l.length) {T : Option Addr} {ac : Nat} {K : Option Addr} {kc : Nat}
    (hseg : (xs.drop (q * 5)).take 5 = nodeCells l[q] T ac K kc) (hno : NodeOwn w base own q l[q] T ac K kc) {r : Option Nat} (hg : w.grownBy w2 r) (hr : ∀ b, r = some b → own b = 2 * q + 1 ∨ w.heap.size ≤ b)
    {az : List GAttr} {X : Option Addr} {xc : Nat} (hX : w2.ownsRow base 68 2 (.slice X az.length xc) az.length (attrCells az)) (hXb : ∀ b, (Value.slice X az.length xc).ownBlock = some b → own b = 2 * q + 1 ∨ w.heap.size ≤ b) :
    ∃ own', DocX (w2.setCell ⟨g, q * 5 + 2, none⟩ (.slice X az.length xc)) base own' (.slice (some ⟨g, 0, none⟩) l.length cap) (putAttrs l q az) (xs.set (q * 5 + 2) (.slice X az.length xc)) := by
  rw [putAttrs_at hq]
  have hgt := h.tag g rfl
  have hgl := (h.row.lt g rfl).2
  have hz := hg.size
  let own' : Nat → Nat := fun b => if (Value.slice X az.length xc).ownBlock = some b then 2 * q + 1 else own b
  have hold : ∀ b, b < w.heap.size → own b ≠ 2 * q + 1 → own' b = own b := by
    intro b hb hne
    show (if _ then _ else _) = _
    rw [if_neg (fun e => by rcases hXb b e with h1 | h1; exact hne h1; omega)]
  have hkeep : ∀ b, b < w.heap.size → own b ≠ 2 * q + 1 → own b ≠ 0 → (w2.setCell ⟨g, q * 5 + 2, none⟩ (.slice X az.length xc)).heap[b]? = w.heap[b]? := by
    intro b hb hne h0
    rw [set_block _ _ _ _ (by intro e; subst e; exact h0 hgt)]
    exact hg.block b hb (fun e => by rcases hr b e.symm with h1 | h1; exact hne h1; omega)
  have hrow2 := h.row.kept hg (.inr (fun e => by rcases hr g e.symm with h1 | h1 <;> omega))
  refine ⟨own', h.upd hq (fun b e => ?_) (hrow2.stored _ _).1 (fun i hi => seg_other (by omega) hi) (fun i hi b hb ho => ⟨hkeep b hb (by omega) (by omega), hold b hb (by omega)⟩) ⟨X, xc, K, kc, by rw [seg_same, hseg]; rfl, ?_⟩⟩
  · cases e; rw [hold _ hgl (by omega)]; exact hgt
  · have hXs := hX.kept (grown_set w2 g (q * 5 + 2) (.slice X az.length xc)) (by
      cases e : (Value.slice X az.length xc).ownBlock with
      | none => exact .inl rfl
      | some b => refine .inr fun e2 => ?_; cases e2; rcases hXb _ e with h1 | h1 <;> omega)
    have hOt := owns_block (w' := w2.setCell ⟨g, q * 5 + 2, none⟩ (.slice X az.length xc)) hno.kids fun b e => hkeep b (hno.kids.lt b e).2 (by rw [hno.ka b e]; omega) (by rw [hno.ka b e]; omega)
    exact ⟨hXs, hOt, fun b e => if_pos e, fun b e => (hold b (hno.kids.lt b e).2 (by rw [hno.ka b e]; omega)).trans (hno.ka b e)⟩
/-- one of them is written in place -/
theorem DocX.attrsin {w w2 : World} {base : Nat} {own : Nat → Nat} {g cap : Nat} {l : List GNode} {xs : List Value} (h : DocX w base own (.slice (some ⟨g, 0, none⟩) l.length cap) l xs) {q : Nat} (hq : q < l.length) {T : Option Addr} {ac : Nat} {K : Option Addr} {kc : Nat}
    (hseg : (xs.drop (q * 5)).take 5 = nodeCells l[q] T ac K kc) (hno : NodeOwn w base own q l[q] T ac K kc) {b0 : Nat} (hb0 : (Value.slice T l[q].attrs.length ac).ownBlock = some b0) (hg : w.grownBy w2 (some b0))
    {az : List GAttr} (hlen : az.length = l[q].attrs.length) (hX : w2.ownsRow base 68 2 (Value.slice T l[q].attrs.length ac) l[q].attrs.length (attrCells az)) :
    DocX w2 base own (.slice (some ⟨g, 0, none⟩) l.length cap) (putAttrs l q az) xs := by
  rw [putAttrs_at hq]
  have hgt := h.tag g rfl
  have hbt := hno.ta b0 hb0
  have hkeep : ∀ b, b < w.heap.size → own b ≠ 2 * q + 1 → w2.heap[b]? = w.heap[b]? := fun b hb hne => hg.block b hb (fun e => by cases e; exact hne hbt)
  have hrow2 := h.row.kept hg (.inr (fun e => by have e2 : g = b0 := by simpa [Value.ownBlock] using e
                                                 subst e2; omega))
  refine h.upd hq h.tag hrow2 (fun i hi => rfl) (fun i hi b hb ho => ⟨hkeep b hb (by omega), rfl⟩) ⟨T, ac, K, kc, by rw [hseg]; simp only [nodeCells, hlen], ?_⟩
  have hOt := owns_block (w' := w2) hno.kids fun b e => hkeep b (hno.kids.lt b e).2 (by rw [hno.ka b e]; omega)
  rw [← hlen] at hX
  have hM := hno.ta
  rw [← hlen] at hM
  exact ⟨hX, hOt, hM, hno.ka⟩
/-- the children are put in, from a row of one's own -/
theorem DocX.kids_ {w w2 : World} {base : Nat} {own : Nat → Nat} {g cap : Nat} {l : List GNode} {xs : List Value} (h : DocX w base own (.slice (some ⟨g, 0, none⟩) l.length cap) l xs) {q : Nat} (hq : q < l.length) {T : Option Addr} {ac : Nat} {K : Option Addr} {kc : Nat}
    (hseg : (xs.drop (q * 5)).take 5 = nodeCells l[q] T ac K kc) (hno : NodeOwn w base own q l[q] T ac K kc) {r : Option Nat} (hg : w.grownBy w2 r) (hr : ∀ b, r = some b → own b = 2 * q + 2 ∨ w.heap.size ≤ b)
    {az : List Int} {X : Option Addr} {xc : Nat} (hX : w2.ownsRow base 3 1 (.slice X az.length xc) az.length (intCells az)) (hXb : ∀ b, (Value.slice X az.length xc).ownBlock = some b → own b = 2 * q + 2 ∨ w.heap.size ≤ b) :
    ∃ own', DocX (w2.setCell ⟨g, q * 5 + 4, none⟩ (.slice X az.length xc)) base own' (.slice (some ⟨g, 0, none⟩) l.length cap) (putKids l q az) (xs.set (q * 5 + 4) (.slice X az.length xc)) := by
  rw [putKids_at hq]
  have hgt := h.tag g rfl
  have hgl := (h.row.lt g rfl).2
  have hz := hg.size
  let own' : Nat → Nat := fun b => if (Value.slice X az.length xc).ownBlock = some b then 2 * q + 2 else own b
  have hold : ∀ b, b < w.heap.size → own b ≠ 2 * q + 2 → own' b = own b := by
    intro b hb hne
    show (if _ then _ else _) = _
    rw [if_neg (fun e => by rcases hXb b e with h1 | h1; exact hne h1; omega)]
  have hkeep : ∀ b, b < w.heap.size → own b ≠ 2 * q + 2 → own b ≠ 0 → (w2.setCell ⟨g, q * 5 + 4, none⟩ (.slice X az.length xc)).heap[b]? = w.heap[b]? := by
    intro b hb hne h0
    rw [set_block _ _ _ _ (by intro e; subst e; exact h0 hgt)]
    exact hg.block b hb (fun e => by rcases hr b e.symm with h1 | h1; exact hne h1; omega)
  have hrow2 := h.row.kept hg (.inr (fun e => by rcases hr g e.symm with h1 | h1 <;> omega))
  refine ⟨own', h.upd hq (fun b e => ?_) (hrow2.stored _ _).1 (fun i hi => seg_other (by omega) hi) (fun i hi b hb ho => ⟨hkeep b hb (by omega) (by omega), hold b hb (by omega)⟩) ⟨T, ac, X, xc, by rw [seg_same, hseg]; rfl, ?_⟩⟩
  · cases e; rw [hold _ hgl (by omega)]; exact hgt
  · have hXs := hX.kept (grown_set w2 g (q * 5 + 4) (.slice X az.length xc)) (by
      cases e : (Value.slice X az.length xc).ownBlock with
      | none => exact .inl rfl
      | some b => refine .inr fun e2 => ?_; cases e2; rcases hXb _ e with h1 | h1 <;> omega)
    have hOt := owns_block (w' := w2.setCell ⟨g, q * 5 + 4, none⟩ (.slice X az.length xc)) hno.attrs fun b e => hkeep b (hno.attrs.lt b e).2 (by rw [hno.ta b e]; omega) (by rw [hno.ta b e]; omega)
    exact ⟨hOt, hXs, fun b e => (hold b (hno.attrs.lt b e).2 (by rw [hno.ta b e]; omega)).trans (hno.ta b e), fun b e => if_pos e⟩
/-- one of them is written in place -/
theorem DocX.kidsin {w w2 : World} {base : Nat} {own : Nat → Nat} {g cap : Nat} {l : List GNode} {xs : List Value} (h : DocX w base own (.slice (some ⟨g, 0, none⟩) l.length cap) l xs) {q : Nat} (hq : q < l.length) {T : Option Addr} {ac : Nat} {K : Option Addr} {kc : Nat}
    (hseg : (xs.drop (q * 5)).take 5 = nodeCells l[q] T ac K kc) (hno : NodeOwn w base own q l[q] T ac K kc) {b0 : Nat} (hb0 : (Value.slice K l[q].kids.length kc).ownBlock = some b0) (hg : w.grownBy w2 (some b0))
    {az : List Int} (hlen : az.length = l[q].kids.length) (hX : w2.ownsRow base 3 1 (Value.slice K l[q].kids.length kc) l[q].kids.length (intCells az)) :
    DocX w2 base own (.slice (some ⟨g, 0, none⟩) l.length cap) (putKids l q az) xs := by
  rw [putKids_at hq]
  have hgt := h.tag g rfl
  have hbt := hno.ka b0 hb0
  have hkeep : ∀ b, b < w.heap.size → own b ≠ 2 * q + 2 → w2.heap[b]? = w.heap[b]? := fun b hb hne => hg.block b hb (fun e => by cases e; exact hne hbt)
  have hrow2 := h.row.kept hg (.inr (fun e => by have e2 : g = b0 := by simpa [Value.ownBlock] using e
                                                 subst e2; omega))
  refine h.upd hq h.tag hrow2 (fun i hi => rfl) (fun i hi b hb ho => ⟨hkeep b hb (by omega), rfl⟩) ⟨T, ac, K, kc, by rw [hseg]; simp only [nodeCells, hlen], ?_⟩
  have hOt := owns_block (w' := w2) hno.attrs fun b e => hkeep b (hno.attrs.lt b e).2 (by rw [hno.ta b e]; omega)
  rw [← hlen] at hX
  have hM := hno.ka
  rw [← hlen] at hM
  exact ⟨hOt, hX, hno.ta, hM⟩
/-- the parent is written -/
theorem DocX.parent {w : World} {base : Nat} {own : Nat → Nat} {g cap : Nat} {l : List GNode} {xs : List Value} (h : DocX w base own (.slice (some ⟨g, 0, none⟩) l.length cap) l xs) {q : Nat} (hq : q < l.length) (p : Int) :
    DocX (w.setCell ⟨g, q * 5 + 3, none⟩ (.int .i64 p)) base own (.slice (some ⟨g, 0, none⟩) l.length cap) (putParent l q p) (xs.set (q * 5 + 3) (.int .i64 p)) := by
  rw [putParent_at hq]
  have hgt := h.tag g rfl
  obtain ⟨T, ac, K, kc, e0, ho⟩ := h.node q _ (List.getElem?_eq_getElem hq)
  refine h.upd hq h.tag (h.row.stored _ _).1 (fun i hi => seg_other (by omega) hi) (fun i hi b hb ho => ⟨set_block w g _ _ (by intro e; subst e; omega), rfl⟩) ⟨T, ac, K, kc, by rw [seg_same, e0]; rfl, ?_⟩
  have hk := NodeOwn.block (own' := own) (w' := w.setCell ⟨g, q * 5 + 3, none⟩ (.int .i64 p)) ho (fun b hb ho => ⟨set_block w g _ _ (by intro e; subst e; omega), rfl⟩)
  exact ⟨hk.attrs, hk.kids, hk.ta, hk.ka⟩
/-- the end of a row of one's own is cleared -/
theorem owns_clear {P : Program} {w : World} {base : Nat} {t e : TypeId} {size n c g : Nat} {z : Value} {xs : List Value} (ht : P.underlying t = some (.slice e)) (hz : ∀ w, (zeroValue e).run P w = .ok z w) (hzs : z.cells.size = size) (hz1 : ∀ v ∈ z.cells, v.oneCell' = true)
    (h : w.ownsRow base e size (.slice (some ⟨g, 0, none⟩) n c) n xs) {i : Nat} (hi : i < n) (c' : Nat) :
    ∃ w', (∀ ty, (Builtin.clear_ #[t] ty #[.slice (some ⟨g, i * size, none⟩) (n - i) c']).run P w = .ok (.tuple #[]) w') ∧ w'.ownsRow base e size (.slice (some ⟨g, 0, none⟩) i c) i (xs.take (i * size)) ∧ w.grownBy w' (some g) := by
  rcases h.2 with ⟨h1, _⟩ | ⟨g', cap, cur, h1, hb, hg, hnc, hcm, hcs, htk⟩
  · cases h1
  · cases h1
    obtain ⟨m, hm⟩ : ∃ m, n - i = m + 1 := ⟨n - i - 1, by omega⟩
    have hzl : (Builtin.zeroCells z.cells (n - i)).toList.length = (n - i) * size := by rw [Array.length_toList, size_zeroCells, hzs]
    have hmul : i * size + (n - i) * size = n * size := by rw [← Nat.add_mul]; congr 1; omega
    have hle : n * size ≤ c * size := Nat.mul_le_mul_right _ hnc
    have hst := run_storeCells_at P g (i * size) e (Builtin.zeroCells z.cells (n - i)).toList 0 cur w hg (by rw [hzl, hcs]; omega) (fun v hv => by
      simp only [Builtin.zeroCells, Array.toList_map, List.mem_map] at hv
      obtain ⟨j, _, rfl⟩ := hv
      by_cases hs0 : 0 < z.cells.size
      · rw [getElem!_pos z.cells (j % z.cells.size) (Nat.mod_lt _ hs0)]
        exact hz1 _ (Array.getElem_mem _)
      · rw [getElem!_neg z.cells (j % z.cells.size) (by omega)]; rfl)
    obtain ⟨cur2, hc2⟩ : ∃ c2, c2 = (cur.toList.take (i * size + 0) ++ (Builtin.zeroCells z.cells (n - i)).toList ++ cur.toList.drop (i * size + 0 + (Builtin.zeroCells z.cells (n - i)).toList.length)).toArray := ⟨_, rfl⟩
    rw [← hc2] at hst
    refine ⟨w.setRow g cur2, ?_, ⟨?_, .inr ⟨g, c, cur2, rfl, hb, setRow_heap w g cur cur2 e (0, 0) hg, by omega, hcm, ?_, ?_⟩⟩, ⟨rfl, rfl, rfl, by simp [World.setRow], fun k _ hk => setRow_other w g k cur2 (fun e => hk (by rw [e]))⟩⟩
    · intro ty
      rw [hm] at hst ⊢
      simp only [Builtin.clear_]
      simp [run_underlying ht, hz, hst]
    · rw [List.length_take, h.1]; have := Nat.mul_le_mul_right size (Nat.le_of_lt hi); omega
    · rw [hc2]
      simp only [List.size_toArray, List.length_append, List.length_take, List.length_drop, Array.length_toList, hzl]
      omega
    · have h2 : i * size ≤ n * size := Nat.mul_le_mul_right size (Nat.le_of_lt hi)
      rw [hc2]
      simp only [Nat.add_zero, List.append_assoc]
      rw [List.take_append_of_le_length (by rw [List.length_take, Array.length_toList]; omega), List.take_take, Nat.min_self, ← htk, List.take_take, Nat.min_eq_left h2]
end Go.Proofs.Ytpgcaehbbdnhiaa

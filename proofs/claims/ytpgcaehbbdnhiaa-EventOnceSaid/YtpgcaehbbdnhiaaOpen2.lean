/- The readings of slices of attributes, of integers, of nodes, and of a node, at this program's types. -/
import Derived.Test.YtpgcaehbbdnhiaaProg
import Derived.Test.YtpgcaehbbdnhiaaOpen
namespace Go.Proofs.Ytpgcaehbbdnhiaa
open Go.RowKit Go.ChangeShapes Go.WideShapes
set_option maxRecDepth 100000
section
variable {H : Type} {enc : TypeId × Value → H} {w : World} {base : Nat} {spare : Nat → Bool} {held : Bool}
theorem cells_str : Try.prog.cellsOf 9 = 1 := by kernel_rfl
theorem cells_int : Try.prog.cellsOf 3 = 1 := by kernel_rfl
theorem cells_attr : Try.prog.cellsOf 68 = 2 := by kernel_rfl
theorem cells_node : Try.prog.cellsOf 46 = 5 := by kernel_rfl
theorem cells_attrs : Try.prog.cellsOf 44 = 1 := by kernel_rfl
theorem cells_ints : Try.prog.cellsOf 26 = 1 := by kernel_rfl
theorem bytes_attr : Try.prog.bytesOf 68 = 32 := by kernel_rfl
theorem bytes_int : Try.prog.bytesOf 3 = 8 := by kernel_rfl
theorem bytes_node : Try.prog.bytesOf 46 = 88 := by kernel_rfl

theorem spot_of {a : Addr} {v : Value} (h : w.cell? a = some v) : a = ⟨a.block, a.off, none⟩ := by
  have := World.cell?_spot h
  cases a; simp_all
theorem attr_of {fuel : Nat} {cs : List Value} {x : DataW H × List MemPlace} (h : DataW.trod enc Try.prog w base spare held fuel 68 cs = some x) :
    cs = [.string (attrD x.1).name, .string (attrD x.1).val] := by
  obtain ⟨y0, y1, n, rfl, hl, h0, h1⟩ := trod_struct2 Try.underlying68 h
  rw [cells_attr] at hl
  match cs, hl with
  | [c0, c1], _ =>
    have e0 := str_of Try.underlying9 h0
    have e1 := str_of Try.underlying9 h1
    rw [cells_str] at e0 e1
    simp at e0 e1
    subst e0 e1
    simp [attrD, partsD]
theorem attrs_of {fuel : Nat} {v : Value} {x : DataW H × List MemPlace} (h : DataW.trod enc Try.prog w base spare held fuel 44 [v] = some x) :
    ∃ (A : Option Addr) (cap : Nat), v = .slice A ((listD x.1).map attrD).length cap ∧ AttrsAt w w.heap.size A ((listD x.1).map attrD) ∧ ((listD x.1).map attrD).length ≤ cap := by
  obtain ⟨A, cap, hv, hcap, hA⟩ := list_of Try.underlying44 h
  refine ⟨A, cap, by simpa using hv, fun hne => ?_, by simpa using hcap⟩
  have hne' : listD x.1 ≠ [] := by intro e; rw [e] at hne; exact hne rfl
  obtain ⟨a, rfl, hc⟩ := hA hne'
  rw [cells_attr] at hc
  have key : ∀ i g, ((listD x.1).map attrD)[i]? = some g → w.cell? (a.add (i * 2)) = some (.string g.name) ∧ w.cell? (a.add (i * 2 + 1)) = some (.string g.val) := by
    intro i g hi
    rw [List.getElem?_map, Option.map_eq_some_iff] at hi
    obtain ⟨d, hd, rfl⟩ := hi
    obtain ⟨cs', n, y, hat, _, ht, rfl⟩ := hc i d hd
    have := attr_of ht
    subst this
    exact ⟨by simpa using hat 0 (by omega), by simpa using hat 1 (by omega)⟩
  obtain ⟨d0, hd0⟩ : ∃ d0, (listD x.1)[0]? = some d0 := by
    cases hl : listD x.1 with
    | nil => exact absurd hl hne'
    | cons d l => exact ⟨d, by simp⟩
  have k0 := (key 0 (attrD d0) (by rw [List.getElem?_map, hd0]; rfl)).1
  rw [Nat.zero_mul, Addr.add_zero'] at k0
  have hs := spot_of k0
  generalize a.block = b at hs
  generalize a.off = o at hs
  subst hs
  refine ⟨b, o, rfl, block_lt_of_cell k0, fun i g hi => ?_⟩
  have := key i g hi
  rwa [Addr.add_lit, Addr.add_lit, ← Nat.add_assoc] at this
theorem ints_of {fuel : Nat} {v : Value} {x : DataW H × List MemPlace} (h : DataW.trod enc Try.prog w base spare held fuel 26 [v] = some x) :
    ∃ (A : Option Addr) (cap : Nat), v = .slice A ((listD x.1).map intD).length cap ∧ IntsAt w w.heap.size A ((listD x.1).map intD) ∧ ((listD x.1).map intD).length ≤ cap ∧ ∀ n ∈ (listD x.1).map intD, (Lit.int .i64 n).wf = true := by
  obtain ⟨A, cap, hv, hcap, hA⟩ := list_of Try.underlying26 h
  by_cases hne' : listD x.1 = []
  · rw [hne'] at hv ⊢
    exact ⟨A, cap, by simpa using hv, fun h => absurd rfl h, by simp, by simp⟩
  obtain ⟨a, rfl, hc⟩ := hA hne'
  rw [cells_int] at hc
  have key : ∀ i g, ((listD x.1).map intD)[i]? = some g → w.cell? (a.add i) = some (.int .i64 g) ∧ (Lit.int .i64 g).wf = true := by
    intro i g hi
    rw [List.getElem?_map, Option.map_eq_some_iff] at hi
    obtain ⟨d, hd, rfl⟩ := hi
    obtain ⟨cs', n, y, hat, _, ht, rfl⟩ := hc i d hd
    obtain ⟨e, hw⟩ := int_of Try.underlying3 ht
    subst e
    exact ⟨by simpa using hat 0 (by omega), hw⟩
  obtain ⟨d0, hd0⟩ : ∃ d0, (listD x.1)[0]? = some d0 := by
    cases hl : listD x.1 with
    | nil => exact absurd hl hne'
    | cons d l => exact ⟨d, by simp⟩
  have k0 := (key 0 (intD d0) (by rw [List.getElem?_map, hd0]; rfl)).1
  rw [Addr.add_zero'] at k0
  have hs := spot_of k0
  generalize a.block = b at hs
  generalize a.off = o at hs
  subst hs
  refine ⟨_, cap, by simpa using hv, fun _ => ⟨b, o, rfl, block_lt_of_cell k0, fun i g hi => ?_⟩, by simpa using hcap, fun n hn => ?_⟩
  · have := (key i g hi).1
    rwa [Addr.add_lit] at this
  · obtain ⟨i, hi, rfl⟩ := List.mem_iff_getElem.1 hn
    exact (key i _ (List.getElem?_eq_getElem hi)).2

/-- a node's five cells, and what lies behind them -/
def NodeCells (w : World) (B : Nat) (n : GNode) (cs : List Value) : Prop :=
  ∃ A ac K kc, cs = [.string n.name, .string n.text, .slice A n.attrs.length ac, .int .i64 n.parent, .slice K n.kids.length kc] ∧ AttrsAt w B A n.attrs ∧ IntsAt w B K n.kids ∧ n.attrs.length ≤ ac ∧ n.kids.length ≤ kc
/-- the numbers of a node fit their kind -/
def NodeFits (n : GNode) : Prop := (Lit.int .i64 n.parent).wf = true ∧ ∀ k ∈ n.kids, (Lit.int .i64 k).wf = true
/-- a node is no greater than what memory can hold -/
structure NodeSmall (R : Nat) (n : GNode) : Prop where
  name : n.name.size ≤ R
  text : n.text.size ≤ R
  attrs : n.attrs.length * 32 ≤ R
  each : ∀ a ∈ n.attrs, a.name.size ≤ R ∧ a.val.size ≤ R
  kids : n.kids.length * 8 ≤ R
theorem node_of {fuel : Nat} {cs : List Value} {x : DataW H × List MemPlace} (h : DataW.trod enc Try.prog w base spare held fuel 46 cs = some x) :
    NodeCells w w.heap.size (nodeD x.1) cs ∧ NodeFits (nodeD x.1) ∧ ∃ l, x.1 = .agg l := by
  obtain ⟨xs, n, _, rfl, hl, hlen, hg⟩ := DataW.trod_struct Try.underlying46 h
  rw [cells_node] at hl
  match cs, hl with
  | [c0, c1, c2, c3, c4], _ =>
    match xs, hlen with
    | [y0, y1, y2, y3, y4], _ =>
      have h0 : DataW.trod enc Try.prog w base spare held n 9 (([c0, c1, c2, c3, c4].drop 0).take (Try.prog.cellsOf 9)) = some y0 := hg 0 _ rfl
      rw [cells_str] at h0
      have h1 : DataW.trod enc Try.prog w base spare held n 9 (([c0, c1, c2, c3, c4].drop 1).take (Try.prog.cellsOf 9)) = some y1 := hg 1 _ rfl
      rw [cells_str] at h1
      have h2 : DataW.trod enc Try.prog w base spare held n 44 (([c0, c1, c2, c3, c4].drop 2).take (Try.prog.cellsOf 44)) = some y2 := hg 2 _ rfl
      rw [cells_attrs] at h2
      have h3 : DataW.trod enc Try.prog w base spare held n 3 (([c0, c1, c2, c3, c4].drop 3).take (Try.prog.cellsOf 3)) = some y3 := hg 3 _ rfl
      rw [cells_int] at h3
      have h4 : DataW.trod enc Try.prog w base spare held n 26 (([c0, c1, c2, c3, c4].drop 4).take (Try.prog.cellsOf 26)) = some y4 := hg 4 _ rfl
      rw [cells_ints] at h4
      have e0 := str_of Try.underlying9 h0
      have e1 := str_of Try.underlying9 h1
      have e3 := int_of Try.underlying3 h3
      obtain ⟨A, ac, e2, ha, hac⟩ := attrs_of (v := c2) (x := y2) (fuel := n) h2
      obtain ⟨K, kc, e4, hk, hkc, hkw⟩ := ints_of (v := c4) (x := y4) (fuel := n) h4
      obtain ⟨e3, hw⟩ := e3
      obtain rfl : c0 = _ := by simpa using e0
      obtain rfl : c1 = _ := by simpa using e1
      obtain rfl : c3 = _ := by simpa using e3
      subst e2 e4
      exact ⟨⟨A, ac, K, kc, rfl, ha, hk, hac, hkc⟩, ⟨hw, hkw⟩, _, rfl⟩
theorem node_small {R : Nat} {d : DataW H} (hd : ∃ l, d = .agg l) (h : ∀ x ∈ d.weights Try.prog 46, x ≤ R) : NodeSmall R (nodeD d) := by
  obtain ⟨l, rfl⟩ := hd
  have w0 := weight_part Try.underlying46 h (i := 0) rfl
  have w1 := weight_part Try.underlying46 h (i := 1) rfl
  have w2 := weight_part Try.underlying46 h (i := 2) rfl
  have w4 := weight_part Try.underlying46 h (i := 4) rfl
  obtain ⟨l2, a2⟩ := weight_list Try.underlying44 w2
  obtain ⟨l4, _⟩ := weight_list Try.underlying26 w4
  rw [bytes_attr] at l2
  rw [bytes_int] at l4
  refine ⟨weight_str w0, weight_str w1, by simpa [nodeD, partsD] using l2, fun a ha => ?_, by simpa [nodeD, partsD] using l4⟩
  simp only [nodeD, partsD] at ha
  obtain ⟨d, hd, rfl⟩ := List.mem_map.1 ha
  have hw := a2 d hd
  cases d with
  | agg pl =>
    exact ⟨weight_str (weight_part Try.underlying68 hw (i := 0) rfl), weight_str (weight_part Try.underlying68 hw (i := 1) rfl)⟩
  | _ => exact ⟨Nat.zero_le _, Nat.zero_le _⟩
/-- a node that is handed over by value -/
theorem open_node {b0 : Nat} {v : Value} {d : DataW H} {p : List MemPlace} (hv : Value.okWide Try.prog w .any b0 46 v) (h : DataW.Trod enc Try.prog w base spare held 46 v d p)
    (hw : ∀ x ∈ d.weights Try.prog 46, x ≤ reachBytes) :
    ∃ a : GNode × List Value, v = .agg ⟨a.2⟩ ∧ (NodeCells w w.heap.size a.1 a.2 ∧ NodeFits a.1 ∧ NodeSmall reachBytes a.1) := by
  obtain ⟨cs, rfl, _⟩ := okWide_struct Try.underlying46 hv
  obtain ⟨l⟩ := cs
  obtain ⟨fuel, hf⟩ := h
  obtain ⟨a, b, c⟩ := node_of hf
  exact ⟨(_, l), rfl, a, b, node_small c hw⟩
end
end Go.Proofs.Ytpgcaehbbdnhiaa

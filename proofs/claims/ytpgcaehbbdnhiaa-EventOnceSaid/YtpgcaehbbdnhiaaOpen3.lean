/- The reading of a slice of nodes that came in. -/
import Derived.Test.YtpgcaehbbdnhiaaOpen2
import Derived.Test.YtpgcaehbbdnhiaaNodes
namespace Go.Proofs.Ytpgcaehbbdnhiaa
open Go.RowKit Go.ChangeShapes Go.WideShapes
set_option maxRecDepth 100000
section
variable {H : Type} {enc : TypeId × Value → H} {w : World} {base : Nat} {spare : Nat → Bool} {held : Bool}
theorem nodes_of {fuel : Nat} {v : Value} {x : DataW H × List MemPlace} (h : DataW.trod enc Try.prog w base spare held fuel 23 [v] = some x) :
    ∃ (A : Option Addr) (cap : Nat), v = .slice A ((listD x.1).map nodeD).length cap ∧ NodesAt w w.heap.size A ((listD x.1).map nodeD) ∧ ((listD x.1).map nodeD).length ≤ cap ∧ (∀ n ∈ (listD x.1).map nodeD, NodeFits n) ∧ ∀ d ∈ listD x.1, ∃ l, d = .agg l := by
  obtain ⟨A, cap, hv, hcap, hA⟩ := list_of Try.underlying23 h
  by_cases hne' : listD x.1 = []
  · rw [hne'] at hv ⊢
    exact ⟨A, cap, by simpa using hv, fun h => absurd rfl h, by simp, by simp, by simp⟩
  obtain ⟨a, rfl, hc⟩ := hA hne'
  rw [cells_node] at hc
  have key : ∀ i d, (listD x.1)[i]? = some d → (∃ T ac K kc, w.cell? (a.add (i * 5)) = some (.string (nodeD d).name) ∧ w.cell? (a.add (i * 5 + 1)) = some (.string (nodeD d).text) ∧ w.cell? (a.add (i * 5 + 2)) = some (.slice T (nodeD d).attrs.length ac) ∧
      w.cell? (a.add (i * 5 + 3)) = some (.int .i64 (nodeD d).parent) ∧ w.cell? (a.add (i * 5 + 4)) = some (.slice K (nodeD d).kids.length kc) ∧ AttrsAt w w.heap.size T (nodeD d).attrs ∧ IntsAt w w.heap.size K (nodeD d).kids ∧ (nodeD d).attrs.length ≤ ac ∧ (nodeD d).kids.length ≤ kc) ∧ NodeFits (nodeD d) ∧ ∃ l, d = .agg l := by
    intro i d hd
    obtain ⟨cs', n, y, hat, _, ht, rfl⟩ := hc i d hd
    obtain ⟨⟨T, ac, K, kc, rfl, hT, hK, hac, hkc⟩, hf, hg⟩ := node_of ht
    exact ⟨⟨T, ac, K, kc, by simpa using hat 0 (by omega), by simpa using hat 1 (by omega), by simpa using hat 2 (by omega), by simpa using hat 3 (by omega), by simpa using hat 4 (by omega), hT, hK, hac, hkc⟩, hf, hg⟩
  obtain ⟨d0, hd0⟩ : ∃ d0, (listD x.1)[0]? = some d0 := by
    cases hl : listD x.1 with
    | nil => exact absurd hl hne'
    | cons d l => exact ⟨d, by simp⟩
  obtain ⟨⟨_, _, _, _, k0, _⟩, _⟩ := key 0 d0 hd0
  rw [Nat.zero_mul, Addr.add_zero'] at k0
  have hs := spot_of k0
  generalize a.block = b at hs
  generalize a.off = o at hs
  subst hs
  refine ⟨_, cap, by simpa using hv, fun _ => ⟨b, o, rfl, block_lt_of_cell k0, fun i g hi => ?_⟩, by simpa using hcap, fun n hn => ?_, fun d hd => ?_⟩
  · rw [List.getElem?_map, Option.map_eq_some_iff] at hi
    obtain ⟨d, hd, rfl⟩ := hi
    obtain ⟨⟨T, ac, K, kc, h0, h1, h2, h3, h4, r⟩, _⟩ := key i d hd
    rw [Addr.add_lit] at h0 h1 h2 h3 h4
    rw [← Nat.add_assoc] at h1 h2 h3 h4
    exact ⟨T, ac, K, kc, h0, h1, h2, h3, h4, r⟩
  · obtain ⟨d, hd, rfl⟩ := List.mem_map.1 hn
    obtain ⟨i, hi, rfl⟩ := List.mem_iff_getElem.1 hd
    exact (key i _ (List.getElem?_eq_getElem hi)).2.1
  · obtain ⟨i, hi, rfl⟩ := List.mem_iff_getElem.1 hd
    exact (key i _ (List.getElem?_eq_getElem hi)).2.2
/-- a document as it came in: what is known of it -/
structure DocIn (w : World) (A : Option Addr) (l : List GNode) : Prop where
  at_ : NodesAt w w.heap.size A l
  fits : ∀ n ∈ l, NodeFits n
  small : ∀ n ∈ l, NodeSmall reachBytes n
  len : l.length * 88 ≤ reachBytes
theorem open_nodes {b0 : Nat} {v : Value} {d : DataW H} {p : List MemPlace} (hv : Value.okWide Try.prog w .any b0 23 v) (h : DataW.Trod enc Try.prog w base spare held 23 v d p)
    (hw : ∀ x ∈ d.weights Try.prog 23, x ≤ reachBytes) :
    ∃ a : Option Addr × List GNode × Nat, v = .slice a.1 a.2.1.length a.2.2 ∧ DocIn w a.1 a.2.1 := by
  obtain ⟨a, len, cap, rfl⟩ := okWide_slice Try.underlying23 hv
  obtain ⟨fuel, hf⟩ := h
  obtain ⟨A, cap', e1, hn, hc, hfits, hagg⟩ := nodes_of (v := .slice a len cap) (x := (d, p)) (fuel := fuel) hf
  obtain ⟨w1, w2⟩ := weight_list Try.underlying23 hw
  rw [bytes_node] at w1
  refine ⟨(A, (listD d).map nodeD, cap'), e1, hn, hfits, fun n hn => ?_, by simpa using w1⟩
  obtain ⟨d', hd', rfl⟩ := List.mem_map.1 hn
  exact node_small (hagg d' hd') (w2 d' hd')
end
end Go.Proofs.Ytpgcaehbbdnhiaa

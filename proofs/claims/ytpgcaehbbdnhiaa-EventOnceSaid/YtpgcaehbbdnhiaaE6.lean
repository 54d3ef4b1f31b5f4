/- The readings of a slice of listeners and of an event that came in. -/
import Derived.Test.YtpgcaehbbdnhiaaE5
import Derived.Test.YtpgcaehbbdnhiaaOpen3
namespace Go.Proofs.Ytpgcaehbbdnhiaa
open Go.RowKit Go.ChangeShapes Go.WideShapes
set_option maxRecDepth 100000
section
variable {H : Type} {enc : TypeId × Value → H} {w : World} {base : Nat} {spare : Nat → Bool} {held : Bool}
theorem cells_lis : Try.prog.cellsOf 42 = 4 := by kernel_rfl
theorem cells_ask : Try.prog.cellsOf 32 = 3 := by kernel_rfl
theorem cells_bool : Try.prog.cellsOf 4 = 1 := by kernel_rfl
theorem cells_acts : Try.prog.cellsOf 40 = 1 := by kernel_rfl
theorem bytes_lis : Try.prog.bytesOf 42 = 56 := by kernel_rfl
theorem lis_of {fuel : Nat} {cs : List Value} {x : DataW H × List MemPlace} (h : DataW.trod enc Try.prog w base spare held fuel 42 cs = some x) : ∃ y : Lis, cs = lisCells [y] := by
  obtain ⟨xs, n, _, rfl, hl, hlen, hg⟩ := DataW.trod_struct Try.underlying42 h
  rw [cells_lis] at hl
  match cs, hl with
  | [c0, c1, c2, c3], _ =>
    match xs, hlen with
    | [y0, y1, y2, y3], _ =>
      have h0 : DataW.trod enc Try.prog w base spare held n 3 (([c0, c1, c2, c3].drop 0).take (Try.prog.cellsOf 3)) = some y0 := hg 0 _ rfl
      rw [cells_int] at h0
      have h1 : DataW.trod enc Try.prog w base spare held n 9 (([c0, c1, c2, c3].drop 1).take (Try.prog.cellsOf 9)) = some y1 := hg 1 _ rfl
      rw [cells_str] at h1
      have h2 : DataW.trod enc Try.prog w base spare held n 4 (([c0, c1, c2, c3].drop 2).take (Try.prog.cellsOf 4)) = some y2 := hg 2 _ rfl
      rw [cells_bool] at h2
      have h3 : DataW.trod enc Try.prog w base spare held n 40 (([c0, c1, c2, c3].drop 3).take (Try.prog.cellsOf 40)) = some y3 := hg 3 _ rfl
      rw [cells_acts] at h3
      obtain ⟨e0, _⟩ := int_of Try.underlying3 h0
      have e1 := str_of Try.underlying9 h1
      obtain ⟨b, e2, _⟩ := DataW.trod_bool Try.underlying4 h2
      obtain ⟨A, cap, e3, -⟩ := list_of Try.underlying40 h3
      obtain rfl : c0 = _ := by simpa using e0
      obtain rfl : c1 = _ := by simpa using e1
      obtain rfl : c2 = _ := by simpa using e2
      obtain rfl : c3 = _ := by simpa using e3
      exact ⟨⟨_, _, _, (A, _, cap)⟩, rfl⟩
/-- listeners as they came in -/
structure LisDoc (w : World) (A : Option Addr) (l : List Lis) : Prop where
  at_ : LisAt w w.heap.size A l
  len : l.length * 56 ≤ reachBytes
theorem open_lis {b0 : Nat} {v : Value} {d : DataW H} {p : List MemPlace} (hv : Value.okWide Try.prog w .any b0 30 v) (h : DataW.Trod enc Try.prog w base spare held 30 v d p)
    (hw : ∀ x ∈ d.weights Try.prog 30, x ≤ reachBytes) :
    ∃ a : Option Addr × List Lis × Nat, v = .slice a.1 a.2.1.length a.2.2 ∧ LisDoc w a.1 a.2.1 := by
  obtain ⟨a, len, cap, rfl⟩ := okWide_slice Try.underlying30 hv
  obtain ⟨fuel, hf⟩ := h
  obtain ⟨w1, -⟩ := weight_list Try.underlying30 hw
  rw [bytes_lis] at w1
  obtain ⟨A, cap', e1, hcap, hA⟩ := list_of Try.underlying30 hf
  injection e1 with e1 _
  injection e1 with e1 e2 e3
  subst e1 e2 e3
  by_cases hne' : listD d = []
  · refine ⟨(a, [], cap), by simp [hne'], fun h => absurd rfl h, by simp⟩
  obtain ⟨ad, rfl, hc⟩ := hA hne'
  rw [cells_lis] at hc
  have key : ∀ i : Fin (listD d).length, ∃ y : Lis, w.cell? (ad.add (i.1 * 4)) = some (.int .i64 y.node) ∧ w.cell? (ad.add (i.1 * 4 + 1)) = some (.string y.type) ∧ w.cell? (ad.add (i.1 * 4 + 2)) = some (.bool y.cap) ∧ w.cell? (ad.add (i.1 * 4 + 3)) = some (.slice y.acts.1 y.acts.2.1 y.acts.2.2) := by
    intro i
    obtain ⟨cs', n, y, hat, _, ht, _⟩ := hc i.1 _ (List.getElem?_eq_getElem i.2)
    obtain ⟨z, rfl⟩ := lis_of ht
    exact ⟨z, by simpa [lisCells] using hat 0 (by omega), by simpa [lisCells] using hat 1 (by omega), by simpa [lisCells] using hat 2 (by omega), by simpa [lisCells] using hat 3 (by omega)⟩
  have hpos : 0 < (listD d).length := List.length_pos_iff.2 hne'
  obtain ⟨z0, k0, -⟩ := key ⟨0, hpos⟩
  rw [Nat.zero_mul, Addr.add_zero'] at k0
  have hs := spot_of k0
  generalize ad.block = b at hs
  generalize ad.off = o at hs
  subst hs
  refine ⟨(_, List.ofFn fun i => Classical.choose (key i), cap), by simp, fun _ => ⟨b, o, rfl, block_lt_of_cell k0, fun i g hi => ?_⟩, by simpa using w1⟩
  rw [List.getElem?_ofFn] at hi
  split at hi
  · rename_i hil
    cases hi
    have hsp := Classical.choose_spec (key ⟨i, hil⟩)
    generalize Classical.choose (key ⟨i, hil⟩) = z at hsp ⊢
    obtain ⟨h0, h1, h2, h3⟩ := hsp
    rw [Addr.add_lit] at h0 h1 h2 h3
    rw [← Nat.add_assoc] at h1 h2 h3
    exact ⟨h0, h1, h2, h3⟩
  · cases hi
theorem open_ask {b0 : Nat} {v : Value} {d : DataW H} {p : List MemPlace} (hv : Value.okWide Try.prog w .any b0 32 v) (h : DataW.Trod enc Try.prog w base spare held 32 v d p)
    (hw : ∀ x ∈ d.weights Try.prog 32, x ≤ reachBytes) :
    ∃ a : Int × ByteArray × Bool, v = .agg #[.int .i64 a.1, .string a.2.1, .bool a.2.2] ∧ ((Lit.int .i64 a.1).wf = true ∧ a.2.1.size ≤ reachBytes) := by
  obtain ⟨cs, rfl, _⟩ := okWide_struct Try.underlying32 hv
  obtain ⟨cs⟩ := cs
  obtain ⟨fuel, hf⟩ := h
  obtain ⟨xs, n, _, e, hl, hlen, hg⟩ := DataW.trod_struct Try.underlying32 hf
  rw [cells_ask] at hl
  simp only [Prod.mk.injEq] at e
  obtain ⟨rfl, rfl⟩ := e
  match cs, hl with
  | [c0, c1, c2], _ =>
    match xs, hlen with
    | [y0, y1, y2], _ =>
      have h0 : DataW.trod enc Try.prog w base spare held n 3 (([c0, c1, c2].drop 0).take (Try.prog.cellsOf 3)) = some y0 := hg 0 _ rfl
      rw [cells_int] at h0
      have h1 : DataW.trod enc Try.prog w base spare held n 9 (([c0, c1, c2].drop 1).take (Try.prog.cellsOf 9)) = some y1 := hg 1 _ rfl
      rw [cells_str] at h1
      have h2 : DataW.trod enc Try.prog w base spare held n 4 (([c0, c1, c2].drop 2).take (Try.prog.cellsOf 4)) = some y2 := hg 2 _ rfl
      rw [cells_bool] at h2
      obtain ⟨e0, hw0⟩ := int_of Try.underlying3 h0
      have e1 := str_of Try.underlying9 h1
      obtain ⟨b, e2, _⟩ := DataW.trod_bool Try.underlying4 h2
      obtain rfl : c0 = _ := by simpa using e0
      obtain rfl : c1 = _ := by simpa using e1
      obtain rfl : c2 = _ := by simpa using e2
      exact ⟨(_, _, b), rfl, hw0, weight_str (weight_part Try.underlying32 hw (i := 1) rfl)⟩
end
end Go.Proofs.Ytpgcaehbbdnhiaa

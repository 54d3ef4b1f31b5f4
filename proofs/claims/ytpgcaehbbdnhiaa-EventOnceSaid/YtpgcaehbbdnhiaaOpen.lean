/- From the form's readings of an argument to my words for memory: strings, integers, slices of attributes and of integers, nodes, slices of nodes. Over any program; the types' rows are hypotheses. -/
import Derived.Test.YtpgcaehbbdnhiaaHeap
import Derived.ProofKit
import Derived.SizedLaws
namespace Go.Proofs.Ytpgcaehbbdnhiaa
open Go.RowKit Go.ChangeShapes Go.WideShapes
section
variable {H : Type} {enc : TypeId × Value → H} {P : Program} {w : World} {base : Nat} {spare : Nat → Bool} {held : Bool}

def bytesD : DataW H → ByteArray | .lit (.string l) => ⟨l.toArray⟩ | _ => ⟨#[]⟩
def intD : DataW H → Int | .lit (.int _ n) => n | _ => 0
def listD : DataW H → List (DataW H) | .slice l _ => l | _ => []
def partsD : DataW H → List (DataW H) | .agg l => l | _ => []
def attrD (d : DataW H) : GAttr := ⟨bytesD ((partsD d).getD 0 .nil), bytesD ((partsD d).getD 1 .nil)⟩
def nodeD (d : DataW H) : GNode :=
  ⟨bytesD ((partsD d).getD 0 .nil), bytesD ((partsD d).getD 1 .nil), (listD ((partsD d).getD 2 .nil)).map attrD, intD ((partsD d).getD 3 .nil), (listD ((partsD d).getD 4 .nil)).map intD⟩

theorem str_of {t : TypeId} {fuel : Nat} {cs : List Value} {x : DataW H × List MemPlace} (ht : P.underlying t = some .string) (h : DataW.trod enc P w base spare held fuel t cs = some x) :
    cs = [.string (bytesD x.1)] := by
  obtain ⟨s, rfl, rfl, _⟩ := DataW.trod_string ht h
  simp [bytesD]
theorem int_of {t : TypeId} {k : IntKind} {fuel : Nat} {cs : List Value} {x : DataW H × List MemPlace} (ht : P.underlying t = some (.int k)) (h : DataW.trod enc P w base spare held fuel t cs = some x) :
    cs = [.int k (intD x.1)] ∧ (Lit.int k (intD x.1)).wf = true := by
  obtain ⟨n, rfl, rfl, hw⟩ := DataW.trod_int ht h
  exact ⟨rfl, hw⟩
theorem list_of {t e : TypeId} {fuel : Nat} {cs : List Value} {x : DataW H × List MemPlace} (ht : P.underlying t = some (.slice e)) (h : DataW.trod enc P w base spare held fuel t cs = some x) :
    ∃ (A : Option Addr) (cap : Nat), cs = [.slice A (listD x.1).length cap] ∧ (listD x.1).length ≤ cap ∧ ((listD x.1) ≠ [] → ∃ a, A = some a ∧
      ∀ i d, (listD x.1)[i]? = some d → ∃ cs' n y, (∀ j, j < P.cellsOf e → w.cell? (a.add (i * P.cellsOf e + j)) = cs'[j]?) ∧ cs'.length = P.cellsOf e ∧ DataW.trod enc P w base spare held n e cs' = some y ∧ y.1 = d) := by
  rcases DataW.trod_slice ht h with ⟨rfl, rfl⟩ | ⟨a, len, cap, elems, rest, n, _, rfl, rfl, hb, hl, hm, hlen, hel, _, _⟩
  · exact ⟨none, 0, rfl, Nat.le_refl _, fun h => absurd rfl h⟩
  · refine ⟨some a, cap, by simp [listD, hlen], by simp [listD, hlen, hl], fun _ => ⟨a, rfl, fun i d hi => ?_⟩⟩
    simp only [listD, List.getElem?_map, Option.map_eq_some_iff] at hi
    obtain ⟨y, hy, rfl⟩ := hi
    have hil : i < len := by
      have := (List.getElem?_eq_some_iff.1 hy).1
      omega
    have he := hel i hil
    rw [hy] at he
    rw [Option.bind_eq_some_iff] at he
    obtain ⟨cs', hc, ht'⟩ := he
    obtain ⟨_, hcl, hat⟩ := World.cells?_some hc
    refine ⟨cs', n, y, fun j hj => ?_, hcl, ht', rfl⟩
    rw [← Addr.add_add]
    exact hat j hj

theorem weight_list {t e : TypeId} {d : DataW H} {R : Nat} (ht : P.underlying t = some (.slice e)) (h : ∀ x ∈ d.weights P t, x ≤ R) :
    (listD d).length * P.bytesOf e ≤ R ∧ ∀ y ∈ listD d, ∀ x ∈ y.weights P e, x ≤ R := by
  cases d with
  | slice elems sp =>
    simp only [DataW.weights, ht] at h
    constructor
    · have := h _ (List.mem_cons_self ..)
      simp only [listD]
      exact Nat.le_trans (Nat.mul_le_mul_right _ (by omega)) this
    · have hall : ∀ (l : List (DataW H)) (y : DataW H), y ∈ l → ∀ x ∈ y.weights P e, x ∈ DataW.weightsAll P e l := by
        intro l
        induction l with
        | nil => intro y hy; simp at hy
        | cons a l ih =>
          intro y hy x hx
          simp only [DataW.weightsAll, List.mem_append]
          rcases List.mem_cons.1 hy with rfl | hy
          · exact .inl hx
          · exact .inr (ih y hy x hx)
      intro y hy x hx
      exact h x (List.mem_cons_of_mem _ (List.mem_append.2 (.inl (hall elems y hy x hx))))
  | _ => simp [listD]
theorem weight_str {t : TypeId} {d : DataW H} {R : Nat} (h : ∀ x ∈ d.weights P t, x ≤ R) : (bytesD d).size ≤ R := by
  unfold bytesD
  split
  · rename_i l
    exact h l.length (by simp [DataW.weights])
  · exact Nat.zero_le _
theorem weight_part {t : TypeId} {fs : Array Field} {l : List (DataW H)} {R : Nat} (ht : P.underlying t = some (.struct fs)) (h : ∀ x ∈ (DataW.agg l).weights P t, x ≤ R) {i : Nat} {f : Field} (hf : fs[i]? = some f) :
    ∀ x ∈ (l.getD i .nil).weights P f.type, x ≤ R := by
  simp only [DataW.weights, ht] at h
  intro x hx
  rcases Nat.lt_or_ge i l.length with hi | hi
  · refine h x (DataW.weights_mem_each (j := i) (t := f.type) (d := l.getD i .nil) ?_ ?_ x hx)
    · rw [List.getElem?_map, Array.getElem?_toList, hf]; rfl
    · rw [List.getD, List.getElem?_eq_getElem hi]; rfl
  · rw [List.getD, List.getElem?_eq_none hi] at hx
    simp [DataW.weights] at hx

end
end Go.Proofs.Ytpgcaehbbdnhiaa

/- A slice of nodes in memory. No program in sight. -/
import Derived.Test.YtpgcaehbbdnhiaaHeap
namespace Go.Proofs.Ytpgcaehbbdnhiaa
open Go.RowKit
/-- the five cells of a node at a place, and what lies behind them -/
def NodeIn (w : World) (B : Nat) (b o : Nat) (n : GNode) : Prop :=
  ∃ T ac K kc, w.cell? ⟨b, o, none⟩ = some (.string n.name) ∧ w.cell? ⟨b, o + 1, none⟩ = some (.string n.text) ∧ w.cell? ⟨b, o + 2, none⟩ = some (.slice T n.attrs.length ac) ∧
    w.cell? ⟨b, o + 3, none⟩ = some (.int .i64 n.parent) ∧ w.cell? ⟨b, o + 4, none⟩ = some (.slice K n.kids.length kc) ∧ AttrsAt w B T n.attrs ∧ IntsAt w B K n.kids ∧ n.attrs.length ≤ ac ∧ n.kids.length ≤ kc
/-- a slice (of these many elements) reads as nodes, below block B -/
def NodesAt (w : World) (B : Nat) (A : Option Addr) (l : List GNode) : Prop :=
  l ≠ [] → ∃ b o, A = some ⟨b, o, none⟩ ∧ b < B ∧ ∀ i n, l[i]? = some n → NodeIn w B b (o + i * 5) n
theorem NodeIn.keep {w w' : World} {B b o : Nat} {n : GNode} (h : NodeIn w B b o n) (hb : b < B) (hk : ∀ p : Addr, p.block < B → w'.cell? p = w.cell? p) : NodeIn w' B b o n := by
  obtain ⟨T, ac, K, kc, h0, h1, h2, h3, h4, hT, hK, ha, hc⟩ := h
  exact ⟨T, ac, K, kc, (hk _ hb).trans h0, (hk _ hb).trans h1, (hk _ hb).trans h2, (hk _ hb).trans h3, (hk _ hb).trans h4, hT.keep hk, hK.keep hk, ha, hc⟩
theorem NodeIn.mono {w : World} {B B' b o : Nat} {n : GNode} (h : NodeIn w B b o n) (hB : B ≤ B') : NodeIn w B' b o n := by
  obtain ⟨T, ac, K, kc, h0, h1, h2, h3, h4, hT, hK, ha, hc⟩ := h
  exact ⟨T, ac, K, kc, h0, h1, h2, h3, h4, hT.mono hB, hK.mono hB, ha, hc⟩
theorem NodesAt.keep {w w' : World} {B : Nat} {A : Option Addr} {l : List GNode} (h : NodesAt w B A l) (hk : ∀ p : Addr, p.block < B → w'.cell? p = w.cell? p) : NodesAt w' B A l := by
  intro hl
  obtain ⟨b, o, e, hb, hc⟩ := h hl
  exact ⟨b, o, e, hb, fun i a hi => (hc i a hi).keep hb hk⟩
theorem NodesAt.below {w w' : World} {B : Nat} {A : Option Addr} {l : List GNode} (h : NodesAt w B A l) (hb : Below B w w') : NodesAt w' B A l := h.keep fun _ hp => hb.cell hp
theorem NodesAt.mono {w : World} {B B' : Nat} {A : Option Addr} {l : List GNode} (h : NodesAt w B A l) (hB : B ≤ B') : NodesAt w B' A l := by
  intro hl
  obtain ⟨b, o, e, hb, hc⟩ := h hl
  exact ⟨b, o, e, by omega, fun i a hi => (hc i a hi).mono hB⟩
/-- one node of them -/
theorem NodesAt.at_ {w : World} {B : Nat} {A : Option Addr} {l : List GNode} (h : NodesAt w B A l) {i : Nat} (hi : i < l.length) :
    ∃ b o, A = some ⟨b, o, none⟩ ∧ b < B ∧ NodeIn w B b (o + i * 5) l[i] := by
  obtain ⟨b, o, e, hb, hc⟩ := h (by intro e; subst e; simp at hi)
  exact ⟨b, o, e, hb, hc i _ (List.getElem?_eq_getElem hi)⟩
/-- one more, where the slice's address is known -/
theorem NodesAt.at2 {w : World} {B : Nat} {b o : Nat} {l : List GNode} (h : NodesAt w B (some ⟨b, o, none⟩) l) {i : Nat} (hi : i < l.length) : NodeIn w B b (o + i * 5) l[i] := by
  obtain ⟨b', o', e, hb, hc⟩ := h.at_ hi
  cases e
  exact hc
end Go.Proofs.Ytpgcaehbbdnhiaa

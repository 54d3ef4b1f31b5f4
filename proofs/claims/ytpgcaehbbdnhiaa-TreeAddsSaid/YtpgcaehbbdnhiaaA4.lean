/- A node more: a right document stays right. Plain. -/
import Derived.Test.YtpgcaehbbdnhiaaO1
namespace Go.Proofs.Ytpgcaehbbdnhiaa
open Go.RowKit
theorem getElem?_snoc_lt {l : List GNode} {x : GNode} {i : Nat} (h : i < l.length) : (l ++ [x])[i]? = l[i]? := List.getElem?_append_left h
theorem parOf_snoc {l : List GNode} {x : GNode} {k : Int} (h : k < l.length) (h0 : 0 ≤ k) : parOf (l ++ [x]) k = parOf l k := by
  unfold parOf
  rw [getElem?_snoc_lt (by omega)]
theorem kidsOf_snoc {l : List GNode} {x : GNode} {k : Int} (h : k < l.length) (h0 : 0 ≤ k) : kidsOf (l ++ [x]) k = kidsOf l k := by
  unfold kidsOf
  rw [getElem?_snoc_lt (by omega)]
theorem right_add {l : List GNode} {x : GNode} (hr : RightP l) (hn : l.length < 400) (h1 : OneP x) (hp : x.parent = -1) (hk : x.kids = []) : RightP (l ++ [x]) := by
  obtain ⟨⟨hpos, h400, hnm, hpa⟩, hall, hcl⟩ := id hr
  have hlen : (l ++ [x]).length = l.length + 1 := by simp
  refine ⟨⟨by omega, by omega, ?_, ?_⟩, fun i hi => ?_, fun i hi => ?_⟩
  · simp only [List.getElem_append_left hpos]; exact hnm
  · simp only [List.getElem_append_left hpos]; exact hpa
  · rcases Nat.lt_or_ge i l.length with hlt | hge
    · obtain ⟨_, a1, a2, a3, a4, a5⟩ := hall i hlt
      refine ⟨hi, ?_⟩
      simp only [List.getElem_append_left hlt]
      refine ⟨a1, a2, by omega, fun h0 => ?_, fun j hj => ?_⟩
      · rw [kidsOf_snoc a3 h0]; exact a4 h0
      · obtain ⟨b1, b2, b3⟩ := a5 j hj
        exact ⟨b1, by omega, by rw [parOf_snoc b2 b1]; exact b3⟩
    · obtain rfl : i = l.length := by omega
      refine ⟨hi, ?_⟩
      have e : (l ++ [x])[l.length] = x := by simp
      rw [e, hp, hk]
      exact ⟨h1, by omega, by omega, fun h => absurd h (by omega), fun j hj => absurd hj (Nat.not_lt_zero _)⟩
  · rcases Nat.lt_or_ge i l.length with hlt | hge
    · have key : ∀ m, climb (l ++ [x]) m i = climb l m i := by
        intro m
        induction m with
        | zero => rfl
        | succ m ih =>
          by_cases hneg : climb l m i < 0
          · have e1 : climb l (m + 1) i = climb l m i := by show (if _ then _ else _) = _; rw [if_pos hneg]
            have e2 : climb (l ++ [x]) (m + 1) i = climb (l ++ [x]) m i := by show (if _ then _ else _) = _; rw [if_pos (by rw [ih]; exact hneg)]
            rw [e1, e2, ih]
          · rw [climb_succ hneg, climb_succ (by rw [ih]; exact hneg), ih, parOf_snoc (in_range hlt hall m) (by omega)]
      rw [key]
      exact climb_le (hcl i hlt) (by omega)
    · obtain rfl : i = l.length := by omega
      have e0 : parOf (l ++ [x]) (l.length : Int) = -1 := by
        have := parOf_at (l := l ++ [x]) (i := l.length) (by omega)
        rw [this]; simpa using hp
      have : climb (l ++ [x]) 1 (l.length : Int) < 0 := by
        rw [show (1 : Nat) = 0 + 1 from rfl, climb_succ (m := 0) (by show ¬ (l.length : Int) < 0; omega)]
        show parOf (l ++ [x]) (l.length : Int) < 0
        omega
      exact climb_le this (by omega)
end Go.Proofs.Ytpgcaehbbdnhiaa

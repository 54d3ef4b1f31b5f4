/- What a right document is. No program in sight. -/
import Derived.Test.YtpgcaehbbdnhiaaT3
import Derived.Test.YtpgcaehbbdnhiaaNodes
namespace Go.Proofs.Ytpgcaehbbdnhiaa
open Go.RowKit
def parOf (l : List GNode) (k : Int) : Int := match l[k.toNat]? with | some n => n.parent | none => -1
def kidsOf (l : List GNode) (k : Int) : List Int := match l[k.toNat]? with | some n => n.kids | none => []
theorem parOf_at {l : List GNode} {i : Nat} (h : i < l.length) : parOf l i = l[i].parent := by
  unfold parOf
  rw [Int.toNat_natCast, List.getElem?_eq_getElem h]
theorem kidsOf_at {l : List GNode} {i : Nat} (h : i < l.length) : kidsOf l i = l[i].kids := by
  unfold kidsOf
  rw [Int.toNat_natCast, List.getElem?_eq_getElem h]
/-- a child is in the list, and the node is its parent -/
def KidOk (l : List GNode) (i : Nat) (k : Int) : Prop := 0 ≤ k ∧ k < l.length ∧ parOf l k = i
def NodeOk (l : List GNode) (i : Nat) : Prop := ∃ h : i < l.length, OneP l[i] ∧ -1 ≤ l[i].parent ∧ l[i].parent < l.length ∧ (0 ≤ l[i].parent → cnt (kidsOf l l[i].parent) i = 1) ∧
  ∀ j (_ : j < l[i].kids.length), KidOk l i l[i].kids[j]
/-- going up these many steps -/
def climb (l : List GNode) : Nat → Int → Int
  | 0, k => k
  | m + 1, k => if climb l m k < 0 then climb l m k else parOf l (climb l m k)
theorem climb_stays {l : List GNode} {m : Nat} {k : Int} (h : climb l m k < 0) : ∀ d, climb l (m + d) k < 0
  | 0 => h
  | d + 1 => by
    have := climb_stays h d
    show (if climb l (m + d) k < 0 then climb l (m + d) k else parOf l (climb l (m + d) k)) < 0
    rw [if_pos this]; exact this
theorem climb_le {l : List GNode} {m m' : Nat} {k : Int} (h : climb l m k < 0) (hm : m ≤ m') : climb l m' k < 0 := by
  have := climb_stays h (m' - m)
  rwa [show m + (m' - m) = m' by omega] at this
theorem climb_succ {l : List GNode} {m : Nat} {k : Int} (h : ¬ climb l m k < 0) : climb l (m + 1) k = parOf l (climb l m k) := by
  show (if climb l m k < 0 then climb l m k else parOf l (climb l m k)) = _
  rw [if_neg h]
def RightP (l : List GNode) : Prop :=
  (∃ h : 0 < l.length, l.length ≤ 400 ∧ l[0].name.toList.isEmpty = false ∧ l[0].parent = -1) ∧ (∀ i, i < l.length → NodeOk l i) ∧ ∀ i : Nat, i < l.length → climb l (l.length + 1) i < 0
noncomputable def rightB (l : List GNode) : Bool := @decide (RightP l) (Classical.propDecidable _)
theorem rightB_yes {l : List GNode} (h : RightP l) : rightB l = true := by unfold rightB; exact @decide_eq_true _ (Classical.propDecidable _) h
theorem rightB_no {l : List GNode} (h : ¬ RightP l) : rightB l = false := by unfold rightB; exact @decide_eq_false _ (Classical.propDecidable _) h
theorem rightB_iff {l : List GNode} : rightB l = true ↔ RightP l := by unfold rightB; exact @decide_eq_true_iff _ (Classical.propDecidable _)
/-- a place that a node's parent names -/
theorem in_range {l : List GNode} {i : Nat} (hi : i < l.length) (h : ∀ j, j < l.length → NodeOk l j) : ∀ m, climb l m i < l.length
  | 0 => by show (i : Int) < _; omega
  | m + 1 => by
    have ih := in_range hi h m
    by_cases hn : climb l m i < 0
    · show (if climb l m i < 0 then climb l m i else parOf l (climb l m i)) < _
      rw [if_pos hn]; exact ih
    · rw [climb_succ hn]
      have hk : (climb l m i).toNat < l.length := by omega
      obtain ⟨_, _, _, hp, _⟩ := h _ hk
      have := parOf_at hk
      rw [Int.toNat_of_nonneg (by omega)] at this
      rw [this]; exact hp
end Go.Proofs.Ytpgcaehbbdnhiaa

/- The program's way to tell a right document: children met once, counted. No program in sight. -/
import Derived.Test.YtpgcaehbbdnhiaaT5
namespace Go.Proofs.Ytpgcaehbbdnhiaa
open Go.RowKit
theorem kidsOf_get {l : List GNode} {i : Nat} (h : i < l.length) : kidsOf l i = l[i].kids := kidsOf_at h
theorem cnt_take_le (l : List Int) (j : Nat) (n : Int) : cnt (l.take j) n ≤ cnt l n := by
  unfold cnt
  have := (List.Sublist.filter (· == n) (List.take_sublist j l)).length_le
  omega
/-- how often a node was met as a child, by then -/
def seen (l : List GNode) (i j k : Nat) : Int :=
  if parOf l k = i then cnt ((kidsOf l i).take j) k else if 0 ≤ parOf l k ∧ parOf l k < i then cnt (kidsOf l (parOf l k)) k else 0
def mark (m : Nat) (up : Nat → Bool) (x : Nat) : Bool := if x = m then true else up x
theorem mark_self (m : Nat) (up : Nat → Bool) : mark m up m = true := if_pos rfl
theorem mark_ne {m k : Nat} (up : Nat → Bool) (h : ¬ k = m) : mark m up k = up k := if_neg h
/-- the marks are right -/
def UpInv (l : List GNode) (i j : Nat) (up : Nat → Bool) : Prop := ∀ k, k < l.length → seen l i j k = if up k then 1 else 0
theorem UpInv.start (l : List GNode) : UpInv l 0 0 (fun _ => false) := by
  intro k _
  unfold seen
  split
  · simp [cnt]
  · rw [if_neg (by omega)]; simp
theorem UpInv.next {l : List GNode} {i j m : Nat} {up : Nat → Bool} (h : UpInv l i j up) (hj : j < (kidsOf l i).length) (hm : (kidsOf l i)[j] = m) (hu : up m = false) (hp : parOf l m = i) : UpInv l i (j + 1) (mark m up) := by
  intro k hk
  have := h k hk
  unfold seen at this ⊢
  by_cases e : k = m
  · subst e
    rw [if_pos hp, hu] at this
    rw [if_pos hp, mark_self, cnt_succ hj, hm, this]
    simp
  · rw [mark_ne up e]
    by_cases hpk : parOf l k = i
    · rw [if_pos hpk] at this ⊢
      rw [cnt_succ hj, hm, this]
      have : ((m : Int) == (k : Int)) = false := by rw [beq_eq_false_iff_ne]; omega
      rw [this]
      simp
    · rw [if_neg hpk] at this ⊢
      exact this
theorem UpInv.row {l : List GNode} {i : Nat} {up : Nat → Bool} (h : UpInv l i (kidsOf l i).length up) : UpInv l (i + 1) 0 up := by
  intro k hk
  have := h k hk
  rw [← this]
  unfold seen
  by_cases e1 : parOf l k = i
  · rw [if_neg (by omega), if_pos (by omega), if_pos e1, e1, List.take_length]
  · rw [if_neg e1]
    by_cases e2 : parOf l k = (i + 1 : Nat)
    · rw [if_pos e2, if_neg (by omega)]; simp [cnt]
    · rw [if_neg e2]
      by_cases e3 : 0 ≤ parOf l k ∧ parOf l k < i
      · rw [if_pos e3, if_pos (by omega)]
      · rw [if_neg e3, if_neg (by omega)]
theorem up_twice {l : List GNode} {i j m : Nat} {up : Nat → Bool} (h : UpInv l i j up) (hi : i < l.length) (hj : j < (kidsOf l i).length) (hm : (kidsOf l i)[j] = m) (hml : m < l.length) (hu : up m = true) : ¬ RightP l := by
  intro hr
  have hkl := kidsOf_get hi
  have hpm : parOf l m = i := by
    obtain ⟨_, _, _, _, _, hk⟩ := hr.2.1 i hi
    have := (hk j (by rw [hkl] at hj; exact hj)).2.2
    have e : l[i].kids[j]'(by rw [hkl] at hj; exact hj) = m := by rw [← hm]; simp [hkl]
    rwa [e] at this
  have hs := h m hml
  unfold seen at hs
  rw [if_pos hpm, hu] at hs
  have h2 := cnt_succ hj m
  rw [hm, hs] at h2
  simp at h2
  obtain ⟨_, _, _, _, hc, _⟩ := hr.2.1 m hml
  have hpm' : l[m].parent = i := by rw [← parOf_at hml]; exact hpm
  have h3 := hc (by rw [hpm']; omega)
  rw [hpm'] at h3
  have := cnt_take_le (kidsOf l i) (j + 1) m
  omega
def nPar (l : List GNode) (i : Nat) : Nat := (List.range i).countP (fun a : Nat => decide (0 ≤ parOf l a))
def nUp (up : Nat → Bool) (n : Nat) : Nat := (List.range n).countP up
theorem nPar_succ (l : List GNode) (i : Nat) : nPar l (i + 1) = nPar l i + if 0 ≤ parOf l i then 1 else 0 := by
  unfold nPar
  rw [List.range_succ, List.countP_append]
  simp [List.countP_cons]
theorem nPar_le (l : List GNode) (i : Nat) : nPar l i ≤ i := by
  unfold nPar
  have := List.countP_le_length (p := fun a : Nat => decide (0 ≤ parOf l (a : Nat))) (l := List.range i)
  simpa using this
theorem nUp_le (up : Nat → Bool) (n : Nat) : nUp up n ≤ n := by
  unfold nUp
  have := List.countP_le_length (p := up) (l := List.range n)
  simpa using this
theorem nUp_zero (n : Nat) : nUp (fun _ => false) n = 0 := by
  unfold nUp
  simp
theorem nUp_set {up : Nat → Bool} {m : Nat} (hu : up m = false) : ∀ n, nUp (mark m up) n = nUp up n + if m < n then 1 else 0
  | 0 => by simp [nUp]
  | n + 1 => by
    have ih := nUp_set hu n
    unfold nUp at ih ⊢
    rw [List.range_succ, List.countP_append, List.countP_append, ih]
    simp only [List.countP_cons, List.countP_nil, Nat.zero_add]
    by_cases e : n = m
    · subst e
      rw [hu, mark_self]
      simp
    · rw [mark_ne up e]
      by_cases h : m < n
      · have e1 : m < n + 1 := by omega
        rw [if_pos h, if_pos e1]; omega
      · have e1 : ¬ m < n + 1 := by omega
        rw [if_neg h, if_neg e1]; omega
theorem count_eq {p q : Nat → Bool} : ∀ n, (∀ a, a < n → q a = true → p a = true) → (List.range n).countP q ≤ (List.range n).countP p ∧ ((List.range n).countP p = (List.range n).countP q ↔ ∀ a, a < n → p a = true → q a = true)
  | 0, _ => by simp
  | n + 1, h => by
    obtain ⟨i1, i2⟩ := count_eq n fun a ha => h a (by omega)
    have hn := h n (by omega)
    simp only [List.range_succ, List.countP_append, List.countP_cons, List.countP_nil, Nat.zero_add]
    constructor
    · cases hq : q n with
      | false => simp; omega
      | true => rw [hn hq]; simp; exact i1
    · cases hq : q n with
      | true =>
        rw [hn hq]
        simp only [if_true]
        constructor
        · intro e a ha hp
          by_cases ea : a = n
          · subst ea; exact hq
          · exact i2.1 (by omega) a (by omega) hp
        · intro hall
          have := i2.2 fun a ha => hall a (by omega)
          omega
      | false =>
        cases hp : p n with
        | false =>
          simp
          rw [i2]
          constructor
          · intro hall a ha hpa
            by_cases ea : a = n
            · subst ea; rw [hp] at hpa; exact absurd hpa (by simp)
            · exact hall a (by omega) hpa
          · intro hall a ha; exact hall a (by omega)
        | true =>
          simp
          constructor
          · intro e; omega
          · intro hall
            have := hall n (by omega) hp
            rw [hq] at this
            exact absurd this (by simp)
/-- what each round of the program's first loop asks of a node -/
def PartOk (l : List GNode) (i : Nat) : Prop := ∃ h : i < l.length, OneP l[i] ∧ -1 ≤ l[i].parent ∧ l[i].parent < l.length ∧ ∀ j (_ : j < l[i].kids.length), KidOk l i l[i].kids[j]
theorem right_met {l : List GNode} {up : Nat → Bool} (ha : ∀ i, i < l.length → PartOk l i) (hu : UpInv l l.length 0 up) :
    nUp up l.length ≤ nPar l l.length ∧ (nPar l l.length = nUp up l.length ↔ ∀ i, i < l.length → NodeOk l i) := by
  have hrange : ∀ a, a < l.length → parOf l a < l.length := by
    intro a h
    obtain ⟨_, _, _, hp, _⟩ := ha a h
    rw [parOf_at h]; exact hp
  have hseen : ∀ a, a < l.length → 0 ≤ parOf l a → cnt (kidsOf l (parOf l a)) a = if up a then 1 else 0 := by
    intro a h hp
    have hr := hrange a h
    have := hu a h
    unfold seen at this
    rwa [if_neg (by omega), if_pos ⟨hp, hr⟩] at this
  have hsub : ∀ a, a < l.length → up a = true → decide (0 ≤ parOf l a) = true := by
    intro a h hup
    have hr := hrange a h
    have := hu a h
    rw [hup] at this
    unfold seen at this
    rw [if_neg (by omega)] at this
    split at this
    · rename_i hc; exact decide_eq_true hc.1
    · simp at this
  obtain ⟨c1, c2⟩ := count_eq (p := fun a : Nat => decide (0 ≤ parOf l a)) (q := up) l.length hsub
  refine ⟨c1, c2.trans ⟨fun hall i hi => ?_, fun hall a h hp => ?_⟩⟩
  · obtain ⟨h, h1, h2, h3, h4⟩ := ha i hi
    refine ⟨h, h1, h2, h3, fun hp => ?_, h4⟩
    have hp' : 0 ≤ parOf l i := by rw [parOf_at hi]; exact hp
    have := hall i hi (decide_eq_true hp')
    have hs := hseen i hi hp'
    rw [this, parOf_at hi] at hs
    exact hs
  · obtain ⟨_, _, _, _, h4, _⟩ := hall a h
    have hp' : 0 ≤ parOf l a := of_decide_eq_true hp
    have hc := h4 (by rw [← parOf_at h]; exact hp')
    have hs := hseen a h hp'
    rw [parOf_at h, hc] at hs
    cases hua : up a with
    | true => rfl
    | false => rw [hua] at hs; simp at hs
theorem PartOk.of {l : List GNode} {i : Nat} (h : NodeOk l i) : PartOk l i := by
  obtain ⟨h, h1, h2, h3, _, h4⟩ := h
  exact ⟨h, h1, h2, h3, h4⟩
end Go.Proofs.Ytpgcaehbbdnhiaa

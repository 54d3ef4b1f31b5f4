/- The order of a right document: a node, then what is within it, child by child. Plain: no program in sight. -/
import Derived.Test.YtpgcaehbbdnhiaaT7
namespace Go.Proofs.Ytpgcaehbbdnhiaa
open Go.RowKit
def ordF : Nat → List GNode → Int → List Int
  | 0, _, _ => []
  | d + 1, l, k => k :: (kidsOf l k).flatMap (ordF d l)
def ordL (l : List GNode) (k : Int) : List Int := ordF (l.length + 1) l k
/-- there is a node -/
def Is (l : List GNode) (k : Int) : Prop := 0 ≤ k ∧ k < l.length
/-- a node under these many others -/
def Under (l : List GNode) (j : Nat) (k : Int) : Prop := Is l k ∧ ¬ climb l j k < 0

theorem climb_neg {l : List GNode} {y : Int} (h : y < 0) : ∀ b, climb l b y = y
  | 0 => rfl
  | b + 1 => by
    have := climb_neg (l := l) h b
    show (if climb l b y < 0 then climb l b y else parOf l (climb l b y)) = y
    rw [this, if_pos h]
theorem climb_add {l : List GNode} (a : Nat) (x : Int) : ∀ b, climb l (a + b) x = climb l b (climb l a x)
  | 0 => rfl
  | b + 1 => by
    have ih := climb_add (l := l) a x b
    show (if climb l (a + b) x < 0 then climb l (a + b) x else parOf l (climb l (a + b) x)) = if climb l b (climb l a x) < 0 then climb l b (climb l a x) else parOf l (climb l b (climb l a x))
    rw [ih]
theorem climb_front {l : List GNode} {c : Int} (h : ¬ c < 0) (m : Nat) : climb l (m + 1) c = climb l m (parOf l c) := by
  rw [Nat.add_comm m 1, climb_add]
  congr 1
  exact climb_succ (m := 0) (k := c) h
theorem is_nat {l : List GNode} {k : Int} (h : Is l k) : ∃ q : Nat, k = q ∧ q < l.length := ⟨k.toNat, by have := h.1; omega, by have := h.1; have := h.2; omega⟩
theorem right_climb {l : List GNode} (hr : RightP l) {k : Int} (h : k < l.length) : climb l (l.length + 1) k < 0 := by
  by_cases hk : k < 0
  · rw [climb_neg hk]; exact hk
  · obtain ⟨q, rfl, hq⟩ := is_nat (l := l) (k := k) ⟨by omega, h⟩
    exact hr.2.2 q hq
theorem right_no_cycle {l : List GNode} (hr : RightP l) {k : Int} (h : Is l k) {d : Nat} (hd : 0 < d) : climb l d k ≠ k := by
  intro e
  have hm : ∀ t, climb l (t * d) k = k := by
    intro t
    induction t with
    | zero => rw [Nat.zero_mul]; rfl
    | succ t ih => rw [Nat.succ_mul, climb_add, ih, e]
  have h1 := right_climb hr h.2
  have h2 := climb_le h1 (m' := (l.length + 1) * d) (Nat.le_mul_of_pos_right _ hd)
  rw [hm] at h2
  have := h.1
  omega
theorem kid_is {l : List GNode} (hr : RightP l) {k c : Int} (h : Is l k) (hc : c ∈ kidsOf l k) : Is l c ∧ parOf l c = k := by
  obtain ⟨q, rfl, hq⟩ := is_nat h
  obtain ⟨_, _, _, _, _, hk⟩ := hr.2.1 q hq
  rw [kidsOf_at hq] at hc
  obtain ⟨j, hj, rfl⟩ := List.mem_iff_getElem.1 hc
  obtain ⟨a, b, c⟩ := hk j hj
  exact ⟨⟨a, b⟩, c⟩
theorem kid_once {l : List GNode} (hr : RightP l) {k c : Int} (h : Is l k) (hc : c ∈ kidsOf l k) : cnt (kidsOf l k) c = 1 := by
  obtain ⟨hi, hp⟩ := kid_is hr h hc
  obtain ⟨q, rfl, hq⟩ := is_nat hi
  obtain ⟨_, _, _, _, h1, _⟩ := hr.2.1 q hq
  rw [← parOf_at hq, hp] at h1
  exact h1 h.1
theorem par_is {l : List GNode} (hr : RightP l) {k : Int} (h : Is l k) (hp : 0 ≤ parOf l k) : Is l (parOf l k) ∧ k ∈ kidsOf l (parOf l k) := by
  obtain ⟨q, rfl, hq⟩ := is_nat h
  obtain ⟨_, _, _, h2, h1, _⟩ := hr.2.1 q hq
  rw [← parOf_at hq] at h1 h2
  refine ⟨⟨hp, h2⟩, ?_⟩
  have h3 := h1 hp
  unfold cnt at h3
  have h4 : 0 < ((kidsOf l (parOf l (q : Int))).filter (· == (q : Int))).length := by omega
  obtain ⟨x, hx⟩ := List.exists_mem_of_length_pos h4
  rw [List.mem_filter] at hx
  have := hx.2
  have e : x = (q : Int) := by simpa using this
  have h5 := hx.1
  rw [e] at h5
  exact h5
theorem par_ge {l : List GNode} (hr : RightP l) {k : Int} (h : Is l k) : -1 ≤ parOf l k := by
  obtain ⟨q, rfl, hq⟩ := is_nat h
  obtain ⟨_, _, h2, _⟩ := hr.2.1 q hq
  rw [parOf_at hq]; exact h2
theorem under_kid {l : List GNode} (hr : RightP l) {j : Nat} {k c : Int} (h : Under l j k) (hc : c ∈ kidsOf l k) : Under l (j + 1) c := by
  obtain ⟨hi, hp⟩ := kid_is hr h.1 hc
  refine ⟨hi, ?_⟩
  rw [climb_front (by have := hi.1; omega), hp]
  exact h.2
theorem under_le {l : List GNode} (hr : RightP l) {j : Nat} {k : Int} (h : Under l j k) : j ≤ l.length := by
  rcases Nat.lt_or_ge l.length j with hj | hj
  · exact absurd (climb_le (right_climb hr h.1.2) hj) h.2
  · exact hj
theorem under_zero {l : List GNode} {k : Int} (h : Is l k) : Under l 0 k := ⟨h, by have := h.1; show ¬ k < 0; omega⟩
theorem flatMap_congr' {α β : Type} {f g : α → List β} : ∀ {l : List α}, (∀ x ∈ l, f x = g x) → l.flatMap f = l.flatMap g
  | [], _ => rfl
  | x :: l, h => by
    rw [List.flatMap_cons, List.flatMap_cons, h x (List.mem_cons_self ..), flatMap_congr' (fun y hy => h y (List.mem_cons_of_mem _ hy))]
theorem ordF_next {l : List GNode} (hr : RightP l) : ∀ (f j : Nat) (k : Int), Under l j k → l.length + 1 ≤ f + j → ordF f l k = ordF (f + 1) l k
  | 0, j, k, h, hf => by have := under_le hr h; omega
  | f + 1, j, k, h, hf => by
    show k :: (kidsOf l k).flatMap (ordF f l) = k :: (kidsOf l k).flatMap (ordF (f + 1) l)
    rw [flatMap_congr' fun c hc => ordF_next hr f (j + 1) c (under_kid hr h hc) (by omega)]
theorem ordF_more {l : List GNode} (hr : RightP l) {f j : Nat} {k : Int} (h : Under l j k) (hf : l.length + 1 ≤ f + j) : ∀ d, ordF (f + d) l k = ordF f l k
  | 0 => rfl
  | d + 1 => by rw [← Nat.add_assoc, ← ordF_next hr (f + d) j k h (by omega)]; exact ordF_more hr h hf d
theorem ordF_L {l : List GNode} (hr : RightP l) {f j : Nat} {k : Int} (h : Under l j k) (hf : l.length + 1 ≤ f + j) : ordF f l k = ordL l k := by
  unfold ordL
  rcases Nat.le_total f (l.length + 1) with hle | hle
  · have := ordF_more hr h hf (l.length + 1 - f)
    rw [show f + (l.length + 1 - f) = l.length + 1 by omega] at this
    exact this.symm
  · have := ordF_more hr (under_zero h.1) (f := l.length + 1) (by omega) (f - (l.length + 1))
    rw [show l.length + 1 + (f - (l.length + 1)) = f by omega] at this
    exact this
theorem ordL_eq {l : List GNode} (hr : RightP l) {k : Int} (h : Is l k) : ordL l k = k :: (kidsOf l k).flatMap (ordL l) := by
  show k :: (kidsOf l k).flatMap (ordF l.length l) = _
  rw [flatMap_congr' fun c hc => ordF_L hr (under_kid hr (under_zero h) hc) (by omega)]
/-- what holds of every node if it holds of those within it -/
theorem ord_ind {l : List GNode} (hr : RightP l) {P : Int → Prop} (hP : ∀ k, Is l k → (∀ c ∈ kidsOf l k, P c) → P k) {k : Int} (h : Is l k) : P k := by
  have key : ∀ (f j : Nat) (k : Int), Under l j k → l.length + 1 ≤ f + j → P k := by
    intro f
    induction f with
    | zero => intro j k h hf; have := under_le hr h; omega
    | succ f ih => intro j k h hf; exact hP k h.1 fun c hc => ih (j + 1) c (under_kid hr h hc) (by omega)
  exact key (l.length + 1) 0 k (under_zero h) (by omega)
theorem ord_mem {l : List GNode} (hr : RightP l) {k : Int} (h : Is l k) : ∀ x ∈ ordL l k, Is l x ∧ ∃ m, climb l m x = k := by
  refine ord_ind (P := fun k => ∀ x ∈ ordL l k, Is l x ∧ ∃ m, climb l m x = k) hr (fun k hk ih x hx => ?_) h
  rw [ordL_eq hr hk, List.mem_cons, List.mem_flatMap] at hx
  rcases hx with rfl | ⟨c, hc, hx⟩
  · exact ⟨hk, 0, rfl⟩
  · obtain ⟨hi, m, hm⟩ := ih c hc x hx
    obtain ⟨hci, hp⟩ := kid_is hr hk hc
    refine ⟨hi, m + 1, ?_⟩
    rw [climb_succ (by rw [hm]; have := hci.1; omega), hm, hp]
theorem climb_same {l : List GNode} (hr : RightP l) {x k : Int} {m m' : Nat} (hk : Is l k) (h : climb l m x = k) (h' : climb l m' x = k) : m = m' := by
  have key : ∀ a b : Nat, a < b → climb l a x = k → climb l b x = k → False := by
    intro a b hab ha hb
    have e := climb_add (l := l) a x (b - a)
    rw [show a + (b - a) = b by omega, ha, hb] at e
    exact right_no_cycle hr hk (by omega : 0 < b - a) e.symm
  rcases Nat.lt_trichotomy m m' with hlt | e | hlt
  · exact (key _ _ hlt h h').elim
  · exact e
  · exact (key _ _ hlt h' h).elim
theorem nodup_of_cnt : ∀ {l : List Int}, (∀ c ∈ l, cnt l c = 1) → l.Pairwise (· ≠ ·)
  | [], _ => List.Pairwise.nil
  | a :: l, h => by
    have ha : ∀ b ∈ l, a ≠ b := by
      intro b hb e
      subst e
      have h1 := h a (List.mem_cons_self ..)
      unfold cnt at h1
      rw [List.filter_cons_of_pos (by simp), List.length_cons] at h1
      have : 0 < (l.filter (· == a)).length := List.length_pos_of_mem (List.mem_filter.2 ⟨hb, by simp⟩)
      omega
    refine List.Pairwise.cons ha (nodup_of_cnt fun c hc => ?_)
    have h1 := h c (List.mem_cons_of_mem _ hc)
    unfold cnt at h1 ⊢
    rw [List.filter_cons_of_neg (by have := ha c hc; simpa using this)] at h1
    exact h1
theorem ord_nodup {l : List GNode} (hr : RightP l) {k : Int} (h : Is l k) : (ordL l k).Pairwise (· ≠ ·) := by
  refine ord_ind (P := fun k => (ordL l k).Pairwise (· ≠ ·)) hr (fun k hk ih => ?_) h
  rw [ordL_eq hr hk, List.pairwise_cons]
  constructor
  · intro x hx e
    subst e
    rw [List.mem_flatMap] at hx
    obtain ⟨c, hc, hx⟩ := hx
    obtain ⟨hci, hp⟩ := kid_is hr hk hc
    obtain ⟨_, m, hm⟩ := ord_mem hr hci k hx
    refine right_no_cycle hr hk (d := m + 1) (by omega) ?_
    rw [climb_succ (by rw [hm]; have := hci.1; omega), hm, hp]
  · rw [List.pairwise_flatMap]
    refine ⟨ih, List.Pairwise.imp_of_mem ?_ (nodup_of_cnt fun c hc => kid_once hr hk hc)⟩
    intro a b ha hb hab x hx y hy e
    subst e
    obtain ⟨hai, hap⟩ := kid_is hr hk ha
    obtain ⟨hbi, hbp⟩ := kid_is hr hk hb
    obtain ⟨_, m, hm⟩ := ord_mem hr hai x hx
    obtain ⟨_, m', hm'⟩ := ord_mem hr hbi x hy
    have e1 : climb l (m + 1) x = k := by rw [climb_succ (by rw [hm]; have := hai.1; omega), hm, hap]
    have e2 : climb l (m' + 1) x = k := by rw [climb_succ (by rw [hm']; have := hbi.1; omega), hm', hbp]
    have := climb_same hr hk e1 e2
    obtain rfl : m = m' := by omega
    exact hab (hm.symm.trans hm')
/-- different numbers under n: no more than n -/
theorem pigeon : ∀ (n : Nat) (l : List Int), l.Pairwise (· ≠ ·) → (∀ x ∈ l, 0 ≤ x ∧ x < n) → l.length ≤ n
  | 0, l, _, h => by
    cases l with
    | nil => exact Nat.le_refl _
    | cons a l => have := h a (List.mem_cons_self ..); omega
  | n + 1, l, hp, h => by
    have h1 := pigeon n (l.filter (fun x => x != (n : Int))) (hp.filter _) (fun x hx => by
      rw [List.mem_filter] at hx
      have h2 := h x hx.1
      have h3 : x ≠ (n : Int) := by simpa using hx.2
      omega)
    have h2 : ∀ (l : List Int), l.Pairwise (· ≠ ·) → l.length ≤ (l.filter (fun x => x != (n : Int))).length + 1 := by
      intro l
      induction l with
      | nil => intro _; simp
      | cons a l ih =>
        intro hp
        rw [List.pairwise_cons] at hp
        by_cases e : a = (n : Int)
        · subst e
          rw [List.filter_cons_of_neg (by simp), List.filter_eq_self.2 fun x hx => by simpa using fun e => hp.1 x hx e.symm]
          simp
        · rw [List.filter_cons_of_pos (by simpa using e)]
          have := ih hp.2
          simp only [List.length_cons]
          omega
    have := h2 l hp
    omega
theorem ord_length {l : List GNode} (hr : RightP l) {k : Int} (h : Is l k) : (ordL l k).length ≤ l.length := pigeon _ _ (ord_nodup hr h) fun x hx => (ord_mem hr h x hx).1
/-- how many steps up there are -/
def dep (l : List GNode) : Nat → Int → Nat
  | 0, _ => 0
  | f + 1, x => if x < 0 then 0 else dep l f (parOf l x) + 1
theorem dep_next {l : List GNode} : ∀ (f : Nat) (y : Int), climb l f y < 0 → dep l (f + 1) y = dep l f y
  | 0, y, h => if_pos h
  | f + 1, y, h => by
    by_cases hy : y < 0
    · show (if y < 0 then 0 else dep l (f + 1) (parOf l y) + 1) = if y < 0 then 0 else dep l f (parOf l y) + 1
      rw [if_pos hy, if_pos hy]
    · show (if y < 0 then 0 else dep l (f + 1) (parOf l y) + 1) = if y < 0 then 0 else dep l f (parOf l y) + 1
      rw [if_neg hy, if_neg hy, dep_next f (parOf l y) (by rw [← climb_front hy]; exact h)]
theorem dep_par {l : List GNode} (hr : RightP l) {x : Int} (h : Is l x) : dep l (l.length + 1) (parOf l x) < dep l (l.length + 1) x := by
  have h1 : ¬ x < 0 := by have := h.1; omega
  have h2 := right_climb hr h.2
  rw [climb_front h1] at h2
  have h3 := dep_next _ _ h2
  have h4 : dep l (l.length + 1) x = dep l l.length (parOf l x) + 1 := if_neg h1
  omega
theorem climb_rg {l : List GNode} (hr : RightP l) {k : Int} (hk : k < l.length) (m : Nat) : climb l m k < l.length := by
  by_cases hk0 : k < 0
  · rw [climb_neg hk0]; exact hk
  · obtain ⟨q, rfl, hq⟩ := is_nat (l := l) (k := k) ⟨by omega, hk⟩
    exact in_range hq hr.2.1 m
end Go.Proofs.Ytpgcaehbbdnhiaa

/- The orders of all nodes without a parent: each node once, each parent ahead of its children. Plain: no program in sight. -/
import Derived.Test.YtpgcaehbbdnhiaaO1
namespace Go.Proofs.Ytpgcaehbbdnhiaa
open Go.RowKit
def Lroots (l : List GNode) (i : Nat) : List Int := (List.range i).flatMap fun j : Nat => if parOf l (j : Int) < 0 then ordL l (j : Int) else []
theorem lr_succ (l : List GNode) (i : Nat) : Lroots l (i + 1) = Lroots l i ++ (if parOf l (i : Int) < 0 then ordL l (i : Int) else []) := by
  unfold Lroots
  rw [List.range_succ, List.flatMap_append]
  simp
theorem lr_mem {l : List GNode} {i : Nat} {x : Int} : x ∈ Lroots l i ↔ ∃ j : Nat, j < i ∧ parOf l (j : Int) < 0 ∧ x ∈ ordL l (j : Int) := by
  unfold Lroots
  rw [List.mem_flatMap]
  constructor
  · rintro ⟨j, hj, hx⟩
    rw [List.mem_range] at hj
    split at hx
    · rename_i hp; exact ⟨j, hj, hp, hx⟩
    · simp at hx
  · rintro ⟨j, hj, hp, hx⟩
    exact ⟨j, List.mem_range.2 hj, by rw [if_pos hp]; exact hx⟩
theorem root_new {l : List GNode} (hr : RightP l) {i : Nat} (hi : i < l.length) (hp : parOf l (i : Int) < 0) {x : Int} (hx : x ∈ ordL l (i : Int)) : x ∉ Lroots l i := by
  intro h
  obtain ⟨j, hj, hpj, hxj⟩ := lr_mem.1 h
  have hii : Is l (i : Int) := ⟨by omega, by omega⟩
  have hij : Is l (j : Int) := ⟨by omega, by omega⟩
  obtain ⟨_, m, hm⟩ := ord_mem hr hii x hx
  obtain ⟨_, m', hm'⟩ := ord_mem hr hij x hxj
  have key : ∀ (a b : Nat) (r s : Nat), a < b → climb l a x = (r : Int) → climb l b x = (s : Int) → parOf l (r : Int) < 0 → False := by
    intro a b r s hab ha hb hpr
    have e := climb_add (l := l) a x (b - a)
    rw [show a + (b - a) = b by omega, ha, hb] at e
    have h1 : climb l 1 (r : Int) < 0 := by
      rw [show (1 : Nat) = 0 + 1 from rfl, climb_succ (m := 0) (by show ¬ (r : Int) < 0; omega)]
      exact hpr
    have h2 := climb_le h1 (m' := b - a) (by omega)
    omega
  rcases Nat.lt_trichotomy m m' with hlt | e | hlt
  · exact key _ _ i j hlt hm hm' hp
  · subst e; rw [hm] at hm'; omega
  · exact key _ _ j i hlt hm' hm hpj
/-- each parent is among those seen, or ahead -/
def ahead (l : List GNode) : List Int → List Int → Prop
  | _, [] => True
  | s, x :: t => (parOf l x < 0 ∨ parOf l x ∈ s) ∧ ahead l (x :: s) t
theorem ahead_append {l : List GNode} : ∀ (a b s : List Int), ahead l s a → ahead l (a.reverse ++ s) b → ahead l s (a ++ b)
  | [], b, s, _, h => h
  | x :: a, b, s, h1, h2 => ⟨h1.1, ahead_append a b (x :: s) h1.2 (by simpa using h2)⟩
theorem ord_ahead {l : List GNode} (hr : RightP l) {k : Int} (h : Is l k) : ∀ s, (parOf l k < 0 ∨ parOf l k ∈ s) → ahead l s (ordL l k) := by
  refine ord_ind (P := fun k => ∀ s, (parOf l k < 0 ∨ parOf l k ∈ s) → ahead l s (ordL l k)) hr (fun k hk ih s hs => ?_) h
  rw [ordL_eq hr hk]
  refine ⟨hs, ?_⟩
  have key : ∀ (kd : List Int) (s : List Int), (∀ c ∈ kd, c ∈ kidsOf l k) → k ∈ s → ahead l s (kd.flatMap (ordL l)) := by
    intro kd
    induction kd with
    | nil => intro s _ _; trivial
    | cons c kd ihk =>
      intro s hc hks
      rw [List.flatMap_cons]
      have hcm := hc c (List.mem_cons_self ..)
      have hcp := (kid_is hr hk hcm).2
      refine ahead_append _ _ _ (ih c hcm s (.inr (by rw [hcp]; exact hks))) (ihk _ (fun c' h' => hc c' (List.mem_cons_of_mem _ h')) (List.mem_append.2 (.inr hks)))
  exact key _ _ (fun _ h => h) (List.mem_cons_self ..)
theorem ahead_at {l : List GNode} : ∀ (L s : List Int), ahead l s L → ∀ j (h : j < L.length), parOf l L[j] < 0 ∨ parOf l L[j] ∈ s ∨ parOf l L[j] ∈ L.take j
  | x :: t, s, ha, 0, _ => by
    rcases ha.1 with h | h
    · exact .inl h
    · exact .inr (.inl h)
  | x :: t, s, ha, j + 1, h => by
    rcases ahead_at t (x :: s) ha.2 j (by simpa using h) with h1 | h1 | h1
    · exact .inl h1
    · rcases List.mem_cons.1 h1 with h2 | h2
      · exact .inr (.inr (by rw [List.take_succ_cons]; exact List.mem_cons.2 (.inl h2)))
      · exact .inr (.inl h2)
    · exact .inr (.inr (by rw [List.take_succ_cons]; exact List.mem_cons_of_mem _ h1))
theorem root_ahead {l : List GNode} (hr : RightP l) {i : Nat} (hi : i < l.length) (hp : parOf l (i : Int) < 0) {j : Nat} (hj : j < (ordL l (i : Int)).length) (h0 : 0 ≤ parOf l (ordL l (i : Int))[j]) : parOf l (ordL l (i : Int))[j] ∈ (ordL l (i : Int)).take j := by
  have := ahead_at _ _ (ord_ahead hr (k := (i : Int)) ⟨by omega, by omega⟩ [] (.inl hp)) j hj
  rcases this with h | h | h
  · omega
  · simp at h
  · exact h
theorem ord_closed {l : List GNode} (hr : RightP l) {r : Int} (h : Is l r) : ∀ p ∈ ordL l r, ∀ c ∈ kidsOf l p, c ∈ ordL l r := by
  refine ord_ind (P := fun r => ∀ p ∈ ordL l r, ∀ c ∈ kidsOf l p, c ∈ ordL l r) hr (fun k hk ih p hp c hc => ?_) h
  rw [ordL_eq hr hk] at hp ⊢
  rw [List.mem_cons, List.mem_flatMap] at hp
  refine List.mem_cons_of_mem _ (List.mem_flatMap.2 ?_)
  rcases hp with rfl | ⟨d, hd, hp⟩
  · exact ⟨c, hc, by rw [ordL_eq hr (kid_is hr hk hc).1]; exact List.mem_cons_self ..⟩
  · exact ⟨d, hd, ih d hd p hp c hc⟩
theorem has_root {l : List GNode} (hr : RightP l) : ∀ (d : Nat) (x : Int), Is l x → dep l (l.length + 1) x ≤ d → ∃ r : Nat, r < l.length ∧ parOf l (r : Int) < 0 ∧ x ∈ ordL l (r : Int)
  | d, x, hx, hd => by
    by_cases hp : parOf l x < 0
    · obtain ⟨q, rfl, hq⟩ := is_nat hx
      exact ⟨q, hq, hp, by rw [ordL_eq hr hx]; exact List.mem_cons_self ..⟩
    · obtain ⟨hpi, hk⟩ := par_is hr hx (by omega)
      have := dep_par hr hx
      match d with
      | 0 => omega
      | d + 1 =>
        obtain ⟨r, h1, h2, h3⟩ := has_root hr d (parOf l x) hpi (by omega)
        exact ⟨r, h1, h2, ord_closed hr ⟨by omega, by omega⟩ _ h3 _ hk⟩
theorem lr_nodup {l : List GNode} (hr : RightP l) : ∀ i, i ≤ l.length → (Lroots l i).Pairwise (· ≠ ·)
  | 0, _ => List.Pairwise.nil
  | i + 1, h => by
    rw [lr_succ, List.pairwise_append]
    refine ⟨lr_nodup hr i (by omega), ?_, fun x hx y hy e => ?_⟩
    · split
      · exact ord_nodup hr ⟨by omega, by omega⟩
      · exact List.Pairwise.nil
    · split at hy
      · rename_i hp
        subst e
        exact root_new hr (by omega) hp hy hx
      · simp at hy
theorem subset_len : ∀ (a b : List Int), a.Pairwise (· ≠ ·) → (∀ x ∈ a, x ∈ b) → a.length ≤ b.length
  | [], _, _, _ => Nat.zero_le _
  | x :: a, b, hp, h => by
    rw [List.pairwise_cons] at hp
    have h1 := subset_len a (b.filter (fun y => y != x)) hp.2 fun y hy => List.mem_filter.2 ⟨h y (List.mem_cons_of_mem _ hy), by have := hp.1 y hy; simpa using fun e => this e.symm⟩
    have h2 : ∀ (b : List Int), x ∈ b → (b.filter (fun y => y != x)).length < b.length := by
      intro b
      induction b with
      | nil => intro h; simp at h
      | cons y b ih =>
        intro h
        by_cases e : y = x
        · subst e
          rw [List.filter_cons_of_neg (by simp), List.length_cons]
          have := List.length_filter_le (fun z => z != y) b
          omega
        · rw [List.filter_cons_of_pos (by simpa using e), List.length_cons, List.length_cons]
          have := ih (by rcases List.mem_cons.1 h with h | h; exact absurd h.symm e; exact h)
          omega
    have := h2 b (h x (List.mem_cons_self ..))
    rw [List.length_cons]
    omega
theorem lr_is {l : List GNode} (hr : RightP l) {i : Nat} (hi : i ≤ l.length) {x : Int} (hx : x ∈ Lroots l i) : Is l x := by
  obtain ⟨j, hj, _, h⟩ := lr_mem.1 hx
  exact (ord_mem hr (k := (j : Int)) ⟨by omega, by omega⟩ x h).1
theorem lr_length {l : List GNode} (hr : RightP l) : (Lroots l l.length).length = l.length := by
  have h1 := pigeon l.length _ (lr_nodup hr l.length (Nat.le_refl _)) fun x hx => lr_is hr (Nat.le_refl _) hx
  have h2 := subset_len ((List.range l.length).map fun j : Nat => (j : Int)) (Lroots l l.length) (by
    rw [List.pairwise_map]
    exact List.Pairwise.imp (fun h e => h (by omega)) (List.nodup_range (n := l.length))) fun x hx => by
      obtain ⟨j, hj, rfl⟩ := List.mem_map.1 hx
      rw [List.mem_range] at hj
      obtain ⟨r, a, b, c⟩ := has_root hr _ (j : Int) ⟨by omega, by omega⟩ (Nat.le_refl _)
      exact lr_mem.2 ⟨r, a, b, c⟩
  simp at h2
  omega
theorem lr_le {l : List GNode} (hr : RightP l) {i : Nat} (hi : i ≤ l.length) : (Lroots l i).length ≤ l.length := pigeon l.length _ (lr_nodup hr i hi) fun _ hx => lr_is hr hi hx
end Go.Proofs.Ytpgcaehbbdnhiaa

/- What the calls of an event are: plain. -/
import Derived.Test.YtpgcaehbbdnhiaaE6
namespace Go.Proofs.Ytpgcaehbbdnhiaa
open Go.RowKit
theorem path_at {l : List GNode} {t : Int} {L : List Int} (h : PathP l t L) : ∀ i, i < L.length → L.getD i 0 = climb l (L.length - 1 - i) t ∧ 0 ≤ climb l (L.length - 1 - i) t := by
  obtain ⟨j, rfl, _, hn⟩ := h
  intro i hi
  have hi' : i < j := by simpa using hi
  have hl : (((List.range j).map fun m => climb l m t).reverse).length = j := by simp
  rw [hl]
  refine ⟨?_, hn _ (by omega)⟩
  rw [List.getD, List.getElem?_reverse (by simpa using hi)]
  simp [show j - 1 - i < j by omega]
theorem path_nodup {l : List GNode} (hr : RightP l) {t : Int} (ht : Is l t) {L : List Int} (h : PathP l t L) {i j : Nat} (hi : i < L.length) (hj : j < L.length) (he : L.getD i 0 = L.getD j 0) : i = j := by
  obtain ⟨ei, ni⟩ := path_at h i hi
  obtain ⟨ej, _⟩ := path_at h j hj
  have hx : Is l (climb l (L.length - 1 - i) t) := ⟨ni, climb_rg hr ht.2 _⟩
  have := climb_same hr hx (m := L.length - 1 - j) (m' := L.length - 1 - i) (by rw [← ej, ← he, ei]) rfl
  omega
theorem hits_mem {all : List Lis} {kind : ByteArray} {v : Vis} {c : GCall} : ∀ {k : Nat}, c ∈ hits all kind v k → ∃ i : Nat, i < k ∧ ∃ h : i < all.length, c = ((i : Int), v.1, v.2.1) ∧ fitB kind v all[i] = true
  | 0, h => by simp [hits] at h
  | k + 1, h => by
    rcases Nat.lt_or_ge k all.length with hk | hk
    · cases hf : fitB kind v all[k] with
      | true =>
        rw [hits_yes hk hf, List.mem_append, List.mem_singleton] at h
        rcases h with h | rfl
        · obtain ⟨i, hi, r⟩ := hits_mem h
          exact ⟨i, by omega, r⟩
        · exact ⟨k, by omega, hk, rfl, hf⟩
      | false =>
        rw [hits_no hk hf] at h
        obtain ⟨i, hi, r⟩ := hits_mem h
        exact ⟨i, by omega, r⟩
    · rw [hits, List.getElem?_eq_none hk, List.append_nil] at h
      obtain ⟨i, hi, r⟩ := hits_mem h
      exact ⟨i, by omega, r⟩
theorem hits_pair (all : List Lis) (kind : ByteArray) (v : Vis) : ∀ k : Nat, (hits all kind v k).Pairwise (fun c c' => c.2.2 ≤ c'.2.2 ∧ c.1 ≠ c'.1)
  | 0 => List.Pairwise.nil
  | k + 1 => by
    have ih := hits_pair all kind v k
    rcases Nat.lt_or_ge k all.length with hk | hk
    · cases hf : fitB kind v all[k] with
      | true =>
        rw [hits_yes hk hf, List.pairwise_append]
        refine ⟨ih, List.pairwise_singleton _ _, fun c hc c' hc' => ?_⟩
        obtain ⟨i, hi, _, rfl, _⟩ := hits_mem hc
        rw [List.mem_singleton] at hc'
        subst hc'
        exact ⟨Int.le_refl _, by show (i : Int) ≠ k; omega⟩
      | false => rw [hits_no hk hf]; exact ih
    · rw [hits, List.getElem?_eq_none hk, List.append_nil]; exact ih
theorem visL_mem {L : List Int} {m : Nat} (hm : L.length = m + 1) {bub : Bool} {v : Vis} (h : v ∈ visL L bub) :
    (∃ i, i < m ∧ v = (L.getD i 0, 1, true)) ∨ v = (L.getD m 0, 2, true) ∨ v = (L.getD m 0, 2, false) ∨ (bub = true ∧ ∃ j, j < m ∧ v = (L.getD j 0, 3, false)) := by
  unfold visL at h
  rw [hm] at h
  simp only [Nat.add_sub_cancel, List.mem_append, List.mem_map, List.mem_range, List.mem_cons, List.not_mem_nil, or_false] at h
  rcases h with ⟨i, hi, rfl⟩ | (rfl | rfl) | h
  · exact .inl ⟨i, hi, rfl⟩
  · exact .inr (.inl rfl)
  · exact .inr (.inr (.inl rfl))
  · cases bub with
    | false => simp at h
    | true =>
      rw [if_pos rfl, List.mem_map] at h
      obtain ⟨i, hi, rfl⟩ := h
      rw [List.mem_range] at hi
      exact .inr (.inr (.inr ⟨rfl, m - 1 - i, by omega, rfl⟩))
theorem visL_pair {L : List Int} {m : Nat} (hm : L.length = m + 1) (hnd : ∀ i j, i < m + 1 → j < m + 1 → L.getD i 0 = L.getD j 0 → i = j) (bub : Bool) :
    (visL L bub).Pairwise (fun v v' => v.2.1 ≤ v'.2.1 ∧ ¬ (v.1 = v'.1 ∧ v.2.2 = v'.2.2)) := by
  unfold visL
  rw [hm, Nat.add_sub_cancel]
  have h3 : ∀ v, v ∈ (if bub then ((List.range m).map fun (i : Nat) => ((L.getD (m - 1 - i) 0, 3, false) : Vis)) else []) → ∃ j, j < m ∧ v = (L.getD j 0, 3, false) := by
    intro v hv
    cases bub with
    | false => simp at hv
    | true =>
      rw [if_pos rfl, List.mem_map] at hv
      obtain ⟨i, hi, rfl⟩ := hv
      rw [List.mem_range] at hi
      exact ⟨m - 1 - i, by omega, rfl⟩
  rw [List.pairwise_append, List.pairwise_append]
  refine ⟨?_, ⟨?_, ?_, ?_⟩, ?_⟩
  · rw [List.pairwise_map]
    refine List.Pairwise.imp_of_mem (R := fun a b : Nat => a < b) ?_ List.pairwise_lt_range
    intro a b ha hb hab
    rw [List.mem_range] at ha hb
    exact ⟨Int.le_refl _, fun e => by have := hnd a b (by omega) (by omega) e.1; omega⟩
  · refine List.pairwise_pair.2 ⟨Int.le_refl _, fun e => ?_⟩
    have := e.2
    simp at this
  · cases bub with
    | false => exact List.Pairwise.nil
    | true =>
      rw [if_pos rfl, List.pairwise_map]
      refine List.Pairwise.imp_of_mem (R := fun a b : Nat => a < b) ?_ List.pairwise_lt_range
      intro a b ha hb hab
      rw [List.mem_range] at ha hb
      exact ⟨Int.le_refl _, fun e => by have := hnd (m - 1 - a) (m - 1 - b) (by omega) (by omega) e.1; omega⟩
  · intro v hv v' hv'
    obtain ⟨j, hj, rfl⟩ := h3 v' hv'
    simp only [List.mem_cons, List.not_mem_nil, or_false] at hv
    rcases hv with rfl | rfl
    · exact ⟨by show (2 : Int) ≤ 3; omega, fun e => by have := e.2; simp at this⟩
    · exact ⟨by show (2 : Int) ≤ 3; omega, fun e => by have := hnd m j (by omega) (by omega) e.1; omega⟩
  · intro v hv v' hv'
    rw [List.mem_map] at hv
    obtain ⟨i, hi, rfl⟩ := hv
    rw [List.mem_range] at hi
    rw [List.mem_append] at hv'
    rcases hv' with hv' | hv'
    · simp only [List.mem_cons, List.not_mem_nil, or_false] at hv'
      rcases hv' with rfl | rfl
      · exact ⟨by show (1 : Int) ≤ 2; omega, fun e => by have := hnd i m (by omega) (by omega) e.1; omega⟩
      · exact ⟨by show (1 : Int) ≤ 2; omega, fun e => by have := e.2; simp at this⟩
    · obtain ⟨j, hj, rfl⟩ := h3 v' hv'
      exact ⟨by show (1 : Int) ≤ 3; omega, fun e => by have := e.2; simp at this⟩
/-- a call that is as the law asks -/
def CallOk (all : List Lis) (kind : ByteArray) (bub : Bool) (t : Int) (c : GCall) : Prop :=
  ∃ i : Nat, ∃ h : i < all.length, c.1 = i ∧ all[i].node = c.2.1 ∧ all[i].type.toList = kind.toList ∧ 1 ≤ c.2.2 ∧ c.2.2 ≤ 3 ∧ ((c.2.2 == 2) = (c.2.1 == t)) ∧ (c.2.2 = 3 → bub = true)
theorem calls_ok {l : List GNode} (hr : RightP l) {t : Int} (ht : Is l t) {L : List Int} (hp : PathP l t L) (all : List Lis) (kind : ByteArray) (bub : Bool) :
    (∀ c ∈ callsL all kind (visL L bub), CallOk all kind bub t c) ∧ (callsL all kind (visL L bub)).Pairwise (fun c c' => c.2.2 ≤ c'.2.2 ∧ c.1 ≠ c'.1) := by
  obtain ⟨m, hm, hlast⟩ := path_last ht hp
  have hnd : ∀ i j, i < m + 1 → j < m + 1 → L.getD i 0 = L.getD j 0 → i = j := fun i j hi hj e => path_nodup hr ht hp (by omega) (by omega) e
  have hne : ∀ i, i < m → (L.getD i 0 == t) = false := fun i hi => by
    rw [beq_eq_false_iff_ne]
    intro e
    have := hnd i m (by omega) (by omega) (by rw [e, hlast])
    omega
  have ht2 : (L.getD m 0 == t) = true := by rw [hlast]; simp
  constructor
  · intro c hc
    obtain ⟨v, hv, hc⟩ := List.mem_flatMap.1 hc
    obtain ⟨i, _, hi, rfl, hf⟩ := hits_mem hc
    unfold fitB at hf
    rw [Bool.and_eq_true, Bool.and_eq_true] at hf
    obtain ⟨f1, f2, -⟩ := hf
    have f1' : all[i].node = v.1 := by simpa using f1
    have f2' : all[i].type.toList = kind.toList := by simpa using f2
    refine ⟨i, hi, rfl, f1', f2', ?_⟩
    rcases visL_mem hm hv with ⟨j, hj, rfl⟩ | rfl | rfl | ⟨hb, j, hj, rfl⟩
    · exact ⟨by show (1 : Int) ≤ 1; omega, by show (1 : Int) ≤ 3; omega, by show ((1 : Int) == 2) = (L.getD j 0 == t); rw [hne j hj]; rfl, fun e => absurd e (by show ¬ (1 : Int) = 3; omega)⟩
    · exact ⟨by show (1 : Int) ≤ 2; omega, by show (2 : Int) ≤ 3; omega, by show ((2 : Int) == 2) = (L.getD m 0 == t); rw [ht2]; rfl, fun e => absurd e (by show ¬ (2 : Int) = 3; omega)⟩
    · exact ⟨by show (1 : Int) ≤ 2; omega, by show (2 : Int) ≤ 3; omega, by show ((2 : Int) == 2) = (L.getD m 0 == t); rw [ht2]; rfl, fun e => absurd e (by show ¬ (2 : Int) = 3; omega)⟩
    · exact ⟨by show (1 : Int) ≤ 3; omega, by show (3 : Int) ≤ 3; omega, by show ((3 : Int) == 2) = (L.getD j 0 == t); rw [hne j hj]; rfl, fun _ => hb⟩
  · unfold callsL
    rw [List.pairwise_flatMap]
    refine ⟨fun v _ => hits_pair all kind v _, ?_⟩
    refine List.Pairwise.imp ?_ (visL_pair hm hnd bub)
    intro v v' hvv c hc c' hc'
    obtain ⟨i, _, hi, rfl, hf⟩ := hits_mem hc
    obtain ⟨i', _, hi', rfl, hf'⟩ := hits_mem hc'
    refine ⟨hvv.1, fun e => hvv.2 ?_⟩
    have hii : i = i' := by have : (i : Int) = i' := e; omega
    subst hii
    unfold fitB at hf hf'
    rw [Bool.and_eq_true, Bool.and_eq_true] at hf hf'
    have a1 : all[i].node = v.1 := by simpa using hf.1
    have a2 : all[i].node = v'.1 := by simpa using hf'.1
    have b1 : all[i].cap = v.2.2 := by simpa using hf.2.2
    have b2 : all[i].cap = v'.2.2 := by simpa using hf'.2.2
    exact ⟨a1.symm.trans a2, b1.symm.trans b2⟩
/-- listeners that fit no visit change nothing -/
theorem hits_more {all ex : List Lis} {kind : ByteArray} {v : Vis} (h : ∀ x ∈ ex, fitB kind v x = false) : ∀ k, hits (all ++ ex) kind v (all.length + k) = hits all kind v all.length
  | 0 => by
    have key : ∀ j, j ≤ all.length → hits (all ++ ex) kind v j = hits all kind v j := by
      intro j
      induction j with
      | zero => intro _; rfl
      | succ j ih =>
        intro hj
        rw [hits, hits, ih (by omega), List.getElem?_append_left (by omega)]
    exact key _ (Nat.le_refl _)
  | k + 1 => by
    have ih := hits_more (all := all) h k
    show hits (all ++ ex) kind v (all.length + k + 1) = _
    rw [hits, ih]
    rcases Nat.lt_or_ge (all.length + k) (all ++ ex).length with hk | hk
    · rw [List.getElem?_eq_getElem hk]
      have hx : (all ++ ex)[all.length + k] ∈ ex := by
        rw [List.getElem_append_right (by omega)]
        exact List.getElem_mem _
      have hf := h _ hx
      simp only [hf, Bool.false_eq_true, if_false, List.append_nil]
    · rw [List.getElem?_eq_none hk, List.append_nil]
theorem calls_more {all ex : List Lis} {kind : ByteArray} {vs : List Vis} (h : ∀ v ∈ vs, ∀ x ∈ ex, fitB kind v x = false) : callsL (all ++ ex) kind vs = callsL all kind vs := by
  unfold callsL
  induction vs with
  | nil => rfl
  | cons v vs ih =>
    rw [List.flatMap_cons, List.flatMap_cons, ih fun v' hv' => h v' (List.mem_cons_of_mem _ hv'), List.length_append, hits_more (h v (List.mem_cons_self ..))]
theorem visL_node {L : List Int} {m : Nat} (hm : L.length = m + 1) {bub : Bool} {v : Vis} (h : v ∈ visL L bub) : v.1 ∈ L := by
  have key : ∀ i, i < m + 1 → L.getD i 0 ∈ L := fun i hi => by
    rw [List.getD, List.getElem?_eq_getElem (by omega)]
    exact List.getElem_mem _
  rcases visL_mem hm h with ⟨i, hi, rfl⟩ | rfl | rfl | ⟨_, j, hj, rfl⟩
  · exact key i (by omega)
  · exact key m (by omega)
  · exact key m (by omega)
  · exact key j (by omega)
end Go.Proofs.Ytpgcaehbbdnhiaa

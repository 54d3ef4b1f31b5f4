/- A node taken from its parent: the document stays right; put back, it is as it was. Plain. -/
import Derived.Test.YtpgcaehbbdnhiaaB10
namespace Go.Proofs.Ytpgcaehbbdnhiaa
open Go.RowKit
theorem putKids_get {l : List GNode} {q : Nat} {ks : List Int} {i : Nat} (h : i < l.length) : (putKids l q ks)[i]'(by rw [putKids_len]; exact h) = if i = q then ⟨l[i].name, l[i].text, l[i].attrs, l[i].parent, ks⟩ else l[i] := by
  by_cases hq : q < l.length
  · simp only [putKids_at hq]
    by_cases e : i = q
    · subst e; rw [List.getElem_set_self, if_pos rfl]
    · rw [List.getElem_set_ne (fun e' => e e'.symm), if_neg e]
  · have : putKids l q ks = l := by unfold putKids; rw [List.getElem?_eq_none (by omega)]
    simp only [this]
    rw [if_neg (by omega)]
theorem putParent_get {l : List GNode} {q : Nat} {p : Int} {i : Nat} (h : i < l.length) : (putParent l q p)[i]'(by rw [putParent_len]; exact h) = if i = q then ⟨l[i].name, l[i].text, l[i].attrs, p, l[i].kids⟩ else l[i] := by
  by_cases hq : q < l.length
  · simp only [putParent_at hq]
    by_cases e : i = q
    · subst e; rw [List.getElem_set_self, if_pos rfl]
    · rw [List.getElem_set_ne (fun e' => e e'.symm), if_neg e]
  · have : putParent l q p = l := by unfold putParent; rw [List.getElem?_eq_none (by omega)]
    simp only [this]
    rw [if_neg (by omega)]
theorem set2_get {l : List GNode} {a b : Nat} {ks : List Int} {p : Int} {i : Nat} (h : i < l.length) :
    (putParent (putKids l a ks) b p)[i]'(by rw [putParent_len, putKids_len]; exact h) = ⟨l[i].name, l[i].text, l[i].attrs, if i = b then p else l[i].parent, if i = a then ks else l[i].kids⟩ := by
  rw [putParent_get (by rw [putKids_len]; exact h), putKids_get h]
  by_cases h1 : i = b
  · by_cases h2 : i = a
    · simp only [if_pos h1, if_pos h2]
    · simp only [if_pos h1, if_neg h2]
  · by_cases h2 : i = a
    · simp only [if_neg h1, if_pos h2]
    · simp only [if_neg h1, if_neg h2]
/-- what the law's last part has -/
structure Cut (l : List GNode) (q pn i : Nat) : Prop where
  right : RightP l
  hq : q < l.length
  hp : pn < l.length
  par : parOf l (q : Int) = (pn : Int)
  hi : i < (kidsOf l (pn : Int)).length
  at_ : (kidsOf l (pn : Int))[i] = (q : Int)
  once : ∀ j (h : j < (kidsOf l (pn : Int)).length), j ≠ i → (kidsOf l (pn : Int))[j] ≠ (q : Int)
theorem cut_of {l : List GNode} (hr : RightP l) {q : Nat} (hq : q < l.length) (h0 : 0 ≤ parOf l (q : Int)) : ∃ pn i, Cut l q pn i := by
  obtain ⟨hpi, hmem⟩ := par_is hr (k := (q : Int)) ⟨by omega, by omega⟩ h0
  obtain ⟨pn, hpe, hpn⟩ := is_nat hpi
  rw [hpe] at hmem
  obtain ⟨i, hi, hie⟩ := List.mem_iff_getElem.1 hmem
  have hnd : (kidsOf l (pn : Int)).Pairwise (· ≠ ·) := by
    exact nodup_of_cnt (l := kidsOf l (pn : Int)) fun c hc => kid_once hr (k := (pn : Int)) ⟨by omega, by omega⟩ hc
  rw [List.pairwise_iff_getElem] at hnd
  refine ⟨pn, i, hr, hq, hpn, hpe, hi, hie, fun j hj hji e => ?_⟩
  rcases Nat.lt_or_ge j i with h1 | h1
  · exact hnd j i hj hi h1 (e.trans hie.symm)
  · exact hnd i j hi hj (by omega) (hie.trans e.symm)
variable {l : List GNode} {q pn i : Nat}
theorem Cut.ne (c : Cut l q pn i) : pn ≠ q := by
  intro e
  subst e
  have h1 := c.par
  refine right_no_cycle c.right (k := (pn : Int)) ⟨by have := c.hp; omega, by have := c.hp; omega⟩ (d := 1) (by omega) ?_
  rw [show (1 : Nat) = 0 + 1 from rfl, climb_succ (m := 0) (by show ¬ (pn : Int) < 0; omega)]
  show parOf l (pn : Int) = _
  exact h1
theorem Cut.fil (c : Cut l q pn i) : filI (kidsOf l (pn : Int)) (q : Int) = (kidsOf l (pn : Int)).take i ++ (kidsOf l (pn : Int)).drop (i + 1) := by
  have e : (kidsOf l (pn : Int)) = (kidsOf l (pn : Int)).take i ++ (kidsOf l (pn : Int))[i]'c.hi :: (kidsOf l (pn : Int)).drop (i + 1) := by rw [← List.drop_eq_getElem_cons c.hi, List.take_append_drop]
  unfold filI
  conv => lhs; rw [e]
  rw [List.filter_append, List.filter_cons_of_neg (by rw [c.at_]; simp), List.filter_eq_self.2, List.filter_eq_self.2]
  · intro a ha
    obtain ⟨j, hj, rfl⟩ := List.mem_iff_getElem.1 ha
    rw [List.getElem_drop]
    rw [List.length_drop] at hj
    simpa using c.once (i + 1 + j) (by omega) (by omega)
  · intro a ha
    obtain ⟨j, hj, rfl⟩ := List.mem_take_iff_getElem.1 ha
    simpa using c.once j (by omega) (by omega)
theorem Cut.rem (c : Cut l q pn i) : remL l (q : Int) = putParent (putKids l pn (filI (kidsOf l (pn : Int)) (q : Int))) q (-1) := by
  unfold remL
  rw [c.par, Int.toNat_natCast, Int.toNat_natCast]
theorem Cut.len (c : Cut l q pn i) : (remL l (q : Int)).length = l.length := by rw [c.rem, putParent_len, putKids_len]
theorem Cut.get (c : Cut l q pn i) {j : Nat} (h : j < l.length) : (remL l (q : Int))[j]'(by rw [c.len]; exact h) = ⟨l[j].name, l[j].text, l[j].attrs, if j = q then -1 else l[j].parent, if j = pn then filI (kidsOf l (pn : Int)) (q : Int) else l[j].kids⟩ := by
  simp only [c.rem]
  exact set2_get h
theorem Cut.parOf_ (c : Cut l q pn i) (k : Int) : parOf (remL l (q : Int)) k = if k.toNat = q then -1 else parOf l k := by
  unfold parOf
  rcases Nat.lt_or_ge k.toNat l.length with h | h
  · rw [List.getElem?_eq_getElem (by rw [c.len]; exact h), List.getElem?_eq_getElem h, c.get h]
  · rw [List.getElem?_eq_none (by rw [c.len]; exact h), List.getElem?_eq_none h, if_neg (by have := c.hq; omega)]
theorem Cut.kidsOf_ (c : Cut l q pn i) (k : Int) : kidsOf (remL l (q : Int)) k = if k.toNat = pn then filI (kidsOf l (pn : Int)) (q : Int) else kidsOf l k := by
  show (match (remL l (q : Int))[k.toNat]? with | some n => n.kids | none => []) = if k.toNat = pn then filI (kidsOf l (pn : Int)) (q : Int) else (match l[k.toNat]? with | some n => n.kids | none => [])
  rcases Nat.lt_or_ge k.toNat l.length with h | h
  · rw [List.getElem?_eq_getElem (by rw [c.len]; exact h), List.getElem?_eq_getElem h, c.get h]
  · rw [List.getElem?_eq_none (by rw [c.len]; exact h), List.getElem?_eq_none h, if_neg (by have := c.hp; omega)]
theorem Cut.name (c : Cut l q pn i) : (l[pn]'c.hp).name.toList.isEmpty = false := by
  obtain ⟨_, h1, _⟩ := c.right.2.1 pn c.hp
  unfold OneP at h1
  cases e : (l[pn]'c.hp).name.toList.isEmpty with
  | false => rfl
  | true => rw [if_pos e] at h1; have := c.hi; rw [kidsOf_at c.hp] at this; omega
theorem Cut.nzero (c : Cut l q pn i) : q ≠ 0 := by
  intro e
  subst e
  obtain ⟨⟨_, _, _, h⟩, _⟩ := c.right
  have h1 := c.par
  have h2 := parOf_at c.hq
  omega
theorem Cut.above (c : Cut l q pn i) (m : Nat) : climb l m (pn : Int) ≠ (q : Int) := by
  intro e
  have h1 : climb l (m + 1) (q : Int) = (q : Int) := by
    rw [climb_front (by omega), c.par, e]
  exact right_no_cycle c.right (k := (q : Int)) ⟨by omega, by have := c.hq; omega⟩ (by omega : 0 < m + 1) h1
theorem Cut.climb_ (c : Cut l q pn i) (x : Int) (m : Nat) : climb (remL l (q : Int)) m x < 0 ∨ climb (remL l (q : Int)) m x = climb l m x := by
  induction m with
  | zero => exact .inr rfl
  | succ m ih =>
    by_cases h : climb (remL l (q : Int)) m x < 0
    · exact .inl (climb_le h (Nat.le_succ m))
    · have e : climb (remL l (q : Int)) m x = climb l m x := by rcases ih with h1 | h1; exact absurd h1 h; exact h1
      rw [climb_succ h, c.parOf_, e]
      by_cases h2 : (climb l m x).toNat = q
      · rw [if_pos h2]; exact .inl (by omega)
      · rw [if_neg h2, climb_succ (by rw [← e]; exact h)]; exact .inr rfl
theorem Cut.inside (c : Cut l q pn i) : ¬ InsideP (remL l (q : Int)) (pn : Int) (q : Int) := by
  rintro ⟨m, h1, h2⟩
  rcases c.climb_ (pn : Int) m with h | h
  · omega
  · exact c.above m (h.symm.trans h1)
theorem Cut.right_ (c : Cut l q pn i) : RightP (remL l (q : Int)) := by
  obtain ⟨⟨hpos, h400, h0, hp0⟩, hall, hcl⟩ := id c.right
  have hlen := c.len
  have hne := c.ne
  refine ⟨⟨by omega, by omega, by rw [c.get hpos]; exact h0, ?_⟩, fun j hj => ?_, fun j hj => ?_⟩
  · rw [c.get hpos]
    show (if 0 = q then (-1 : Int) else l[0].parent) = -1
    split
    · rfl
    · exact hp0
  · have hjl : j < l.length := by omega
    obtain ⟨_, a1, a2, a3, a4, a5⟩ := hall j hjl
    refine ⟨hj, ?_⟩
    rw [c.get hjl]
    refine ⟨?_, ?_, ?_, ?_, ?_⟩
    · unfold OneP at a1 ⊢
      by_cases e : l[j].name.toList.isEmpty = true
      · show if l[j].name.toList.isEmpty = true then _ else _
        rw [if_pos e] at a1 ⊢
        refine ⟨a1.1, ?_, a1.2.2⟩
        show (if j = pn then filI (kidsOf l (pn : Int)) (q : Int) else l[j].kids).length = 0
        by_cases ej : j = pn
        · subst ej; rw [c.name] at e; exact absurd e (by simp)
        · rw [if_neg ej]; exact a1.2.1
      · show if l[j].name.toList.isEmpty = true then _ else _
        rw [if_neg e] at a1 ⊢
        exact a1
    · show -1 ≤ if j = q then (-1 : Int) else l[j].parent
      split
      · omega
      · exact a2
    · show (if j = q then (-1 : Int) else l[j].parent) < _
      split
      · omega
      · omega
    · show 0 ≤ (if j = q then (-1 : Int) else l[j].parent) → cnt (kidsOf (remL l (q : Int)) (if j = q then (-1 : Int) else l[j].parent)) (j : Int) = 1
      by_cases e : j = q
      · rw [if_pos e]; intro h; omega
      · rw [if_neg e]
        intro h
        have h4 := a4 h
        rw [c.kidsOf_]
        by_cases e2 : l[j].parent.toNat = pn
        · rw [if_pos e2]
          have e3 : l[j].parent = (pn : Int) := by omega
          rw [e3] at h4
          unfold cnt filI at *
          rw [List.filter_filter]
          rw [← h4]
          congr 2
          refine List.filter_congr fun x _ => ?_
          by_cases ex : x = (j : Int)
          · subst ex; simp; omega
          · simp [ex]
        · rw [if_neg e2]; exact h4
    · show ∀ j_1 (h : j_1 < (if j = pn then filI (kidsOf l (pn : Int)) (q : Int) else l[j].kids).length), KidOk (remL l (q : Int)) j ((if j = pn then filI (kidsOf l (pn : Int)) (q : Int) else l[j].kids)[j_1])
      intro r hr
      have hmem := List.getElem_mem hr
      generalize (if j = pn then filI (kidsOf l (pn : Int)) (q : Int) else l[j].kids)[r] = x at hmem
      have hx : x ∈ l[j].kids ∧ x ≠ (q : Int) := by
        by_cases e : j = pn
        · subst e
          rw [if_pos rfl] at hmem
          unfold filI at hmem
          rw [List.mem_filter] at hmem
          exact ⟨by rw [← kidsOf_at hjl]; exact hmem.1, by simpa using hmem.2⟩
        · rw [if_neg e] at hmem
          refine ⟨hmem, fun ex => ?_⟩
          obtain ⟨s, hs, hse⟩ := List.mem_iff_getElem.1 hmem
          obtain ⟨_, _, b3⟩ := a5 s hs
          rw [hse, ex, c.par] at b3
          omega
      obtain ⟨s, hs, hse⟩ := List.mem_iff_getElem.1 hx.1
      obtain ⟨b1, b2, b3⟩ := a5 s hs
      rw [hse] at b1 b2 b3
      exact ⟨b1, by omega, by rw [c.parOf_, if_neg (by have := hx.2; omega)]; exact b3⟩
  · rcases c.climb_ (j : Int) ((remL l (q : Int)).length + 1) with h | h
    · exact h
    · rw [h, hlen]; exact hcl j (by omega)
theorem Cut.back (c : Cut l q pn i) : insL (remL l (q : Int)) pn q i = l := by
  have hk : kidsOf (remL l (q : Int)) (pn : Int) = filI (kidsOf l (pn : Int)) (q : Int) := by rw [c.kidsOf_, if_pos (by omega)]
  have hin : insI (filI (kidsOf l (pn : Int)) (q : Int)) i (q : Int) = (kidsOf l (pn : Int)) := by
    have hi := c.hi
    rw [c.fil]
    unfold insI
    rw [List.take_append_of_le_length (by rw [List.length_take]; omega), List.take_take, Nat.min_self, List.drop_append_of_le_length (by rw [List.length_take]; omega), List.drop_eq_nil_of_le (by rw [List.length_take]; omega), List.nil_append]
    conv => rhs; rw [← List.take_append_drop i (kidsOf l (pn : Int)), List.drop_eq_getElem_cons hi, c.at_]
  unfold insL
  rw [hk, hin]
  refine List.ext_getElem (by rw [putParent_len, putKids_len, c.len]) fun j h1 h2 => ?_
  rw [set2_get (by rw [c.len]; exact h2), c.get h2]
  by_cases e1 : j = q
  · subst e1
    have e2 : ¬ j = pn := fun e => c.ne e.symm
    have hp := c.par
    rw [parOf_at h2] at hp
    simp only [if_pos, if_neg e2]
    rw [← hp]
  · by_cases e2 : j = pn
    · subst e2
      simp only [if_pos, if_neg e1]
      rw [kidsOf_at h2]
    · simp only [if_neg e1, if_neg e2]
/-- ahead of which it stood -/
def nextOf (ks : List Int) (i : Nat) : Int := match ks[i + 1]? with | some x => x | none => -1
theorem Cut.pos (c : Cut l q pn i) (bf : Int) (hbf : bf = nextOf (kidsOf l (pn : Int)) i) : (bf = -1 ∧ i = (filI (kidsOf l (pn : Int)) (q : Int)).length) ∨ (bf ≠ -1 ∧ bf ≠ (q : Int) ∧ fndI (filI (kidsOf l (pn : Int)) (q : Int)) bf = i) := by
  have hi := c.hi
  have hfl : (filI (kidsOf l (pn : Int)) (q : Int)).length = (kidsOf l (pn : Int)).length - 1 := by rw [c.fil, List.length_append, List.length_take, List.length_drop]; omega
  unfold nextOf at hbf
  rcases Nat.lt_or_ge (i + 1) (kidsOf l (pn : Int)).length with h | h
  · rw [List.getElem?_eq_getElem h] at hbf
    simp only at hbf
    obtain ⟨hki, _⟩ := kid_is c.right (k := (pn : Int)) ⟨by omega, by have := c.hp; omega⟩ (c := bf) (by rw [hbf]; exact List.getElem_mem h)
    have hnd : (kidsOf l (pn : Int)).Pairwise (· ≠ ·) := by
      exact nodup_of_cnt (l := kidsOf l (pn : Int)) fun c' hc => kid_once c.right (k := (pn : Int)) ⟨by omega, by have := c.hp; omega⟩ hc
    rw [List.pairwise_iff_getElem] at hnd
    refine .inr ⟨by have := hki.1; omega, by rw [hbf]; exact c.once (i + 1) h (by omega), ?_⟩
    have hget : ∀ j (hj : j < (filI (kidsOf l (pn : Int)) (q : Int)).length), (filI (kidsOf l (pn : Int)) (q : Int))[j] = if j < i then (kidsOf l (pn : Int))[j]'(by omega) else (kidsOf l (pn : Int))[j + 1]'(by omega) := by
      intro j hj
      simp only [c.fil]
      by_cases e : j < i
      · rw [if_pos e, List.getElem_append_left (by rw [List.length_take]; omega), List.getElem_take]
      · rw [if_neg e, List.getElem_append_right (by rw [List.length_take]; omega), List.getElem_drop]
        congr 1
        rw [List.length_take]
        omega
    refine fndI_at (by omega) (fun j hj hji => ?_) ?_
    · rw [hget j hj, if_pos hji, hbf]
      simpa using hnd j (i + 1) (by omega) h (by omega)
    · rw [hget i (by omega), if_neg (by omega), hbf]; simp
  · rw [List.getElem?_eq_none h] at hbf
    exact .inl ⟨hbf, by omega⟩
end Go.Proofs.Ytpgcaehbbdnhiaa

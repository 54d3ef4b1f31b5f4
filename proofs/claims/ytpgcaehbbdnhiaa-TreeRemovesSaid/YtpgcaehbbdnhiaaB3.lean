/- Attributes set and taken away: the document stays right. Plain. -/
import Derived.Test.YtpgcaehbbdnhiaaO1
import Derived.Test.YtpgcaehbbdnhiaaB2
import Derived.Test.YtpgcaehbbdnhiaaN2
namespace Go.Proofs.Ytpgcaehbbdnhiaa
open Go.RowKit
def AttrsP (l : List GAttr) : Prop := (∀ a ∈ l, nameB a.name.toList = true ∧ a.val.size ≤ 4000) ∧ (l.map (fun a => a.name.toList)).Pairwise (· ≠ ·)
theorem fnd_neg {l : List GAttr} {m : List UInt8} : fnd l m < 0 ↔ ∀ a ∈ l, a.name.toList ≠ m := by
  constructor
  · intro h a ha e
    unfold fnd at h
    split at h
    · omega
    · rename_i hn
      rw [List.findIdx?_eq_none_iff] at hn
      have := hn a ha
      rw [e] at this; simp at this
  · intro h
    rw [fnd_none fun j hj => by simpa using h _ (List.getElem_mem hj)]
    omega
theorem attrsP_iff {l : List GAttr} : (∀ i, i < l.length → AttrOk l i) ↔ AttrsP l := by
  constructor
  · intro h
    refine ⟨fun a ha => ?_, ?_⟩
    · obtain ⟨i, hi, rfl⟩ := List.mem_iff_getElem.1 ha
      obtain ⟨_, h1, h2, _⟩ := h i hi
      exact ⟨h1, h2⟩
    · rw [List.pairwise_iff_getElem]
      intro i j hi hj hij
      rw [List.length_map] at hi hj
      obtain ⟨_, _, _, h3⟩ := h j hj
      rw [List.getElem_map, List.getElem_map]
      exact fnd_neg.1 h3 l[i] (List.mem_take_iff_getElem.2 ⟨i, by omega, rfl⟩)
  · intro ⟨h1, h2⟩ i hi
    refine ⟨hi, (h1 _ (List.getElem_mem hi)).1, (h1 _ (List.getElem_mem hi)).2, fnd_neg.2 fun a ha => ?_⟩
    obtain ⟨j, hj, rfl⟩ := List.mem_take_iff_getElem.1 ha
    rw [List.pairwise_iff_getElem] at h2
    have := h2 j i (by rw [List.length_map]; omega) (by rw [List.length_map]; omega) (by omega)
    rwa [List.getElem_map, List.getElem_map] at this
/-- an attribute set -/
def setA (l : List GAttr) (nm vl : ByteArray) : List GAttr :=
  if fnd l nm.toList < 0 then l ++ [⟨nm, vl⟩] else match l[(fnd l nm.toList).toNat]? with | some a => l.set (fnd l nm.toList).toNat ⟨a.name, vl⟩ | none => l
theorem setA_new {l : List GAttr} {nm vl : ByteArray} (h : fnd l nm.toList < 0) : setA l nm vl = l ++ [⟨nm, vl⟩] := if_pos h
theorem setA_at {l : List GAttr} {nm vl : ByteArray} {j : Nat} (h : fnd l nm.toList = j) (hj : j < l.length) : setA l nm vl = l.set j ⟨l[j].name, vl⟩ := by
  unfold setA
  rw [if_neg (by omega), h, Int.toNat_natCast, List.getElem?_eq_getElem hj]
theorem setA_P {l : List GAttr} {nm vl : ByteArray} (h : AttrsP l) (hn : nameB nm.toList = true) (hv : vl.size ≤ 4000) : AttrsP (setA l nm vl) := by
  by_cases h0 : fnd l nm.toList < 0
  · rw [setA_new h0]
    refine ⟨fun a ha => ?_, ?_⟩
    · rcases List.mem_append.1 ha with h1 | h1
      · exact h.1 a h1
      · rw [List.mem_singleton] at h1; subst h1; exact ⟨hn, hv⟩
    · rw [List.map_append, List.pairwise_append]
      refine ⟨h.2, List.pairwise_singleton .., fun x hx y hy e => ?_⟩
      obtain ⟨a, ha, rfl⟩ := List.mem_map.1 hx
      simp at hy
      exact fnd_neg.1 h0 a ha (e.trans hy)
  · obtain ⟨j, hj⟩ := Int.eq_ofNat_of_zero_le (Int.not_lt.1 h0)
    obtain ⟨hjl, _⟩ := fnd_is hj
    rw [setA_at hj hjl]
    refine ⟨fun a ha => ?_, ?_⟩
    · rcases List.mem_or_eq_of_mem_set ha with h1 | h1
      · exact h.1 a h1
      · subst h1; exact ⟨(h.1 _ (List.getElem_mem hjl)).1, hv⟩
    · have e : (l.set j ⟨l[j].name, vl⟩).map (fun a => a.name.toList) = l.map (fun a => a.name.toList) := by
        rw [List.map_set]
        refine List.ext_getElem? fun r => ?_
        by_cases hr : r = j
        · subst hr
          rw [List.getElem?_set_self (by rw [List.length_map]; exact hjl), List.getElem?_map, List.getElem?_eq_getElem hjl]; rfl
        · rw [List.getElem?_set_ne (fun e => hr e.symm)]
      rw [e]; exact h.2
theorem setA_len {l : List GAttr} {nm vl : ByteArray} (h : l.length ≤ 40) (h0 : ¬ (fnd l nm.toList < 0 ∧ l.length = 40)) : (setA l nm vl).length ≤ 40 := by
  by_cases h1 : fnd l nm.toList < 0
  · rw [setA_new h1, List.length_append]; have : ¬ l.length = 40 := fun e => h0 ⟨h1, e⟩; simp; omega
  · obtain ⟨j, hj⟩ := Int.eq_ofNat_of_zero_le (Int.not_lt.1 h1)
    obtain ⟨hjl, _⟩ := fnd_is hj
    rw [setA_at hj hjl, List.length_set]; exact h
theorem setA_val {l : List GAttr} {nm vl : ByteArray} : aVal (setA l nm vl) nm.toList = some vl := by
  by_cases h0 : fnd l nm.toList < 0
  · have h1 : fnd (l ++ [⟨nm, vl⟩]) nm.toList = (l.length : Int) := fnd_at (by simp) (fun j hj hjk => by
      rw [List.getElem_append_left hjk]
      simpa using fnd_neg.1 h0 _ (List.getElem_mem hjk)) (by simp)
    rw [setA_new h0, aVal_at h1 (by simp)]
    simp
  · obtain ⟨j, hj⟩ := Int.eq_ofNat_of_zero_le (Int.not_lt.1 h0)
    obtain ⟨hjl, hjm⟩ := fnd_is hj
    have hbef : ∀ i (_ : i < l.length), i < j → (l[i].name.toList == nm.toList) = false := by
      intro i hi hij
      unfold fnd at hj
      split at hj
      · rename_i i' hi'
        obtain ⟨_, _, h2⟩ := List.findIdx?_eq_some_iff_getElem.1 hi'
        obtain rfl : i' = j := by omega
        simpa using h2 i hij
      · omega
    have h1 : fnd (l.set j ⟨l[j].name, vl⟩) nm.toList = (j : Int) := fnd_at (by rw [List.length_set]; exact hjl) (fun i hi hij => by
      rw [List.getElem_set_ne (by omega)]
      exact hbef i (by rw [List.length_set] at hi; exact hi) hij) (by rw [List.getElem_set_self]; exact hjm)
    rw [setA_at hj hjl, aVal_at h1 (by rw [List.length_set]; exact hjl), List.getElem_set_self]
theorem filA_P {l : List GAttr} {m : List UInt8} (h : AttrsP l) : AttrsP (filA l m) := by
  refine ⟨fun a ha => h.1 a (List.mem_filter.1 ha).1, ?_⟩
  have := h.2
  rw [List.pairwise_map] at this ⊢
  exact this.filter _
theorem filA_val {l : List GAttr} {m : List UInt8} : aVal (filA l m) m = none := aVal_none (fnd_neg.2 fun a ha e => by
  have := (List.mem_filter.1 ha).2
  rw [e] at this; simp at this)
theorem putAttrs_len (l : List GNode) (q : Nat) (az : List GAttr) : (putAttrs l q az).length = l.length := by
  unfold putAttrs
  split
  · rw [List.length_set]
  · rfl
theorem putAttrs_get {l : List GNode} {q : Nat} {az : List GAttr} {i : Nat} (h : i < l.length) : (putAttrs l q az)[i]'(by rw [putAttrs_len]; exact h) = if i = q then ⟨l[i].name, l[i].text, az, l[i].parent, l[i].kids⟩ else l[i] := by
  by_cases hq : q < l.length
  · simp only [putAttrs_at hq]
    by_cases e : i = q
    · subst e; rw [List.getElem_set_self, if_pos rfl]
    · rw [List.getElem_set_ne (fun e' => e e'.symm), if_neg e]
  · have : putAttrs l q az = l := by unfold putAttrs; rw [List.getElem?_eq_none (by omega)]
    simp only [this]
    rw [if_neg (by omega)]
/-- a right document in which one element has other attributes is right -/
theorem right_attrs {l : List GNode} (hr : RightP l) {q : Nat} (hq : q < l.length) {az : List GAttr} (hnm : l[q].name.toList.isEmpty = false) (hP : AttrsP az) (hlen : az.length ≤ 40) : RightP (putAttrs l q az) := by
  have hlen' := putAttrs_len l q az
  have hpar : ∀ k : Int, parOf (putAttrs l q az) k = parOf l k := by
    intro k
    unfold parOf
    rcases Nat.lt_or_ge k.toNat l.length with h | h
    · rw [List.getElem?_eq_getElem (by omega), List.getElem?_eq_getElem h, putAttrs_get h]
      by_cases e : k.toNat = q
      · rw [if_pos e]
      · rw [if_neg e]
    · rw [List.getElem?_eq_none (by omega), List.getElem?_eq_none h]
  have hkid : ∀ k : Int, kidsOf (putAttrs l q az) k = kidsOf l k := by
    intro k
    unfold kidsOf
    rcases Nat.lt_or_ge k.toNat l.length with h | h
    · rw [List.getElem?_eq_getElem (by omega), List.getElem?_eq_getElem h, putAttrs_get h]
      by_cases e : k.toNat = q
      · rw [if_pos e]
      · rw [if_neg e]
    · rw [List.getElem?_eq_none (by omega), List.getElem?_eq_none h]
  have hcl : ∀ m k, climb (putAttrs l q az) m k = climb l m k := by
    intro m
    induction m with
    | zero => intro k; rfl
    | succ m ih => intro k; show (if _ then _ else _) = (if _ then _ else _); rw [ih, hpar]
  obtain ⟨⟨hpos, h400, h0, hp0⟩, hall, hc⟩ := hr
  have hq1 : nameB l[q].name.toList = true ∧ l[q].text.size = 0 := by
    obtain ⟨_, h1, _⟩ := hall q hq
    unfold OneP at h1
    rw [if_neg (by rw [hnm]; simp)] at h1
    exact ⟨h1.1, h1.2.1⟩
  refine ⟨⟨by omega, by omega, ?_, ?_⟩, fun i hi => ?_, fun i hi => ?_⟩
  · rw [putAttrs_get hpos]; split <;> exact h0
  · rw [putAttrs_get hpos]; split <;> exact hp0
  · have hil : i < l.length := by omega
    obtain ⟨_, a1, a2, a3, a4, a5⟩ := hall i hil
    refine ⟨hi, ?_⟩
    rw [putAttrs_get hil]
    by_cases e : i = q
    · subst e
      simp only [if_pos]
      refine ⟨?_, a2, by omega, fun h => by rw [hkid]; exact a4 h, fun j hj => ?_⟩
      · unfold OneP
        show if l[i].name.toList.isEmpty = true then _ else _
        rw [if_neg (by rw [hnm]; simp)]
        exact ⟨hq1.1, hq1.2, hlen, attrsP_iff.2 hP⟩
      · obtain ⟨b1, b2, b3⟩ := a5 j hj
        exact ⟨b1, by omega, by rw [hpar]; exact b3⟩
    · simp only [if_neg e]
      refine ⟨a1, a2, by omega, fun h => by rw [hkid]; exact a4 h, fun j hj => ?_⟩
      obtain ⟨b1, b2, b3⟩ := a5 j hj
      exact ⟨b1, by omega, by rw [hpar]; exact b3⟩
  · rw [hcl, hlen']; exact hc i (by omega)
theorem one_attrs {l : List GNode} (hr : RightP l) {q : Nat} (hq : q < l.length) (hnm : l[q].name.toList.isEmpty = false) : AttrsP l[q].attrs ∧ l[q].attrs.length ≤ 40 := by
  obtain ⟨_, h1, _⟩ := hr.2.1 q hq
  unfold OneP at h1
  rw [if_neg (by rw [hnm]; simp)] at h1
  exact ⟨attrsP_iff.1 h1.2.2.2, h1.2.2.1⟩
theorem attrsOf_put {l : List GNode} {q : Nat} (hq : q < l.length) (az : List GAttr) : attrsOf (putAttrs l q az) (q : Int) = az := by
  rw [attrsOf_at (by rw [putAttrs_len]; exact hq), putAttrs_get hq, if_pos rfl]
end Go.Proofs.Ytpgcaehbbdnhiaa

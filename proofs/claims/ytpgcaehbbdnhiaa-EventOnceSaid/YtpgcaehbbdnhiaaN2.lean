/- Attr, Named, ByID, Top, Up, Text, of the program and of the document. -/
import Derived.Test.YtpgcaehbbdnhiaaN1
namespace Go.Proofs.Ytpgcaehbbdnhiaa
open Go.RowKit
def attrsOf (l : List GNode) (k : Int) : List GAttr := match l[k.toNat]? with | some n => n.attrs | none => []
def nameOf (l : List GNode) (k : Int) : List UInt8 := match l[k.toNat]? with | some n => n.name.toList | none => []
def textOf (l : List GNode) (k : Int) : List UInt8 := match l[k.toNat]? with | some n => n.text.toList | none => []
theorem attrsOf_at {l : List GNode} {i : Nat} (h : i < l.length) : attrsOf l i = l[i].attrs := by unfold attrsOf; rw [Int.toNat_natCast, List.getElem?_eq_getElem h]
theorem nameOf_at {l : List GNode} {i : Nat} (h : i < l.length) : nameOf l i = l[i].name.toList := by unfold nameOf; rw [Int.toNat_natCast, List.getElem?_eq_getElem h]
theorem textOf_at {l : List GNode} {i : Nat} (h : i < l.length) : textOf l i = l[i].text.toList := by unfold textOf; rw [Int.toNat_natCast, List.getElem?_eq_getElem h]
/-- the value of the first attribute of a name -/
def aVal (l : List GAttr) (m : List UInt8) : Option ByteArray := match l[(fnd l m).toNat]? with | some a => if fnd l m < 0 then none else some a.val | none => none
theorem aVal_none {l : List GAttr} {m : List UInt8} (h : fnd l m < 0) : aVal l m = none := by
  unfold aVal
  split
  · rw [if_pos h]
  · rfl
theorem aVal_at {l : List GAttr} {m : List UInt8} {k : Nat} (h : fnd l m = k) (hk : k < l.length) : aVal l m = some l[k].val := by
  unfold aVal
  rw [h, Int.toNat_natCast, List.getElem?_eq_getElem hk]
  simp only
  rw [if_neg (by omega)]
def aStr (x : Option ByteArray) : ByteArray := x.getD ⟨#[]⟩
theorem small_attrs {l : List GNode} (hs : ∀ n ∈ l, NodeSmall reachBytes n) {q : Nat} (hq : q < l.length) : l[q].attrs.length ≤ 4611686018427387904 := by
  have := (hs _ (List.getElem_mem hq)).attrs
  unfold reachBytes at this
  omega

set_option maxRecDepth 100000 in
set_option maxHeartbeats 2000000 in
theorem rAttr_c (A : Option Addr) (c : Nat) (l : List GNode) (k : Int) (hk : Is l k) (m : ByteArray) (w : World) (B : Nat) (hs : ∀ n ∈ l, NodeSmall reachBytes n) (h : NodesAt w B A l) :
    Calls Try.prog 44 #[.slice A l.length c, .int .i64 k, .string m] w fun e w' => e = .returned (.tuple #[.string (aStr (aVal (attrsOf l k) m.toList)), .bool (aVal (attrsOf l k) m.toList).isSome]) ∧ w = w' := by
  obtain ⟨q, rfl, hq⟩ := is_nat hk
  rw [attrsOf_at hq]
  have hal := small_attrs hs hq
  obtain ⟨b, o, rfl, hbB, T3, ac3, K3, kc3, -, -, v2, -, -, hT, -, -, -⟩ := h.at_ hq
  generalize l[q].attrs = at_ at v2 hT hal
  by_cases h0 : fnd at_ m.toList < 0
  · have HV := Lib.hid (aVal_none h0)
    go_enter Try.func44, Try.ntmps44
    go_wp2_with (go_at_call 75; refine (rFind_c T3 ac3 at_ m _ B hal hT).mono ?_; rintro e w1 ⟨rfl, rfl⟩)
    go_ret2
    exact ⟨by rw [HV.out]; rfl, rfl⟩
  · obtain ⟨j, hj⟩ := Int.eq_ofNat_of_zero_le (Int.not_lt.1 h0)
    have hjl := (fnd_bd at_ m.toList).2
    rw [hj] at hjl
    have hjl' : j < at_.length := by omega
    have HV := Lib.hid (aVal_at hj hjl')
    obtain ⟨b', o', rfl, hb', hc1, hc2⟩ := hT.at_ hjl'
    clear h0
    go_enter Try.func44, Try.ntmps44
    go_wp2_with (go_at_call 75; refine (rFind_c _ ac3 at_ m _ B hal hT).mono ?_; rw [hj]; rintro e w1 ⟨rfl, rfl⟩)
    go_ret2
    exact ⟨by rw [HV.out]; rfl, rfl⟩
set_option maxRecDepth 100000 in
set_option maxHeartbeats 2000000 in
theorem Attr_c (A : Option Addr) (c : Nat) (l : List GNode) (k : Int) (m : ByteArray) (w : World) (B : Nat) (hB : B ≤ w.heap.size) (hs : ∀ n ∈ l, NodeSmall reachBytes n) (hll : l.length ≤ 4611686018427387904) (h : NodesAt w B A l) :
    Calls Try.prog 39 #[.slice A l.length c, .int .i64 k, .string m] w fun e w' => e = .returned (.tuple #[.string (aStr (if hasB l k then aVal (attrsOf l k) m.toList else none)), .bool (if hasB l k then aVal (attrsOf l k) m.toList else none).isSome]) ∧ Below w.heap.size w w' := by
  by_cases hh : hasB l k = true
  case neg =>
    have hh' : hasB l k = false := by simpa using hh
    rw [if_neg hh]
    clear hh
    go_enter Try.func39, Try.ntmps39
    go_wp2_with (go_at_call 62; refine (has_c A c l k w B hB hs hll h).mono ?_; rintro e w1 ⟨rfl, hb1⟩)
    go_ret2
    exact ⟨rfl, hb1⟩
  rw [if_pos hh]
  obtain ⟨q, rfl, hq⟩ := is_nat (hasB_iff.1 hh).1
  rw [attrsOf_at hq]
  have hal := small_attrs hs hq
  obtain ⟨b, o, rfl, hbB, -⟩ := h.at_ hq
  by_cases h0 : fnd l[q].attrs m.toList < 0
  · have HV := Lib.hid (aVal_none h0)
    go_enter Try.func39, Try.ntmps39
    go_wp2_with (first | (go_at_call 62; refine (has_c _ c l q w B hB hs hll h).mono ?_; rintro e w1 ⟨rfl, hb1⟩; obtain ⟨T3, ac3, K3, kc3, -, -, v2, -, -, hT, -, hac, -⟩ := (h.below (hb1.mono hB)).at2 hq; have hz1 : B ≤ w1.heap.size := (by have := hb1.size; omega)) | (go_at_call 72; refine (find_c T3 ac3 _ l[q].attrs m _ B hz1 rfl hal hT).mono ?_; rintro e w2 ⟨rfl, hb2⟩))
    go_ret2
    exact ⟨by rw [HV.out]; rfl, hb1.trans (hb2.mono hb1.size)⟩
  · obtain ⟨j, hj⟩ := Int.eq_ofNat_of_zero_le (Int.not_lt.1 h0)
    have hjl := (fnd_bd l[q].attrs m.toList).2
    rw [hj] at hjl
    have hjl' : j < l[q].attrs.length := by omega
    have HV := Lib.hid (aVal_at hj hjl')
    have hj0 : (0 : Int) ≤ (j : Int) := by omega
    clear h0
    go_enter Try.func39, Try.ntmps39
    go_wp2_with (first | (go_at_call 62; refine (has_c _ c l q w B hB hs hll h).mono ?_; rintro e w1 ⟨rfl, hb1⟩; obtain ⟨T3, ac3, K3, kc3, -, -, v2, -, -, hT, -, hac, -⟩ := (h.below (hb1.mono hB)).at2 hq; have hz1 : B ≤ w1.heap.size := (by have := hb1.size; omega)) | (go_at_call 72; refine (find_c T3 ac3 _ l[q].attrs m _ B hz1 rfl hal hT).mono ?_; rw [hj]; rintro e w2 ⟨rfl, hb2⟩; have hb12 := hb1.trans (hb2.mono hb1.size); obtain ⟨T4, ac4, K4, kc4, -, -, x2, -, -, hT4, -, -, -⟩ := (h.below (hb12.mono hB)).at2 hq; obtain ⟨b', o', rfl, hb', hc1, hc2⟩ := hT4.at_ hjl'))
    go_ret2
    exact ⟨by rw [HV.out]; rfl, hb12⟩

/-- going up ends here -/
def TopP (l : List GNode) (k r : Int) : Prop := Is l r ∧ parOf l r < 0 ∧ ∃ m, climb l m k = r
theorem top_same {l : List GNode} {k r r' : Int} (h : TopP l k r) (h' : TopP l k r') : r = r' := by
  obtain ⟨hi, hp, m, hm⟩ := h
  obtain ⟨hi', hp', m', hm'⟩ := h'
  have key : ∀ (a b : Nat) (r s : Int), a < b → climb l a k = r → climb l b k = s → parOf l r < 0 → Is l r → Is l s → False := by
    intro a b r s hab ha hb hpr hr hs
    have e := climb_add (l := l) a k (b - a)
    rw [show a + (b - a) = b by omega, ha, hb] at e
    have h1 : climb l 1 r < 0 := by
      rw [show (1 : Nat) = 0 + 1 from rfl, climb_succ (m := 0) (by have := hr.1; show ¬ r < 0; omega)]
      exact hpr
    have h2 := climb_le h1 (m' := b - a) (by omega)
    have := hs.1
    omega
  rcases Nat.lt_trichotomy m m' with hlt | e | hlt
  · exact (key _ _ r r' hlt hm hm' hp hi hi').elim
  · subst e; exact hm.symm.trans hm'
  · exact (key _ _ r' r hlt hm' hm hp' hi' hi).elim
set_option maxRecDepth 100000 in
set_option maxHeartbeats 2000000 in
theorem rTop_c (A : Option Addr) (c : Nat) (l : List GNode) (hr : RightP l) (k : Int) (hk : Is l k) (w : World) (B : Nat) (h : NodesAt w B A l) :
    Calls Try.prog 46 #[.slice A l.length c, .int .i64 k] w fun e w' => ∃ r, e = .returned (.int .i64 r) ∧ TopP l k r ∧ Below w.heap.size w w' := by
  obtain ⟨⟨hpos, h400, _⟩, _⟩ := id hr
  obtain ⟨b, o, rfl, hbB, -⟩ := h.at_ hpos
  have HK := Lib.hid hk
  clear hk
  go_enter Try.func46, Try.ntmps46
  go_wp2_with (fail)
  go_loop [1] (fun x => ∃ y : Int, x = .int .i64 y ∧ Is l y ∧ ∃ m, climb l m k = y) (fun x => dep l (l.length + 1) (intOf x))
  case atStart => exact ⟨k, rfl, HK.out, 0, rfl⟩
  case round =>
    obtain ⟨y, rfl, hy, m, hm⟩ := hrel
    have HM := Lib.hid hm
    have HY := Lib.hid hy
    have HS := Lib.hid (climb_succ (l := l) (m := m) (k := k))
    have HD := Lib.hid (dep_par hr hy)
    have HP := Lib.hid (fun h => par_is hr hy h)
    obtain ⟨q, rfl, hq⟩ := is_nat hy
    have HPA := Lib.hid (parOf_at hq)
    clear hm hy
    obtain ⟨T3, ac3, K3, kc3, -, -, -, v3, -, -, -, -, -⟩ := h.at2 hq
    generalize l[q].parent = p at v3 HPA
    by_cases hp : 0 ≤ p
    · go_wp2
      go_round
      case rel => exact ⟨p, rfl, by rw [← HPA.out]; exact (HP.out (by rw [HPA.out]; exact hp)).1, m + 1, by rw [HS.out (by rw [HM.out]; omega), HM.out, HPA.out]⟩
      case measure => simp only [intOf]; rw [← HPA.out]; exact HD.out
    · have hp' : decide (0 ≤ p) = false := decide_eq_false hp
      have HPN := Lib.hid (show parOf l (q : Int) < 0 by rw [HPA.out]; omega)
      clear hp
      go_wp2
      go_ret
      exact ⟨_, rfl, ⟨HY.out, HPN.out, m, HM.out⟩, Below.refl _ _⟩
set_option maxRecDepth 100000 in
set_option maxHeartbeats 2000000 in
theorem Top_c (A : Option Addr) (c : Nat) (l : List GNode) (hr : RightP l) (k : Int) (hk : Is l k) (w : World) (B : Nat) (hB : B ≤ w.heap.size) (hs : ∀ n ∈ l, NodeSmall reachBytes n) (h : NodesAt w B A l) :
    Calls Try.prog 41 #[.slice A l.length c, .int .i64 k] w fun e w' => ∃ r, e = .returned (.int .i64 r) ∧ TopP l k r ∧ Below w.heap.size w w' := by
  obtain ⟨⟨hpos, h400, _⟩, _⟩ := id hr
  obtain ⟨b, o, rfl, hbB, -⟩ := h.at_ hpos
  have HK := Lib.hid hk
  have hh := hasB_yes hk hr
  have hll : l.length ≤ 4611686018427387904 := by omega
  clear hk
  go_enter Try.func41, Try.ntmps41
  go_wp2_with (go_at_call 62; refine (has_c _ c l k w B hB hs hll h).mono ?_; rintro e w1 ⟨rfl, hb1⟩; have hw1 := h.below (hb1.mono hB))
  go_loop [1] (fun x => ∃ y : Int, x = .int .i64 y ∧ Is l y ∧ ∃ m, climb l m k = y) (fun x => dep l (l.length + 1) (intOf x))
  case atStart => exact ⟨k, rfl, HK.out, 0, rfl⟩
  case round =>
    obtain ⟨y, rfl, hy, m, hm⟩ := hrel
    have HM := Lib.hid hm
    have HY := Lib.hid hy
    have HS := Lib.hid (climb_succ (l := l) (m := m) (k := k))
    have HD := Lib.hid (dep_par hr hy)
    have HP := Lib.hid (fun h => par_is hr hy h)
    obtain ⟨q, rfl, hq⟩ := is_nat hy
    have HPA := Lib.hid (parOf_at hq)
    clear hm hy
    obtain ⟨T3, ac3, K3, kc3, -, -, -, v3, -, -, -, -, -⟩ := hw1.at2 hq
    generalize l[q].parent = p at v3 HPA
    by_cases hp : 0 ≤ p
    · go_wp2
      go_round
      case rel => exact ⟨p, rfl, by rw [← HPA.out]; exact (HP.out (by rw [HPA.out]; exact hp)).1, m + 1, by rw [HS.out (by rw [HM.out]; omega), HM.out, HPA.out]⟩
      case measure => simp only [intOf]; rw [← HPA.out]; exact HD.out
    · have hp' : decide (0 ≤ p) = false := decide_eq_false hp
      have HPN := Lib.hid (show parOf l (q : Int) < 0 by rw [HPA.out]; omega)
      clear hp
      go_wp2
      go_ret
      exact ⟨_, rfl, ⟨HY.out, HPN.out, m, HM.out⟩, hb1⟩
end Go.Proofs.Ytpgcaehbbdnhiaa

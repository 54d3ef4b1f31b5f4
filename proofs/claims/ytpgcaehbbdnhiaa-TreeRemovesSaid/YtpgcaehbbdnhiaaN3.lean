/- Up, Text, Named, ByID, of the program and of the document. -/
import Derived.Test.YtpgcaehbbdnhiaaN2
namespace Go.Proofs.Ytpgcaehbbdnhiaa
open Go.RowKit
theorem climb_ge {l : List GNode} (hr : RightP l) {x : Int} (h : -1 ≤ x) (hx : x < l.length) : ∀ m, -1 ≤ climb l m x
  | 0 => h
  | m + 1 => by
    have ih := climb_ge hr h hx m
    by_cases hn : climb l m x < 0
    · show -1 ≤ (if climb l m x < 0 then climb l m x else parOf l (climb l m x))
      rw [if_pos hn]; exact ih
    · rw [climb_succ hn]
      exact par_ge hr ⟨by omega, climb_rg hr hx m⟩
/-- the nearest of a name, from here up -/
def UpP (l : List GNode) (x : Int) (nm : List UInt8) (r : Int) : Prop := ∃ m, climb l m x = r ∧ (r < 0 ∨ nameOf l r = nm) ∧ ∀ m', m' < m → 0 ≤ climb l m' x ∧ nameOf l (climb l m' x) ≠ nm
theorem up_same {l : List GNode} {x r r' : Int} {nm : List UInt8} (h : UpP l x nm r) (h' : UpP l x nm r') : r = r' := by
  obtain ⟨m, hm, ho, hb⟩ := h
  obtain ⟨m', hm', ho', hb'⟩ := h'
  rcases Nat.lt_trichotomy m m' with hlt | e | hlt
  · obtain ⟨h1, h2⟩ := hb' m hlt
    rw [hm] at h1 h2
    rcases ho with h | h
    · omega
    · exact absurd h h2
  · subst e; exact hm.symm.trans hm'
  · obtain ⟨h1, h2⟩ := hb m' hlt
    rw [hm'] at h1 h2
    rcases ho' with h | h
    · omega
    · exact absurd h h2
set_option maxRecDepth 100000 in
set_option maxHeartbeats 2000000 in
theorem rUp_c (A : Option Addr) (c : Nat) (l : List GNode) (hr : RightP l) (k : Int) (hk : Is l k) (nm : ByteArray) (w : World) (B : Nat) (h : NodesAt w B A l) :
    Calls Try.prog 47 #[.slice A l.length c, .int .i64 k, .string nm] w fun e w' => ∃ r, e = .returned (.int .i64 r) ∧ UpP l (parOf l k) nm.toList r ∧ Below w.heap.size w w' := by
  obtain ⟨⟨hpos, h400, _⟩, _⟩ := id hr
  obtain ⟨b, o, rfl, hbB, -⟩ := h.at_ hpos
  have hpg := par_ge hr hk
  obtain ⟨q0, rfl, hq0⟩ := is_nat hk
  have hpl : parOf l (q0 : Int) < l.length := by have := climb_rg hr (k := (q0 : Int)) (by omega) 1; rwa [show (1 : Nat) = 0 + 1 from rfl, climb_succ (m := 0) (by show ¬ (q0 : Int) < 0; omega)] at this
  obtain ⟨T0, ac0, K0, kc0, -, -, -, v0, -, -, -, -, -⟩ := h.at2 hq0
  rw [← parOf_at hq0] at v0
  generalize parOf l (q0 : Int) = x0 at v0 hpg hpl
  have hge := climb_ge hr hpg hpl
  have hrg := climb_rg hr hpl
  clear hk
  go_enter Try.func47, Try.ntmps47
  go_wp2_with (fail)
  clear v0
  go_loop [7] (fun x => ∃ m : Nat, x = .int .i64 (climb l m x0) ∧ ∀ m', m' < m → 0 ≤ climb l m' x0 ∧ nameOf l (climb l m' x0) ≠ nm.toList) (fun x => dep l (l.length + 1) (intOf x))
  case atStart => exact ⟨0, rfl, fun m' h => by omega⟩
  case round =>
    obtain ⟨m, rfl, hn⟩ := hrel
    have HN := Lib.hid hn
    have HS := Lib.hid (climb_succ (l := l) (m := m) (k := x0))
    have hy1 := hge m
    have hy2 := hrg m
    clear hn
    generalize hy : climb l m x0 = y at hy1 hy2 HS
    have HM := Lib.hid hy
    clear hy
    by_cases hy0 : 0 ≤ y
    · have HD := Lib.hid (dep_par hr (x := y) ⟨hy0, hy2⟩)
      obtain ⟨q, rfl⟩ : ∃ q : Nat, y = q := ⟨y.toNat, by omega⟩
      have hq : q < l.length := by omega
      have HPA := Lib.hid (parOf_at hq)
      have HNA := Lib.hid (nameOf_at hq)
      obtain ⟨T3, ac3, K3, kc3, v0, -, -, v3, -, -, -, -, -⟩ := h.at2 hq
      generalize l[q].parent = p at v3 HPA
      generalize l[q].name = nq at v0 HNA
      by_cases he : nq.toList = nm.toList
      · have he' : (nq.toList == nm.toList) = true := by rw [he]; simp
        have he'' : (nq.toList != nm.toList) = false := by rw [he]; simp
        have HE := Lib.hid he
        clear he
        go_wp2
        go_ret
        exact ⟨_, rfl, ⟨m, HM.out, .inr (by rw [HNA.out]; exact HE.out), HN.out⟩, Below.refl _ _⟩
      · have he' : (nq.toList == nm.toList) = false := by simpa using he
        have he'' : (nq.toList != nm.toList) = true := by simpa using he
        have HE := Lib.hid he
        clear he
        go_wp2
        go_round
        case rel => exact ⟨m + 1, by rw [HS.out (by omega), HPA.out], fun m' h1 => by
          by_cases e : m' = m
          · subst e; rw [HM.out, HNA.out]; exact ⟨hy0, HE.out⟩
          · exact HN.out m' (by omega)⟩
        case measure => simp only [intOf]; rw [← HPA.out]; exact HD.out
    · obtain rfl : y = -1 := by omega
      have hy0' : decide ((0 : Int) ≤ -1) = false := by decide
      clear hy0
      go_wp2
      go_ret
      exact ⟨_, rfl, ⟨m, HM.out, .inl (by omega), HN.out⟩, Below.refl _ _⟩
set_option maxRecDepth 100000 in
set_option maxHeartbeats 2000000 in
theorem Up_c (A : Option Addr) (c : Nat) (l : List GNode) (hr : RightP l) (k : Int) (hk : Is l k) (nm : ByteArray) (w : World) (B : Nat) (hB : B ≤ w.heap.size) (hs : ∀ n ∈ l, NodeSmall reachBytes n) (h : NodesAt w B A l) :
    Calls Try.prog 42 #[.slice A l.length c, .int .i64 k, .string nm] w fun e w' => ∃ r, e = .returned (.int .i64 r) ∧ UpP l (parOf l k) nm.toList r ∧ Below w.heap.size w w' := by
  obtain ⟨⟨hpos, h400, _⟩, _⟩ := id hr
  obtain ⟨b, o, rfl, hbB, -⟩ := h.at_ hpos
  have hh := hasB_yes hk hr
  have hll : l.length ≤ 4611686018427387904 := by omega
  have hpg := par_ge hr hk
  obtain ⟨q0, rfl, hq0⟩ := is_nat hk
  have hpl : parOf l (q0 : Int) < l.length := by have := climb_rg hr (k := (q0 : Int)) (by omega) 1; rwa [show (1 : Nat) = 0 + 1 from rfl, climb_succ (m := 0) (by show ¬ (q0 : Int) < 0; omega)] at this
  have hpar0 := parOf_at hq0
  generalize parOf l (q0 : Int) = x0 at hpar0 hpg hpl
  have HPAR := Lib.hid hpar0
  clear hpar0
  have hge := climb_ge hr hpg hpl
  have hrg := climb_rg hr hpl
  clear hk
  go_enter Try.func42, Try.ntmps42
  go_wp2_with (go_at_call 62; refine (has_c _ c l q0 w B hB hs hll h).mono ?_; rintro e w1 ⟨rfl, hb1⟩; have hw1 := h.below (hb1.mono hB); obtain ⟨T1, ac1, K1, kc1, -, -, -, v1, -, -, -, -, -⟩  := hw1.at2 hq0; rw [← HPAR.out] at v1)
  go_loop [7] (fun x => ∃ m : Nat, x = .int .i64 (climb l m x0) ∧ ∀ m', m' < m → 0 ≤ climb l m' x0 ∧ nameOf l (climb l m' x0) ≠ nm.toList) (fun x => dep l (l.length + 1) (intOf x))
  case atStart => exact ⟨0, rfl, fun m' h => by omega⟩
  case round =>
    obtain ⟨m, rfl, hn⟩ := hrel
    have HN := Lib.hid hn
    have HS := Lib.hid (climb_succ (l := l) (m := m) (k := x0))
    have hy1 := hge m
    have hy2 := hrg m
    clear hn
    generalize hy : climb l m x0 = y at hy1 hy2 HS
    have HM := Lib.hid hy
    clear hy
    by_cases hy0 : 0 ≤ y
    · have HD := Lib.hid (dep_par hr (x := y) ⟨hy0, hy2⟩)
      obtain ⟨q, rfl⟩ : ∃ q : Nat, y = q := ⟨y.toNat, by omega⟩
      have hq : q < l.length := by omega
      have HPA := Lib.hid (parOf_at hq)
      have HNA := Lib.hid (nameOf_at hq)
      obtain ⟨T3, ac3, K3, kc3, v0, -, -, v3, -, -, -, -, -⟩ := hw1.at2 hq
      generalize l[q].parent = p at v3 HPA
      generalize l[q].name = nq at v0 HNA
      by_cases he : nq.toList = nm.toList
      · have he' : (nq.toList == nm.toList) = true := by rw [he]; simp
        have he'' : (nq.toList != nm.toList) = false := by rw [he]; simp
        have HE := Lib.hid he
        clear he
        go_wp2
        go_ret
        exact ⟨_, rfl, ⟨m, HM.out, .inr (by rw [HNA.out]; exact HE.out), HN.out⟩, hb1⟩
      · have he' : (nq.toList == nm.toList) = false := by simpa using he
        have he'' : (nq.toList != nm.toList) = true := by simpa using he
        have HE := Lib.hid he
        clear he
        go_wp2
        go_round
        case rel => exact ⟨m + 1, by rw [HS.out (by omega), HPA.out], fun m' h1 => by
          by_cases e : m' = m
          · subst e; rw [HM.out, HNA.out]; exact ⟨hy0, HE.out⟩
          · exact HN.out m' (by omega)⟩
        case measure => simp only [intOf]; rw [← HPA.out]; exact HD.out
    · obtain rfl : y = -1 := by omega
      have hy0' : decide ((0 : Int) ≤ -1) = false := by decide
      clear hy0
      go_wp2
      go_ret
      exact ⟨_, rfl, ⟨m, HM.out, .inl (by omega), HN.out⟩, hb1⟩
def textL (l : List GNode) (k : Int) (j : Nat) : List UInt8 := textOf l k ++ ((kidsOf l k).take j).flatMap (textOf l)
theorem textL_succ {l : List GNode} {k : Int} {j : Nat} (h : j < (kidsOf l k).length) : textL l k (j + 1) = textL l k j ++ textOf l (kidsOf l k)[j] := by
  unfold textL
  rw [List.take_succ_eq_append_getElem h, List.flatMap_append, List.append_assoc]
  simp
theorem text_small {l : List GNode} (hr : RightP l) {q : Nat} (hq : q < l.length) : l[q].text.size ≤ 4000 := by
  obtain ⟨_, h1, _⟩ := hr.2.1 q hq
  unfold OneP at h1
  split at h1
  · exact h1.2.2
  · have := h1.2.1; omega
theorem kids_few {l : List GNode} (hr : RightP l) {q : Nat} (hq : q < l.length) : l[q].kids.length ≤ 400 := by
  have hix : Is l (q : Int) := ⟨by omega, by omega⟩
  have h1 := ord_length hr hix
  have h2 := flat_len hr (kidsOf l q) (fun y hy => (kid_is hr hix hy).1)
  rw [ordL_eq hr hix, List.length_cons] at h1
  rw [kidsOf_at hq] at h1 h2
  obtain ⟨⟨_, h400, _⟩, _⟩ := hr
  omega
theorem ba_append (s t : ByteArray) : (s ++ t).toList = s.toList ++ t.toList := by simp [ba_list]
set_option maxRecDepth 100000 in
set_option maxHeartbeats 2000000 in
theorem rText_c (A : Option Addr) (c : Nat) (l : List GNode) (hr : RightP l) (k : Int) (hk : Is l k) (w : World) (B : Nat) (h : NodesAt w B A l) :
    Calls Try.prog 48 #[.slice A l.length c, .int .i64 k] w fun e w' => (∃ s : ByteArray, e = .returned (.string s) ∧ s.toList = textL l k (kidsOf l k).length) ∧ Below w.heap.size w w' := by
  obtain ⟨⟨hpos, h400, _⟩, _⟩ := id hr
  obtain ⟨b, o, rfl, hbB, -⟩ := h.at_ hpos
  have HK := Lib.hid hk
  obtain ⟨q, rfl, hq⟩ := is_nat hk
  have hkl := kids_few hr hq
  have hts := text_small hr hq
  have hkd := kidsOf_at hq
  have htx := textOf_at hq
  obtain ⟨T0, ac0, K0, kc0, -, x1, -, -, x4, -, hK0, -, -⟩ := h.at2 hq
  generalize hkds : l[q].kids = kd at x4 hK0 hkl hkd
  generalize htt : l[q].text = t0 at x1 hts htx
  have HKD := Lib.hid hkd
  have HTX := Lib.hid htx
  have HKK := Lib.hid hK0
  have HT0 := Lib.hid (show textL l q 0 = t0.toList by unfold textL; rw [htx]; simp)
  clear hk hkd htx hkds htt
  go_enter Try.func48, Try.ntmps48
  go_wp2_with (fail)
  go_loop [5, 6] (fun v i => ∃ (j : Nat) (r : ByteArray), j ≤ kd.length ∧ i = .int .i64 j ∧ v = .string r ∧ r.toList = textL l q j ∧ r.size ≤ 4000 * (j + 1)) (fun _ i => kd.length - (intOf i).toNat)
  case atStart => exact ⟨0, t0, by omega, rfl, rfl, HT0.out.symm, by omega⟩
  case round =>
    obtain ⟨j, r, hj, rfl, rfl, hrt, hrs⟩ := hrel
    have HRT := Lib.hid hrt
    clear hrt
    by_cases hjl : j < kd.length
    · obtain ⟨bk, ok, rfl, hbk, hck⟩ := HKK.out.at_ hjl
      have hmem : kd[j] ∈ kidsOf l q := by rw [HKD.out]; exact List.getElem_mem hjl
      have hix := (kid_is hr HK.out hmem).1
      have HTS := Lib.hid (textL_succ (l := l) (k := (q : Int)) (j := j) (by rw [HKD.out]; exact hjl))
      have HGE := Lib.hid (show (kidsOf l (q : Int))[j]'(by rw [HKD.out]; exact hjl) = kd[j] by simp only [HKD.out])
      generalize kd[j] = y at hck hix hmem HGE
      obtain ⟨m, rfl, hm⟩ := is_nat hix
      have HTM := Lib.hid (textOf_at hm)
      have hms := text_small hr hm
      obtain ⟨T3, ac3, K3, kc3, -, v1, -, -, -, -, -, -, -⟩ := h.at2 hm
      generalize l[m].text = tm at v1 HTM hms
      have hsum : r.size + tm.size ≤ 2000000 := by omega
      clear hmem hix
      go_wp2
      go_round
      case rel => exact ⟨j + 1, _, by omega, by go_num, rfl, by rw [ba_append, HRT.out, HTS.out, HGE.out, HTM.out], by rw [ByteArray.size_append]; omega⟩
      case measure => simp [intOf]; omega
    · obtain rfl : j = kd.length := by omega
      have HFIN := Lib.hid (show r.toList = textL l q (kidsOf l (q : Int)).length by rw [HKD.out]; exact HRT.out)
      go_wp2
      go_ret
      exact ⟨⟨_, rfl, HFIN.out⟩, Below.refl _ _⟩
set_option maxRecDepth 100000 in
set_option maxHeartbeats 2000000 in
theorem Text_c (A : Option Addr) (c : Nat) (l : List GNode) (hr : RightP l) (k : Int) (hk : Is l k) (w : World) (B : Nat) (hB : B ≤ w.heap.size) (hs : ∀ n ∈ l, NodeSmall reachBytes n) (h : NodesAt w B A l) :
    Calls Try.prog 43 #[.slice A l.length c, .int .i64 k] w fun e w' => (∃ s : ByteArray, e = .returned (.string s) ∧ s.toList = textL l k (kidsOf l k).length) ∧ Below w.heap.size w w' := by
  obtain ⟨⟨hpos, h400, _⟩, _⟩ := id hr
  obtain ⟨b, o, rfl, hbB, -⟩ := h.at_ hpos
  have hh := hasB_yes hk hr
  have hll : l.length ≤ 4611686018427387904 := by omega
  have HK := Lib.hid hk
  obtain ⟨q, rfl, hq⟩ := is_nat hk
  have hkl := kids_few hr hq
  have hts := text_small hr hq
  have hkd := kidsOf_at hq
  have htx := textOf_at hq
  generalize hkds : l[q].kids = kd at hkl hkd
  generalize htt : l[q].text = t0 at hts htx
  have HKD := Lib.hid hkd
  have HTX := Lib.hid htx
  have HT0 := Lib.hid (show textL l q 0 = t0.toList by unfold textL; rw [htx]; simp)
  have HK1 := Lib.hid hkds
  have HT1 := Lib.hid htt
  clear hk hkd htx hkds htt
  go_enter Try.func43, Try.ntmps43
  go_wp2_with (go_at_call 62; refine (has_c _ c l q w B hB hs hll h).mono ?_; rintro e w1 ⟨rfl, hb1⟩; have hw1 := h.below (hb1.mono hB); have hnode := hw1.at2 hq; unfold NodeIn at hnode; rw [HK1.out, HT1.out] at hnode; obtain ⟨T0, ac0, K0, kc0, -, x1, -, -, x4, -, hK0, -, -⟩ := hnode; have HKK := Lib.hid hK0)
  go_loop [5, 23] (fun v i => ∃ (j : Nat) (r : ByteArray), j ≤ kd.length ∧ i = .int .i64 j ∧ v = .string r ∧ r.toList = textL l q j ∧ r.size ≤ 4000 * (j + 1)) (fun _ i => kd.length - (intOf i).toNat)
  case atStart => exact ⟨0, t0, by omega, rfl, rfl, HT0.out.symm, by omega⟩
  case round =>
    obtain ⟨j, r, hj, rfl, rfl, hrt, hrs⟩ := hrel
    have HRT := Lib.hid hrt
    clear hrt
    by_cases hjl : j < kd.length
    · obtain ⟨bk, ok, rfl, hbk, hck⟩ := HKK.out.at_ hjl
      have hmem : kd[j] ∈ kidsOf l q := by rw [HKD.out]; exact List.getElem_mem hjl
      have hix := (kid_is hr HK.out hmem).1
      have HTS := Lib.hid (textL_succ (l := l) (k := (q : Int)) (j := j) (by rw [HKD.out]; exact hjl))
      have HGE := Lib.hid (show (kidsOf l (q : Int))[j]'(by rw [HKD.out]; exact hjl) = kd[j] by simp only [HKD.out])
      generalize kd[j] = y at hck hix hmem HGE
      obtain ⟨m, rfl, hm⟩ := is_nat hix
      have HTM := Lib.hid (textOf_at hm)
      have hms := text_small hr hm
      obtain ⟨T3, ac3, K3, kc3, -, v1, -, -, -, -, -, -, -⟩ := hw1.at2 hm
      generalize l[m].text = tm at v1 HTM hms
      have hsum : r.size + tm.size ≤ 2000000 := by omega
      clear hmem hix
      go_wp2
      go_round
      case rel => exact ⟨j + 1, _, by omega, by go_num, rfl, by rw [ba_append, HRT.out, HTS.out, HGE.out, HTM.out], by rw [ByteArray.size_append]; omega⟩
      case measure => simp [intOf]; omega
    · obtain rfl : j = kd.length := by omega
      have HFIN := Lib.hid (show r.toList = textL l q (kidsOf l (q : Int)).length by rw [HKD.out]; exact HRT.out)
      go_wp2
      go_ret
      exact ⟨⟨_, rfl, HFIN.out⟩, hb1⟩
end Go.Proofs.Ytpgcaehbbdnhiaa

/- Remove, of the program and of the document. -/
import Derived.Test.YtpgcaehbbdnhiaaB7
namespace Go.Proofs.Ytpgcaehbbdnhiaa
open Go.RowKit
noncomputable def remE (l : List GNode) (k : Int) : Int := if hasB l k = false then 4 else if parOf l k < 0 then 8 else 0
set_option maxRecDepth 100000 in
set_option maxHeartbeats 1000000 in
theorem without_c (A : Option Addr) (c : Nat) (l : List Int) (m : Int) (w : World) (B : Nat) (hB : B ≤ w.heap.size) (hl : l.length * 8 ≤ 140737488355328) (h : IntsAt w B A l) :
    Calls Try.prog 66 #[.slice A l.length c, .int .i64 m] w fun e w' => (∃ T c', e = .returned (.slice T (filI l m).length c') ∧ w'.ownsRow w.heap.size 3 1 (.slice T (filI l m).length c') (filI l m).length (intCells (filI l m))) ∧ Below w.heap.size w w' := by
  obtain ⟨ii, ii0, iiz, ii1, ii2⟩ := info_parts info_int
  go_enter Try.func66, Try.ntmps66
  go_wp2_with fail
  go_loopw [5, 6] (fun va iv wr => Below w.heap.size w wr ∧ ∃ j : Nat, j ≤ l.length ∧ iv = .int .i64 j ∧ wr.ownsRow w.heap.size 3 1 va (filI (l.take j) m).length (intCells (filI (l.take j) m))) (fun _ iv _ => l.length - (intOf iv).toNat)
  case atStart => exact ⟨Below.refl _ _, 0, by omega, rfl, World.ownsRow_nil _ _ _ _⟩
  case round =>
    obtain ⟨hbw, j, hj, rfl, hown⟩ := hrel
    by_cases hjl : j < l.length
    · obtain ⟨gb, go, rfl, hgb4, hc1⟩ := (h.below (hbw.mono hB)).at_ hjl
      have hsu := filI_succ (m := m) hjl
      have hlf : (filI (l.take j) m).length ≤ j := by
        have := List.length_filter_le (fun a : Int => !(a == m)) (l.take j)
        unfold filI
        rw [List.length_take] at this
        omega
      have HSU := Lib.hid hsu
      generalize filI (l.take j) m = L at hown HSU hlf
      clear hsu
      generalize l[j] = y at hc1 HSU
      have hj0 : (0 : Int) ≤ (j : Int) := by omega
      by_cases hm : y = m
      · have hm2 : (y != m) = false := by simpa using hm
        have hm1 : (y == m) = true := by simpa using hm
        clear hm
        go_wp2_with fail
        go_roundw
        case rel => exact ⟨hbw, j + 1, by omega, by go_num, by rw [HSU.out, if_pos hm1, List.append_nil]; exact hown⟩
        case measure => simp [intOf]; omega
      · have hm1 : (y == m) = false := by simpa using hm
        have hm2 : (y != m) = true := by simpa using hm
        clear hm
        go_wp2_with (at_builtin; refine wpList_append_src rfl (.tmp 19) (.tmp 24) 26 rfl w.heap.size 3 ii _ 1 8 Try.underlying26 ii0 iiz ii1 ii2 rfl (by decide) u5 L.length (intCells L) rfl (World.ownsRow.alloc hown _) (some ⟨wr.heap.size, 0, none⟩) 1 1 [.int .i64 y] rfl rfl (fun _ => ⟨_, rfl, World.news_of_block (heap_alloc_new wr _)⟩) (by simp [Value.oneCell']) (by simp only [maxLen]; omega) (by omega) (by have := hbw.size; simp; omega) ?_; intro T9 c9 w9 hown9 hg9 hat9)
        go_roundw
        case rel =>
          refine ⟨(hbw.alloc hbw.size _).grown hg9 (by have := hbw.size; simp; omega) (fun bb e => (hown.lt bb e).1), j + 1, by omega, by go_num, ?_⟩
          rw [HSU.out, if_neg (by rw [hm1]; simp), List.length_append, ← intCells_append]
          exact hown9
        case measure => simp [intOf]; omega
    · obtain rfl : j = l.length := by omega
      rw [List.take_length] at hown
      obtain ⟨Tv, cv, rfl⟩ := owns_slice hown
      have HOW := Lib.hid hown
      clear hown
      go_wp2_with fail
      go_ret
      exact ⟨⟨_, _, rfl, HOW.out⟩, hbw⟩
set_option maxRecDepth 100000 in
set_option maxHeartbeats 1000000 in
theorem Remove_c (A : Option Addr) (c : Nat) (l : List GNode) (k : Int) (w : World) (B : Nat) (hB : B ≤ w.heap.size) (hs : ∀ n ∈ l, NodeSmall reachBytes n) (hll : l.length * 88 ≤ reachBytes) (h : NodesAt w B A l) (E : Int) (hE : E = remE l k) :
    Calls Try.prog 31 #[.slice A l.length c, .int .i64 k] w fun e w' => ∃ v, e = .returned (.tuple #[v, .int .i64 E]) ∧ DocOut w w' E (remL l k) v := by
  have hll' : l.length ≤ 4611686018427387904 := by unfold reachBytes at hll; omega
  have HS := Lib.hid hs
  have hal : ∀ i (h : i < l.length), l[i].kids.length * 8 ≤ 140737488355328 := fun i hi => by have := (hs _ (List.getElem_mem hi)).kids; unfold reachBytes at this; omega
  have HAL := Lib.hid hal
  clear hal
  unfold remE at hE
  by_cases h1 : hasB l k = false
  · obtain rfl : E = 4 := by rw [hE, if_pos h1]
    clear hE
    go_enter Try.func31, Try.ntmps31
    go_wp2_with (go_at_call 62; refine (has_c A c l k w B hB HS.out hll' h).mono ?_; rintro e w1 ⟨rfl, hb1⟩)
    go_ret2
    exact ⟨_, rfl, DocOut.no (by omega) hb1⟩
  have hh : hasB l k = true := by simpa using h1
  rw [if_neg h1] at hE
  obtain ⟨hi, hr⟩ := hasB_iff.1 hh
  obtain ⟨q, rfl, hq⟩ := is_nat hi
  have hpl : parOf l (q : Int) < l.length := by have := climb_rg hr (k := (q : Int)) (by omega) 1; rwa [show (1 : Nat) = 0 + 1 from rfl, climb_succ (m := 0) (by show ¬ (q : Int) < 0; omega)] at this
  obtain ⟨b, o, rfl, hbB, -⟩ := h.at_ hq
  have hpos : 0 < l.length := by omega
  have h400 : l.length ≤ 400 := by obtain ⟨⟨_, h2, _⟩, _⟩ := hr; exact h2
  have hq0 : (0 : Int) ≤ (q : Int) := by omega
  have HPA := Lib.hid (parOf_at hq)
  by_cases e1 : parOf l (q : Int) < 0
  · obtain rfl : E = 8 := by rw [hE, if_pos e1]
    have e1' : l[q].parent < 0 := by rw [← HPA.out]; exact e1
    clear hE e1 h1 hr hi hpl
    go_enter Try.func31, Try.ntmps31
    go_wp2_with ((go_at_call 62; refine (has_c _ c l q w B hB HS.out hll' h).mono ?_; rintro e w1 ⟨rfl, hb1⟩; obtain ⟨T1, ac1, K1, kc1, -, -, -, x3, -, -, -, -, -⟩ := (h.below (hb1.mono hB)).at2 hq; have hz1 : B ≤ w1.heap.size := (by have := hb1.size; omega)))
    go_ret2
    exact ⟨_, rfl, DocOut.no (by omega) hb1⟩
  obtain rfl : E = 0 := by rw [hE, if_neg e1]
  clear hE h1 hi
  obtain ⟨pn, hpn⟩ : ∃ pn : Nat, parOf l (q : Int) = pn := ⟨(parOf l (q : Int)).toNat, by omega⟩
  have hpnl : pn < l.length := by omega
  have hpq : l[q].parent = (pn : Int) := by rw [← HPA.out]; exact hpn
  have e1' : decide ((pn : Int) < 0) = false := decide_eq_false (by omega)
  have hpn0 : (0 : Int) ≤ (pn : Int) := by omega
  have HPN := Lib.hid hpn
  have HPL := Lib.hid hpl
  have HE1 := Lib.hid e1
  have hkl := HAL.out pn hpnl
  have HRM := Lib.hid (show remL l q = putParent (putKids l pn (filI l[pn].kids q)) q (-1) by unfold remL; rw [hpn, kidsOf_at hpnl, Int.toNat_natCast, Int.toNat_natCast])
  clear hpn hpl e1 hr
  go_enter Try.func31, Try.ntmps31
  go_wp2_with (first | (go_at_call 62; refine (has_c _ c l q w B hB HS.out hll' h).mono ?_; rintro e w1 ⟨rfl, hb1⟩; obtain ⟨T1, ac1, K1, kc1, -, -, -, x3, -, -, -, -, -⟩ := (h.below (hb1.mono hB)).at2 hq; rw [hpq] at x3; have hz1 : B ≤ w1.heap.size := (by have := hb1.size; omega)) | (go_at_call 64; refine (copied_c _ c l w1 B hz1 HS.out hpos (by omega) (h.below (hb1.mono hB))).mono ?_; rintro e w3 ⟨v3, rfl, ⟨own3, xs3, hd3⟩, hb3⟩; obtain ⟨g, cap, rfl, hgb, hgl, -⟩ := owns_form hd3.row (by omega)) | (go_at_call 65; refine (take_c g cap l q hq HPL.out (fun i hi => by have := HAL.out i hi; omega) w3 w1.heap.size own3 xs3 hd3).mono ?_; rintro e w4 ⟨rfl, hd4, hz4, hb4⟩; rw [if_neg (by have := HE1.out; omega)] at hd4))
  go_ret2
  exact ⟨_, rfl, ⟨hd4.base hb1.size, hb1.trans ((hb3.trans (hb4 hb3.size)).mono hb1.size)⟩⟩
set_option maxRecDepth 100000 in
set_option maxHeartbeats 1000000 in
theorem rRemove_c (A : Option Addr) (c : Nat) (l : List GNode) (k : Int) (w : World) (B : Nat) (hB : B ≤ w.heap.size) (hs : ∀ n ∈ l, NodeSmall reachBytes n) (hll : l.length * 88 ≤ reachBytes) (h : NodesAt w B A l) (E : Int) (hE : E = remE l k) :
    Calls Try.prog 32 #[.slice A l.length c, .int .i64 k] w fun e w' => ∃ v, e = .returned (.tuple #[v, .int .i64 E]) ∧ DocOut w w' E (remL l k) v := by
  have hll' : l.length ≤ 4611686018427387904 := by unfold reachBytes at hll; omega
  have HS := Lib.hid hs
  have hal : ∀ i (h : i < l.length), l[i].kids.length * 8 ≤ 140737488355328 := fun i hi => by have := (hs _ (List.getElem_mem hi)).kids; unfold reachBytes at this; omega
  have HAL := Lib.hid hal
  clear hal
  unfold remE at hE
  by_cases h1 : hasB l k = false
  · obtain rfl : E = 4 := by rw [hE, if_pos h1]
    clear hE
    go_enter Try.func32, Try.ntmps32
    go_wp2_with (go_at_call 40; refine (rHas_c A c l k w B hB HS.out hll' h).mono ?_; rintro e w1 ⟨rfl, hb1⟩)
    go_ret2
    exact ⟨_, rfl, DocOut.no (by omega) hb1⟩
  have hh : hasB l k = true := by simpa using h1
  rw [if_neg h1] at hE
  obtain ⟨hi, hr⟩ := hasB_iff.1 hh
  obtain ⟨q, rfl, hq⟩ := is_nat hi
  have hpl : parOf l (q : Int) < l.length := by have := climb_rg hr (k := (q : Int)) (by omega) 1; rwa [show (1 : Nat) = 0 + 1 from rfl, climb_succ (m := 0) (by show ¬ (q : Int) < 0; omega)] at this
  obtain ⟨b, o, rfl, hbB, -⟩ := h.at_ hq
  have hpos : 0 < l.length := by omega
  have h400 : l.length ≤ 400 := by obtain ⟨⟨_, h2, _⟩, _⟩ := hr; exact h2
  have hq0 : (0 : Int) ≤ (q : Int) := by omega
  have HPA := Lib.hid (parOf_at hq)
  by_cases e1 : parOf l (q : Int) < 0
  · obtain rfl : E = 8 := by rw [hE, if_pos e1]
    have e1' : l[q].parent < 0 := by rw [← HPA.out]; exact e1
    clear hE e1 h1 hr hi hpl
    go_enter Try.func32, Try.ntmps32
    go_wp2_with ((go_at_call 40; refine (rHas_c _ c l q w B hB HS.out hll' h).mono ?_; rintro e w1 ⟨rfl, hb1⟩; obtain ⟨T1, ac1, K1, kc1, -, -, -, x3, -, -, -, -, -⟩ := (h.below (hb1.mono hB)).at2 hq; have hz1 : B ≤ w1.heap.size := (by have := hb1.size; omega)))
    go_ret2
    exact ⟨_, rfl, DocOut.no (by omega) hb1⟩
  obtain rfl : E = 0 := by rw [hE, if_neg e1]
  clear hE h1 hi
  obtain ⟨pn, hpn⟩ : ∃ pn : Nat, parOf l (q : Int) = pn := ⟨(parOf l (q : Int)).toNat, by omega⟩
  have hpnl : pn < l.length := by omega
  have hpq : l[q].parent = (pn : Int) := by rw [← HPA.out]; exact hpn
  have e1' : decide ((pn : Int) < 0) = false := decide_eq_false (by omega)
  have hpn0 : (0 : Int) ≤ (pn : Int) := by omega
  have HPN := Lib.hid hpn
  have HPL := Lib.hid hpl
  have HE1 := Lib.hid e1
  have hkl := HAL.out pn hpnl
  have HRM := Lib.hid (show remL l q = putParent (putKids l pn (filI l[pn].kids q)) q (-1) by unfold remL; rw [hpn, kidsOf_at hpnl, Int.toNat_natCast, Int.toNat_natCast])
  clear hpn hpl e1 hr
  go_enter Try.func32, Try.ntmps32
  go_wp2_with (first | (go_at_call 40; refine (rHas_c _ c l q w B hB HS.out hll' h).mono ?_; rintro e w1 ⟨rfl, hb1⟩; obtain ⟨T1, ac1, K1, kc1, -, -, -, x3, -, -, -, -, -⟩ := (h.below (hb1.mono hB)).at2 hq; rw [hpq] at x3; have hz1 : B ≤ w1.heap.size := (by have := hb1.size; omega)) | (go_at_call 22; refine (rCopied_c _ c l w1 B hz1 HS.out hll (h.below (hb1.mono hB))).mono ?_; rintro e w3 ⟨v3, rfl, ⟨own3, xs3, hd3⟩, hb3⟩; obtain ⟨g, cap, rfl, hgb, hgl, -⟩ := owns_form hd3.row (by omega); obtain ⟨T4, ac4, K4, kc4, hseg, hno⟩ := hd3.node pn _ (List.getElem?_eq_getElem hpnl); have z4 : w3.cell? ⟨g, pn * 5 + 4, none⟩ = some (.slice K4 l[pn].kids.length kc4) := (hd3.row.cellAt _ (by omega)).trans (seg_get hseg (by omega)); have f4 := owns_frozen hd3.row (pn * 5 + 4)) | (go_at_call 66; refine (without_c K4 kc4 l[pn].kids q w3 _ (Nat.le_refl _) hkl (ints_of_owns hno.kids)).mono ?_; rintro e w9 ⟨⟨T9, c9, rfl, hown9⟩, hb9⟩; have z9 := (hb9.cell (p := ⟨g, pn * 5 + 4, none⟩) hgl).trans z4; have u9 := (hb9.frozen (p := ⟨g, pn * 5 + 4, none⟩) hgl).trans f4; obtain ⟨own', hd'⟩ := hd3.kids_ hpnl hseg hno (grown_of_below hb9) (fun bb e => by cases e) (owns_baseMono hown9 hb3.size) (fun bb e => .inr (hown9.lt bb e).1); have hq' : q < (putKids l pn (filI l[pn].kids q)).length := (by rw [putKids_len]; exact hq); obtain ⟨T6, ac6, K6, kc6, hseg6, -⟩ := hd'.node q _ (List.getElem?_eq_getElem hq'); have hrow6 := hd'.row; rw [putKids_len] at hrow6; have z6 := (hrow6.cellAt (q * 5 + 3) (by omega)).trans (seg_get hseg6 (by omega)); have f6 := owns_frozen hrow6 (q * 5 + 3); have z7 : (w9.setCell ⟨g, pn * 5 + 4, none⟩ (.slice T9 (filI l[pn].kids q).length c9)).cell? ⟨g, q * 5 + 3, none⟩ = some (.int .i64 (putKids l pn (filI l[pn].kids q))[q].parent) := z6))
  have hlen : (putKids l pn (filI l[pn].kids q)).length = l.length := putKids_len _ _ _
  rw [← hlen] at hd'
  have hfin := hd'.parent hq' (-1)
  rw [hlen, ← HRM.out] at hfin
  go_ret2
  exact ⟨_, rfl, ⟨DocAt.base ⟨_, _, hfin⟩ hb1.size, hb1.trans ((((hb3.trans (hb9.mono hb3.size)).setCell (by show w1.heap.size ≤ g; exact hgb) _).setCell (by show w1.heap.size ≤ g; exact hgb) _).mono hb1.size)⟩⟩
end Go.Proofs.Ytpgcaehbbdnhiaa

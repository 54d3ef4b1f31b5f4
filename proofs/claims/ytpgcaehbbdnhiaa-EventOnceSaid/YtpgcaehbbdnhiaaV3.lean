/- The document's Path. -/
import Derived.Test.YtpgcaehbbdnhiaaV2
namespace Go.Proofs.Ytpgcaehbbdnhiaa
open Go.RowKit
theorem filt_next {p : Int → Bool} {O : List Int} {i : Nat} (h : i < O.length) : (O.take (i + 1)).filter p = (O.take i).filter p ++ (if p O[i] then [O[i]] else []) := by
  rw [List.take_succ_eq_append_getElem h, List.filter_append]
  congr 1
  by_cases e : p O[i] = true
  · rw [if_pos e, List.filter_cons_of_pos e, List.filter_nil]
  · rw [if_neg e, List.filter_cons_of_neg e, List.filter_nil]
theorem filt_le {p : Int → Bool} (O : List Int) (i : Nat) : ((O.take i).filter p).length ≤ O.length := by
  have h1 := List.length_filter_le p (O.take i)
  rw [List.length_take] at h1
  omega
set_option maxRecDepth 100000 in
set_option maxHeartbeats 1000000 in
theorem rPathOk_c (A : Option Addr) (c : Nat) (l : List GNode) (hr : RightP l) (t : Int) (ht : Is l t) (w : World) (B : Nat) (hB : B ≤ w.heap.size) (hs : ∀ n ∈ l, NodeSmall reachBytes n) (h : NodesAt w B A l) :
    Calls Try.prog 23 #[.slice A l.length c, .int .i64 t] w fun e w' => ∃ v L, e = .returned v ∧ PathP l t L ∧ OwnInts w' w.heap.size v L ∧ Below w.heap.size w w' := by
  obtain ⟨⟨hpos, h400, _⟩, _⟩ := id hr
  have hll : l.length ≤ 4611686018427387904 := by omega
  obtain ⟨b, o, rfl, hbB, -⟩ := h.at_ hpos
  have hhb := hasB_yes ht hr
  have HT := Lib.hid ht
  have HPR := Lib.hid (fun r => path_ref hr ht (r := r))
  have HOL := Lib.hid (fun r => ord_length hr (k := r))
  have HOM := Lib.hid (fun r => ord_mem hr (k := r))
  have HOW := Lib.hid (fun x => onWay_eq (l := l) (x := x) ht.1)
  have HWI := Lib.hid (fun x w h => Within_c (some ⟨b, o, none⟩) c l hr t x ht w B h)
  have hcur : Below w.heap.size w w := Below.refl _ _
  obtain ⟨ii, ii0, iiz, ii1, ii2⟩ := info_parts info_int
  clear ht
  go_enter Try.func23, Try.ntmps23
  go_wp2_with (first | (go_at_call 40; refine (rHas_c _ c l t _ B hB hs hll h).mono ?_; rw [hhb]; rintro e w1 ⟨rfl, hb1⟩; replace hcur := hcur.trans (hb1.mono hcur.size); clear hb1) | (go_at_call 46; refine (rTop_c _ c l hr t HT.out _ B (h.below (hcur.mono hB))).mono ?_; rintro e w2 ⟨r, rfl, htp, hb2⟩; replace hcur := hcur.trans (hb2.mono hcur.size); clear hb2) | (go_at_call 45; refine (rOrder_c _ c l hr r htp.1 _ B (by have := hcur.size; omega) (h.below (hcur.mono hB))).mono ?_; rintro e w3 ⟨v3, rfl, ho3, hb3⟩; replace ho3 : OwnInts w3 w.heap.size v3 (ordL l r) := owns_baseMono ho3 hcur.size; replace hcur := hcur.trans (hb3.mono hcur.size); clear hb3))
  have HPA := Lib.hid (HPR.out r htp)
  have hol := HOL.out r htp.1
  have HM := Lib.hid (HOM.out r htp.1)
  generalize ordL l r = O at ho3 HPA hol HM
  have HPT := Lib.hid (show ∀ (i : Nat) (h : i < O.length), (O.take (i + 1)).filter (onWayB l t) = (O.take i).filter (onWayB l t) ++ (if onWayB l t O[i] then [O[i]] else []) from fun _ h => filt_next h)
  have HFL := Lib.hid (filt_le (p := onWayB l t) O)
  clear htp
  obtain ⟨T3, c3, rfl⟩ := owns_slice ho3
  go_loopw [5, 7] (fun v iv wr => Below w.heap.size w wr ∧ OwnInts wr w.heap.size (.slice T3 O.length c3) O ∧ (∀ g, (Value.slice T3 O.length c3).ownBlock = some g → ¬ v.ownBlock = some g) ∧ ∃ i : Nat, i ≤ O.length ∧ iv = .int .i64 i ∧ OwnInts wr w.heap.size v ((O.take i).filter (onWayB l t))) (fun _ iv _ => O.length - (intOf iv).toNat)
  case atStart => exact ⟨hcur, ho3, fun g e => (by intro h; cases h), 0, by omega, rfl, World.ownsRow_nil _ _ _ _⟩
  case round =>
    obtain ⟨hbw, ho, hsep, i, hi, rfl, hown⟩ := hrel
    have HO := Lib.hid ho
    have HSEP := Lib.hid hsep
    clear hsep
    by_cases hlt : i < O.length
    · obtain ⟨g, cap, hT, hgb, hgl, hgc⟩ := owns_form ho (by omega)
      injection hT with hT1 hT2 hT3
      subst hT1 hT3
      have hc := hgc i (by omega)
      rw [show (intCells O)[i]? = some (.int .i64 O[i]) by simp [intCells, hlt]] at hc
      have HN := Lib.hid (HPT.out i hlt)
      have HX := Lib.hid (HOW.out O[i])
      have hL := HFL.out i
      generalize (O.take i).filter (onWayB l t) = L at hown HN hL
      generalize O[i] = x at hc HN HX
      obtain ⟨Tn, cn, rfl⟩ := owns_slice hown
      clear hgc ho
      by_cases he : x = t
      · have HN2 := Lib.hid (HN.out.trans (show _ = L ++ [x] by rw [HX.out, he]; simp))
        have he' : (x == t) = true := by simpa using he
        clear he HN HX
        have hin : true = true := rfl
        go_wp2_with (first | (go_at_call 55; refine (HWI.out x wr (h.below (hbw.mono hB)) true hin.symm).mono ?_; rintro e w5 ⟨rfl, rfl⟩) | (at_builtin; refine wpList_append_src rfl (.tmp 39) (.tmp 44) 26 rfl w.heap.size 3 ii _ 1 8 Try.underlying26 ii0 iiz ii1 ii2 rfl (by decide) (.slice Tn L.length cn) L.length (intCells L) rfl (World.ownsRow.alloc hown _) (some ⟨wr.heap.size, 0, none⟩) 1 1 [.int .i64 x] rfl rfl (fun _ => ⟨_, rfl, World.news_of_block (heap_alloc_new wr _)⟩) (by simp [Value.oneCell']) (by simp only [maxLen]; omega) (by omega) (by have := hbw.size; simp; omega) ?_; intro T9 c9 w9 hown9 hg9 hat9))
        go_roundw
        case rel =>
          refine ⟨(hbw.alloc hbw.size _).grown hg9 (by have := hbw.size; simp; omega) (fun g e => (hown.lt g e).1), World.ownsRow.kept (World.ownsRow.alloc HO.out _) hg9 (.inr (fun e2 => HSEP.out g rfl e2.symm)), fun g' e e2 => ?_, i + 1, by omega, by go_num, ?_⟩
          · rcases hat9 g' e2 with h1 | h1
            · exact HSEP.out g' e h1
            · have := (World.ownsRow.lt HO.out g' e).2
              simp at h1
              omega
          · rw [HN2.out]
            unfold OwnInts
            rw [List.length_append, ← intCells_append]
            exact hown9
        case measure => simp [intOf]; omega
      · have he' : (x == t) = false := by simpa using he
        clear he
        cases hin : insideB l (parOf l t) x with
        | true =>
          have HN2 := Lib.hid (HN.out.trans (show _ = L ++ [x] by rw [HX.out, hin]; simp))
          clear HN HX
          go_wp2_with (first | (go_at_call 55; refine (HWI.out x wr (h.below (hbw.mono hB)) true hin.symm).mono ?_; rintro e w5 ⟨rfl, rfl⟩) | (at_builtin; refine wpList_append_src rfl (.tmp 39) (.tmp 44) 26 rfl w.heap.size 3 ii _ 1 8 Try.underlying26 ii0 iiz ii1 ii2 rfl (by decide) (.slice Tn L.length cn) L.length (intCells L) rfl (World.ownsRow.alloc hown _) (some ⟨wr.heap.size, 0, none⟩) 1 1 [.int .i64 x] rfl rfl (fun _ => ⟨_, rfl, World.news_of_block (heap_alloc_new wr _)⟩) (by simp [Value.oneCell']) (by simp only [maxLen]; omega) (by omega) (by have := hbw.size; simp; omega) ?_; intro T9 c9 w9 hown9 hg9 hat9))
          go_roundw
          case rel =>
            refine ⟨(hbw.alloc hbw.size _).grown hg9 (by have := hbw.size; simp; omega) (fun g e => (hown.lt g e).1), World.ownsRow.kept (World.ownsRow.alloc HO.out _) hg9 (.inr (fun e2 => HSEP.out g rfl e2.symm)), fun g' e e2 => ?_, i + 1, by omega, by go_num, ?_⟩
            · rcases hat9 g' e2 with h1 | h1
              · exact HSEP.out g' e h1
              · have := (World.ownsRow.lt HO.out g' e).2
                simp at h1
                omega
            · rw [HN2.out]
              unfold OwnInts
              rw [List.length_append, ← intCells_append]
              exact hown9
          case measure => simp [intOf]; omega
        | false =>
          have HN2 := Lib.hid (HN.out.trans (show _ = L ++ [] by rw [HX.out, hin, he']; simp))
          clear HN HX
          go_wp2_with (go_at_call 55; refine (HWI.out x wr (h.below (hbw.mono hB)) false hin.symm).mono ?_; rintro e w5 ⟨rfl, rfl⟩)
          go_roundw
          case rel => exact ⟨hbw, HO.out, HSEP.out, i + 1, by omega, by go_num, by rw [HN2.out, List.append_nil]; exact hown⟩
          case measure => simp [intOf]; omega
    · obtain rfl : i = O.length := by omega
      rw [List.take_length] at hown
      go_wp2_with fail
      go_ret
      exact ⟨_, _, rfl, HPA.out, hown, hbw⟩
theorem rPathNo_c (A : Option Addr) (c : Nat) (l : List GNode) (t : Int) (hn : hasB l t = false) (w : World) (B : Nat) (hB : B ≤ w.heap.size) (hll : l.length ≤ 4611686018427387904) (hs : ∀ n ∈ l, NodeSmall reachBytes n) (h : NodesAt w B A l) :
    Calls Try.prog 23 #[.slice A l.length c, .int .i64 t] w fun e w' => e = .returned (.slice none 0 0) ∧ Below w.heap.size w w' := by
  go_enter Try.func23, Try.ntmps23
  go_wp2_with (go_at_call 40; refine (rHas_c _ c l t _ B hB hs hll h).mono ?_; rw [hn]; rintro e w1 ⟨rfl, hb1⟩)
  go_ret
  exact ⟨rfl, hb1⟩
end Go.Proofs.Ytpgcaehbbdnhiaa

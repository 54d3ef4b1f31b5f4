/- The law TreeAsks, walked. -/
import Derived.Test.YtpgcaehbbdnhiaaN4
namespace Go.Proofs.Ytpgcaehbbdnhiaa
open Go.RowKit
set_option maxRecDepth 100000 in
theorem Top_no (A : Option Addr) (c : Nat) (l : List GNode) (k : Int) (hh : hasB l k = false) (w : World) (B : Nat) (hB : B ≤ w.heap.size) (hs : ∀ n ∈ l, NodeSmall reachBytes n) (hll : l.length ≤ 4611686018427387904) (h : NodesAt w B A l) :
    Calls Try.prog 41 #[.slice A l.length c, .int .i64 k] w fun e w' => e = .returned (.int .i64 (-1)) ∧ Below w.heap.size w w' := by
  go_enter Try.func41, Try.ntmps41
  go_wp2_with (go_at_call 62; refine (has_c A c l k w B hB hs hll h).mono ?_; rintro e w1 ⟨rfl, hb1⟩)
  go_ret
  exact ⟨rfl, hb1⟩
set_option maxRecDepth 100000 in
theorem Up_no (A : Option Addr) (c : Nat) (l : List GNode) (k : Int) (nm : ByteArray) (hh : hasB l k = false) (w : World) (B : Nat) (hB : B ≤ w.heap.size) (hs : ∀ n ∈ l, NodeSmall reachBytes n) (hll : l.length ≤ 4611686018427387904) (h : NodesAt w B A l) :
    Calls Try.prog 42 #[.slice A l.length c, .int .i64 k, .string nm] w fun e w' => e = .returned (.int .i64 (-1)) ∧ Below w.heap.size w w' := by
  go_enter Try.func42, Try.ntmps42
  go_wp2_with (go_at_call 62; refine (has_c A c l k w B hB hs hll h).mono ?_; rintro e w1 ⟨rfl, hb1⟩)
  go_ret
  exact ⟨rfl, hb1⟩
set_option maxRecDepth 100000 in
theorem Text_no (A : Option Addr) (c : Nat) (l : List GNode) (k : Int) (hh : hasB l k = false) (w : World) (B : Nat) (hB : B ≤ w.heap.size) (hs : ∀ n ∈ l, NodeSmall reachBytes n) (hll : l.length ≤ 4611686018427387904) (h : NodesAt w B A l) :
    Calls Try.prog 43 #[.slice A l.length c, .int .i64 k] w fun e w' => e = .returned (.string ⟨#[]⟩) ∧ Below w.heap.size w w' := by
  go_enter Try.func43, Try.ntmps43
  go_wp2_with (go_at_call 62; refine (has_c A c l k w B hB hs hll h).mono ?_; rintro e w1 ⟨rfl, hb1⟩)
  go_ret
  exact ⟨rfl, hb1⟩
set_option maxRecDepth 100000 in
set_option maxHeartbeats 4000000 in
theorem TreeAsks_w (a : Option Addr × List GNode × Nat) (k : Int) (nm : ByteArray) (w : World) (hd : DocIn w a.1 a.2.1) (_hkw : (Lit.int .i64 k).wf = true) (_hnms : nm.size ≤ reachBytes) :
    Calls Try.prog 13 #[.slice a.1 a.2.1.length a.2.2, .int .i64 k, .string nm] w fun e w' => e = .returned (.bool true) ∧ Below w.heap.size w w' := by
  obtain ⟨A, l, c⟩ := a
  dsimp only at hd ⊢
  obtain ⟨h, -, hs, hln⟩ := hd
  have hll : l.length ≤ 4611686018427387904 := by unfold reachBytes at hln; omega
  have hcur : Below w.heap.size w w := Below.refl _ _

  by_cases hh : hasB l k = true
  · obtain ⟨hi, hr⟩ := hasB_iff.1 hh
    have hol : (ordL l k).length ≤ 4611686018427387904 := by have := ord_length hr hi; omega
    have HO := Lib.hid (show (if hasB l k = true then ordL l k else []) = ordL l k from if_pos hh)
    have HA := Lib.hid (show (if hasB l k = true then aVal (attrsOf l k) nm.toList else none) = aVal (attrsOf l k) nm.toList from if_pos hh)
    obtain ⟨av, hav⟩ : ∃ av, aVal (attrsOf l k) nm.toList = av := ⟨_, rfl⟩
    have HAV := Lib.hid hav
    clear hav
    go_enter Try.func13, Try.ntmps13
    go_wp2_with (first | (go_at_call 27; refine (wakes_c _).mono ?_; rintro e w1 ⟨rfl, hb1⟩; replace hcur := hcur.trans (hb1.mono hcur.size); clear hb1) | (go_at_call 22; refine (rCopied_c A c l _ w.heap.size hcur.size hs hln (h.below hcur)).mono ?_; rintro e w2 ⟨v, rfl, hdoc, hb2⟩; replace hcur := hcur.trans (hb2.mono hcur.size); clear hb2; obtain ⟨A2, c2, rfl, hn2, -⟩ := hdoc.nodes; have hw2 := Below.refl w2.heap.size w2) | (go_at_call 39; refine (Attr_c A2 c2 l k nm _ _ hw2.size hs hll (hn2.below hw2)).mono ?_; rw [HA.out, HAV.out]; rintro e w3 ⟨rfl, hb3⟩; replace hcur := hcur.trans (hb3.mono hcur.size); replace hw2 := hw2.trans (hb3.mono hw2.size); clear hb3) | (go_at_call 40; refine (rHas_c A c l k _ w.heap.size hcur.size hs hll (h.below hcur)).mono ?_; rintro e w4 ⟨rfl, hb4⟩; replace hcur := hcur.trans (hb4.mono hcur.size); replace hw2 := hw2.trans (hb4.mono hw2.size); clear hb4) | (go_at_call 44; refine (rAttr_c A c l k hi nm _ w.heap.size hs (h.below hcur)).mono ?_; rw [HAV.out]; rintro e w5 ⟨rfl, rfl⟩) | (go_at_call 30; refine (Order_c A2 c2 l k _ _ hw2.size hs hll (hn2.below hw2)).mono ?_; rw [HO.out]; rintro e w6 ⟨v6, rfl, ho6, hb6⟩; obtain ⟨T6, c6, rfl⟩ := owns_slice ho6; replace hcur := hcur.trans (hb6.mono hcur.size); replace hw2 := hw2.trans (hb6.mono hw2.size); clear hb6) | (go_at_call 45; refine (rOrder_c A c l hr k hi _ w.heap.size hcur.size (h.below hcur)).mono ?_; rintro e w7 ⟨v7, rfl, ho7, hb7⟩; obtain ⟨T7, c7, rfl⟩ := owns_slice ho7; replace hcur := hcur.trans (hb7.mono hcur.size); replace hw2 := hw2.trans (hb7.mono hw2.size); have hi6 := (ho6.ints.below hb7).mono hb7.size) | (go_at_call 20; refine (SameInts_c T6 c6 (ordL l k) T7 c7 (ordL l k) _ _ (Nat.le_refl _) hol hol hi6 ho7.ints).mono ?_; rintro e w8 ⟨rfl, hb8⟩; replace hcur := hcur.trans (hb8.mono hcur.size); replace hw2 := hw2.trans (hb8.mono hw2.size); clear hb8) | (go_at_call 41; refine (Top_c A2 c2 l hr k hi _ _ hw2.size hs (hn2.below hw2)).mono ?_; rintro e w9 ⟨r9, rfl, ht9, hb9⟩; replace hcur := hcur.trans (hb9.mono hcur.size); replace hw2 := hw2.trans (hb9.mono hw2.size); clear hb9) | (go_at_call 46; refine (rTop_c A c l hr k hi _ w.heap.size (h.below hcur)).mono ?_; rintro e w10 ⟨r10, rfl, ht10, hb10⟩; obtain rfl := top_same ht9 ht10; replace hcur := hcur.trans (hb10.mono hcur.size); replace hw2 := hw2.trans (hb10.mono hw2.size); clear hb10) | (go_at_call 42; refine (Up_c A2 c2 l hr k hi nm _ _ hw2.size hs (hn2.below hw2)).mono ?_; rintro e w11 ⟨r11, rfl, ht11, hb11⟩; replace hcur := hcur.trans (hb11.mono hcur.size); replace hw2 := hw2.trans (hb11.mono hw2.size); clear hb11) | (go_at_call 47; refine (rUp_c A c l hr k hi nm _ w.heap.size (h.below hcur)).mono ?_; rintro e w12 ⟨r12, rfl, ht12, hb12⟩; obtain rfl := up_same ht11 ht12; replace hcur := hcur.trans (hb12.mono hcur.size); replace hw2 := hw2.trans (hb12.mono hw2.size); clear hb12) | (go_at_call 43; refine (Text_c A2 c2 l hr k hi _ _ hw2.size hs (hn2.below hw2)).mono ?_; rintro e w13 ⟨⟨s13, rfl, ht13⟩, hb13⟩; replace hcur := hcur.trans (hb13.mono hcur.size); replace hw2 := hw2.trans (hb13.mono hw2.size); clear hb13) | (go_at_call 48; refine (rText_c A c l hr k hi _ w.heap.size (h.below hcur)).mono ?_; rintro e w14 ⟨⟨s14, rfl, ht14⟩, hb14⟩; obtain rfl := ba_ext (ht13.trans ht14.symm); replace hcur := hcur.trans (hb14.mono hcur.size); clear hb14))
    go_ret
    exact ⟨by simp, hcur⟩
  · have hh' : hasB l k = false := by simpa using hh
    have HO := Lib.hid (show (if hasB l k = true then ordL l k else []) = [] from if_neg hh)
    have HA := Lib.hid (show (if hasB l k = true then aVal (attrsOf l k) nm.toList else none) = none from if_neg hh)
    have HE : (⟨#[]⟩ : ByteArray).toList.isEmpty = true := by rw [ba_nil]; rfl
    clear hh
    go_enter Try.func13, Try.ntmps13
    go_wp2_with (first | (go_at_call 27; refine (wakes_c _).mono ?_; rintro e w1 ⟨rfl, hb1⟩; replace hcur := hcur.trans (hb1.mono hcur.size); clear hb1) | (go_at_call 22; refine (rCopied_c A c l _ w.heap.size hcur.size hs hln (h.below hcur)).mono ?_; rintro e w2 ⟨v, rfl, hdoc, hb2⟩; replace hcur := hcur.trans (hb2.mono hcur.size); clear hb2; obtain ⟨A2, c2, rfl, hn2, -⟩ := hdoc.nodes; have hw2 := Below.refl w2.heap.size w2) | (go_at_call 39; refine (Attr_c A2 c2 l k nm _ _ hw2.size hs hll (hn2.below hw2)).mono ?_; rw [HA.out, show aStr none = ⟨#[]⟩ from rfl]; rintro e w3 ⟨rfl, hb3⟩; replace hcur := hcur.trans (hb3.mono hcur.size); replace hw2 := hw2.trans (hb3.mono hw2.size); clear hb3) | (go_at_call 40; refine (rHas_c A c l k _ w.heap.size hcur.size hs hll (h.below hcur)).mono ?_; rintro e w4 ⟨rfl, hb4⟩; replace hcur := hcur.trans (hb4.mono hcur.size); replace hw2 := hw2.trans (hb4.mono hw2.size); clear hb4) | (go_at_call 30; refine (Order_c A2 c2 l k _ _ hw2.size hs hll (hn2.below hw2)).mono ?_; rw [HO.out]; rintro e w6 ⟨v6, rfl, ho6, hb6⟩; obtain ⟨T6, c6, rfl⟩ := owns_slice ho6; replace hcur := hcur.trans (hb6.mono hcur.size); replace hw2 := hw2.trans (hb6.mono hw2.size); clear hb6) | (go_at_call 41; refine (Top_no A2 c2 l k hh' _ _ hw2.size hs hll (hn2.below hw2)).mono ?_; rintro e w9 ⟨rfl, hb9⟩; replace hcur := hcur.trans (hb9.mono hcur.size); replace hw2 := hw2.trans (hb9.mono hw2.size); clear hb9) | (go_at_call 42; refine (Up_no A2 c2 l k nm hh' _ _ hw2.size hs hll (hn2.below hw2)).mono ?_; rintro e w11 ⟨rfl, hb11⟩; replace hcur := hcur.trans (hb11.mono hcur.size); replace hw2 := hw2.trans (hb11.mono hw2.size); clear hb11) | (go_at_call 43; refine (Text_no A2 c2 l k hh' _ _ hw2.size hs hll (hn2.below hw2)).mono ?_; rintro e w13 ⟨rfl, hb13⟩; replace hcur := hcur.trans (hb13.mono hcur.size); replace hw2 := hw2.trans (hb13.mono hw2.size); clear hb13))
    go_ret
    exact ⟨by simp, hcur⟩
end Go.Proofs.Ytpgcaehbbdnhiaa

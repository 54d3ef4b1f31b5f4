/- The document's Order: with a list of those that are to be gone to. -/
import Derived.Test.YtpgcaehbbdnhiaaO4
namespace Go.Proofs.Ytpgcaehbbdnhiaa
open Go.RowKit
theorem owns_shrink {w : World} {base : Nat} {e : TypeId} {size : Nat} {T : Option Addr} {n c : Nat} {xs : List Value} (h : w.ownsRow base e size (.slice T n c) n xs) {m : Nat} (hm : m ≤ n) (hT : T ≠ none) :
    w.ownsRow base e size (.slice T m c) m (xs.take (m * size)) := by
  have hml : m * size ≤ n * size := Nat.mul_le_mul_right _ hm
  refine ⟨by rw [List.length_take, h.1]; omega, ?_⟩
  rcases h.2 with ⟨h1, _⟩ | ⟨g, cap, cur, e1, hb, hg, hnc, hcm, hcs, htk⟩
  · cases h1; exact absurd rfl hT
  · cases e1
    refine .inr ⟨g, c, cur, rfl, hb, hg, by omega, hcm, hcs, ?_⟩
    rw [← htk, List.take_take, Nat.min_eq_left hml]
def lenV : Value → Nat | .slice _ n _ => n | _ => 0
theorem flat_len {l : List GNode} (hr : RightP l) : ∀ (N : List Int), (∀ x ∈ N, Is l x) → N.length ≤ (N.flatMap (ordL l)).length
  | [], _ => Nat.zero_le _
  | x :: N, h => by
    have h1 := flat_len hr N fun y hy => h y (List.mem_cons_of_mem _ hy)
    have h2 : 1 ≤ (ordL l x).length := by rw [ordL_eq hr (h x (List.mem_cons_self ..))]; simp
    rw [List.flatMap_cons, List.length_append, List.length_cons]
    omega
set_option maxRecDepth 100000 in
set_option maxHeartbeats 4000000 in
theorem rOrder_c (A : Option Addr) (c : Nat) (l : List GNode) (hr : RightP l) (k : Int) (hk : Is l k) (w : World) (B : Nat) (hB : B ≤ w.heap.size) (h : NodesAt w B A l) :
    Calls Try.prog 45 #[.slice A l.length c, .int .i64 k] w fun e w' => ∃ v, e = .returned v ∧ OwnInts w' w.heap.size v (ordL l k) ∧ Below w.heap.size w w' := by
  obtain ⟨⟨hpos, h400, _⟩, _⟩ := id hr
  obtain ⟨b, o, rfl, hbB, -⟩ := h.at_ hpos
  have htot := ord_length hr hk
  obtain ⟨ii, ii0, iiz, ii1, ii2⟩ := info_parts info_int
  have hown0 : OwnInts (w.alloc (.cells #[.int .i64 k] 3)) w.heap.size (.slice (some ⟨w.heap.size, 0, none⟩) 1 1) [k] := World.ownsRow_lit w #[.int .i64 k] 1 (Nat.le_refl _) (by simp only [maxLen]; omega) rfl
  have HO0 := Lib.hid hown0
  have HK := Lib.hid hk
  clear hown0 hk
  go_enter Try.func45, Try.ntmps45
  go_wp2_with fail
  go_loopw [5, 6] (fun vo vn wr => Below w.heap.size w wr ∧ ∃ O N : List Int, OwnInts wr w.heap.size vo O ∧ OwnInts wr w.heap.size vn N ∧ (∀ g, vo.ownBlock = some g → ¬ vn.ownBlock = some g) ∧ (∀ x ∈ N, Is l x) ∧ O ++ N.reverse.flatMap (ordL l) = ordL l k) (fun vo _ _ => (ordL l k).length - lenV vo)
  case atStart => exact ⟨(Below.refl _ _).alloc (Nat.le_refl _) _, [], [k], World.ownsRow_nil _ _ _ _, HO0.out, fun g e => (by cases e), fun x hx => (by rw [List.mem_singleton] at hx; rw [hx]; exact HK.out), by simp⟩
  case round =>
    obtain ⟨hbw, O, N, hO, hN, hsep, hNi, hinv⟩ := hrel
    have HSEP := Lib.hid hsep
    have HNI := Lib.hid hNi
    have HINV := Lib.hid hinv
    have hOl : O.length ≤ (ordL l k).length := by rw [← hinv, List.length_append]; omega
    have hNl : N.length ≤ 400 := by
      have := flat_len hr N.reverse (fun x hx => hNi x (List.mem_reverse.1 hx))
      rw [List.length_reverse] at this
      have e := congrArg List.length hinv
      rw [List.length_append] at e
      omega
    clear hsep hNi hinv
    rcases List.eq_nil_or_concat N with rfl | ⟨N0, x, rfl⟩
    · obtain ⟨To, co, rfl⟩ := owns_slice hO
      obtain ⟨Tn, cn, rfl⟩ := owns_slice hN
      have HR := Lib.hid (show O = ordL l k by have := HINV.out; simpa using this)
      go_wp2_with fail
      go_ret
      exact ⟨_, rfl, by rw [← HR.out]; exact hO, hbw⟩
    · rw [List.concat_eq_append] at *
      have hN' : wr.ownsRow w.heap.size 3 1 u6 (N0.length + 1) (intCells (N0 ++ [x])) := by have := hN; unfold OwnInts at this; rwa [List.length_append] at this
      have hN0l : N0.length ≤ 399 := by rw [List.length_append] at hNl; simp at hNl; omega
      clear hNl hN
      obtain ⟨gn, cn, rfl, hgb, hgl, hgc⟩ := owns_form hN' (by omega)
      have hcx := hgc N0.length (by omega)
      rw [show (intCells (N0 ++ [x]))[N0.length]? = some (.int .i64 x) by simp [intCells]] at hcx
      have hcap := owns_le hN'
      have hcap' : (N0.length : Int) ≤ (cn : Int) := by omega
      obtain ⟨To, co, rfl⟩ := owns_slice hO
      have hix := HNI.out x (by simp)
      obtain ⟨q, rfl, hq⟩ := is_nat hix
      have hkd := kidsOf_at hq
      obtain ⟨T3, ac3, K3, kc3, -, -, -, -, v4, -, hK3, -, -⟩ := (h.below (hbw.mono hB)).at2 hq
      generalize hkds : l[q].kids = kd at v4 hK3 hkd
      clear hkds hgc
      have hkl : kd.length ≤ 400 := by
        have h1 := ord_length hr hix
        rw [ordL_eq hr hix, List.length_cons] at h1
        have h2 := flat_len hr (kidsOf l q) (fun y hy => (kid_is hr hix hy).1)
        rw [hkd] at h2
        rw [hkd] at h1
        omega
      have HKD := Lib.hid hkd
      have hN0 : OwnInts wr w.heap.size (.slice (some ⟨gn, 0, none⟩) N0.length cn) N0 := by
        have := owns_shrink hN' (m := N0.length) (by omega) (by simp)
        unfold OwnInts
        rw [show intCells N0 = (intCells (N0 ++ [(q : Int)])).take (N0.length * 1) by rw [← intCells_append, List.take_left' (by simp [intCells])]]
        exact this
      have hsep0 : ∀ g, (Value.slice To O.length co).ownBlock = some g → g ≠ gn := fun g e e2 => HSEP.out g e (by rw [e2]; rfl)
      have HN0 := Lib.hid hN0
      have HS0 := Lib.hid hsep0
      clear hN0 hsep0 hN' hkd
      have hcxw := hcx
      go_wp2_with (at_builtin; refine wpList_append_src rfl (.tmp 25) (.tmp 27) 26 rfl w.heap.size 3 ii _ 1 8 Try.underlying26 ii0 iiz ii1 ii2 rfl (by decide) (.slice To O.length co) O.length (intCells O) rfl (World.ownsRow.alloc hO _) (some ⟨wr.heap.size, 0, none⟩) 1 1 [.int .i64 q] rfl rfl (fun _ => ⟨_, rfl, World.news_of_block (heap_alloc_new wr _)⟩) (by simp [Value.oneCell']) (by simp only [maxLen]; omega) (by omega) (by have := hbw.size; simp; omega) ?_; intro T9 c9 w9 hown9 hg9 hat9; have v4' := v4; have hbg : b < wr.heap.size := (by have := hbw.size; omega); have y4 : w9.cell? ⟨b, o + q * 5 + 4, none⟩ = some (.slice K3 kd.length kc3) := (by have hb9 : Below w.heap.size w w9 := (hbw.alloc hbw.size _).grown hg9 (by have := hbw.size; simp; omega) (fun g e => (hO.lt g e).1); exact (hb9.cell (p := ⟨b, o + q * 5 + 4, none⟩) (by simp; omega)).trans ((hbw.cell (p := ⟨b, o + q * 5 + 4, none⟩) (by simp; omega)).symm.trans v4)))
      have hsz9 := hg9.size
      have hzz : wr.heap.size + 1 ≤ w9.heap.size := by simpa using hsz9
      have hb9 : Below w.heap.size w w9 := (hbw.alloc hbw.size _).grown hg9 (by have := hbw.size; simp; omega) (fun g e => (hO.lt g e).1)
      have hO9 : OwnInts w9 w.heap.size (.slice T9 (O.length + 1) c9) (O ++ [(q : Int)]) := by
        unfold OwnInts
        rw [List.length_append, ← intCells_append]
        exact hown9
      have hN9 : OwnInts w9 w.heap.size (.slice (some ⟨gn, 0, none⟩) N0.length cn) N0 := World.ownsRow.kept (World.ownsRow.alloc HN0.out _) hg9 (.inr (fun e => HS0.out gn e.symm rfl))
      have hs9 : ∀ g, (Value.slice T9 (O.length + 1) c9).ownBlock = some g → ¬ (Value.slice (some ⟨gn, 0, none⟩) N0.length cn).ownBlock = some g := fun g e e2 => by
        have e3 : gn = g := by simpa [Value.ownBlock] using e2
        rcases hat9 g e with h1 | h1
        · exact HS0.out g h1 e3.symm
        · rw [← e3] at h1; simp at h1; omega
      have HO9 := Lib.hid hO9
      have HN9 := Lib.hid hN9
      have HS9 := Lib.hid hs9
      clear hO9 hN9 hs9 hown9 hg9 hat9 y4 hcx hK3 v4 HN0 HS0 HSEP hO
      go_loopw [6, 8] (fun vn iv wx => Below w.heap.size w wx ∧ OwnInts wx w.heap.size (.slice T9 (O.length + 1) c9) (O ++ [(q : Int)]) ∧ (∀ g, (Value.slice T9 (O.length + 1) c9).ownBlock = some g → ¬ vn.ownBlock = some g) ∧ ∃ i : Int, iv = .int .i64 i ∧ -1 ≤ i ∧ i < kd.length ∧ OwnInts wx w.heap.size vn (N0 ++ (kd.drop (i + 1).toNat).reverse)) (fun _ iv _ => (intOf iv + 1).toNat)
      case atStart => exact ⟨hb9, HO9.out, HS9.out, _, rfl, by omega, by omega, by rw [show ((kd.length : Int) - 1 + 1).toNat = kd.length by omega, List.drop_length]; simpa using HN9.out⟩
      case round =>
        obtain ⟨hbx, hO, hsep, i, rfl, hi1, hi2, hN⟩ := hrel
        have HO9 := Lib.hid hO
        have HS9 := Lib.hid hsep
        clear hO hsep
        by_cases hi : 0 ≤ i
        · obtain ⟨m, rfl⟩ : ∃ m : Nat, i = m := ⟨i.toNat, by omega⟩
          have hm : m < kd.length := by omega
          rw [show ((m : Int) + 1).toNat = m + 1 by omega] at hN
          obtain ⟨T3', ac3', K3', kc3', -, -, -, -, v4, -, hK3, -, -⟩ := (h.below (hbx.mono hB)).at2 hq
          rw [← kidsOf_at hq, HKD.out] at v4 hK3
          obtain ⟨bk, ok, rfl, hbk, hck⟩ := hK3.at_ hm
          have hdr : (kd.drop m).reverse = (kd.drop (m + 1)).reverse ++ [kd[m]] := by rw [List.drop_eq_getElem_cons hm, List.reverse_cons]
          have HDR := Lib.hid (show N0 ++ (kd.drop ((m : Int) - 1 + 1).toNat).reverse = (N0 ++ (kd.drop (m + 1)).reverse) ++ [kd[m]] by rw [show ((m : Int) - 1 + 1).toNat = m by omega, hdr, List.append_assoc])
          clear hdr
          generalize hL : N0 ++ (kd.drop (m + 1)).reverse = L at hN HDR
          have hLl : L.length ≤ 799 := by rw [← hL, List.length_append, List.length_reverse, List.length_drop]; omega
          generalize kd[m] = y at hck HDR
          clear hL
          obtain ⟨Tn, cn', rfl⟩ := owns_slice hN
          go_wp2_with (at_builtin; refine wpList_append_src rfl (.tmp 40) (.tmp 49) 26 rfl w.heap.size 3 ii _ 1 8 Try.underlying26 ii0 iiz ii1 ii2 rfl (by decide) (.slice Tn L.length cn') L.length (intCells L) rfl (World.ownsRow.alloc hN _) (some ⟨wr.heap.size, 0, none⟩) 1 1 [.int .i64 y] rfl rfl (fun _ => ⟨_, rfl, World.news_of_block (heap_alloc_new wr _)⟩) (by simp [Value.oneCell']) (by simp only [maxLen]; omega) (by omega) (by have := hbx.size; simp; omega) ?_; intro T10 c10 w10 hown10 hg10 hat10)
          go_roundw
          case rel =>
            have hsz10 := hg10.size
            refine ⟨(hbx.alloc hbx.size _).grown hg10 (by have := hbx.size; simp; omega) (fun g e => (hN.lt g e).1), World.ownsRow.kept (World.ownsRow.alloc HO9.out _) hg10 ?_, fun g e e2 => ?_, (m : Int) - 1, by go_num, by omega, by omega, ?_⟩
            · cases e : (Value.slice T9 (O.length + 1) c9).ownBlock with
              | none => exact .inl rfl
              | some g => exact .inr (fun e2 => HS9.out g e e2.symm)
            · rcases hat10 g e2 with h1 | h1
              · exact HS9.out g e h1
              · have := (World.ownsRow.lt HO9.out g e).2
                rw [h1] at this
                simp at this
                omega
            · rw [HDR.out]
              unfold OwnInts
              rw [List.length_append, ← intCells_append]
              exact hown10
          case measure => simp [intOf]
        · obtain rfl : i = -1 := by omega
          have hN2 : OwnInts wr w.heap.size u6 (N0 ++ kd.reverse) := by simpa using hN
          clear hN
          have HN2 := Lib.hid hN2
          clear hN2
          go_wp2_with fail
          go_roundw
          case rel =>
            refine ⟨hbx, O ++ [(q : Int)], N0 ++ kd.reverse, by have := HO9.out; simpa using this, HN2.out, fun g e => HS9.out g e, fun y hy => ?_, ?_⟩
            · rcases List.mem_append.1 hy with h1 | h1
              · exact HNI.out y (List.mem_append.2 (.inl h1))
              · exact (kid_is hr hix (by rw [HKD.out]; exact List.mem_reverse.1 h1)).1
            · rw [← HINV.out, List.reverse_append, List.reverse_reverse, List.reverse_append, List.flatMap_append, List.reverse_singleton, List.flatMap_append, List.flatMap_cons, List.flatMap_nil, List.append_nil, ordL_eq hr hix, HKD.out]
              simp
          case measure =>
            have e1 := congrArg List.length HINV.out
            have e2 : 1 ≤ (ordL l (q : Int)).length := by rw [ordL_eq hr hix]; simp
            rw [List.length_append, List.reverse_append, List.flatMap_append, List.reverse_singleton, List.flatMap_cons, List.flatMap_nil, List.append_nil, List.length_append] at e1
            simp only [lenV]
            omega
end Go.Proofs.Ytpgcaehbbdnhiaa

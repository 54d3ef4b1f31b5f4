/- The law TreeOrder, walked. -/
import Derived.Test.YtpgcaehbbdnhiaaO4
import Derived.Test.YtpgcaehbbdnhiaaO5
import Derived.Test.YtpgcaehbbdnhiaaOpen3
namespace Go.Proofs.Ytpgcaehbbdnhiaa
open Go.RowKit
theorem BoolsAt.congr {w : World} {b n : Nat} {up up' : Nat → Bool} (h : BoolsAt w b n up) (e : ∀ k, k < n → up k = up' k) : BoolsAt w b n up' := fun k hk => by rw [← e k hk]; exact h k hk
/-- told so far -/
def told (l : List GNode) (i j : Nat) : List Int := Lroots l i ++ (ordL l (i : Int)).take j
noncomputable def inB (L : List Int) (m : Nat) : Bool := @decide ((m : Int) ∈ L) (Classical.propDecidable _)
theorem inB_yes {L : List Int} {m : Nat} (h : (m : Int) ∈ L) : inB L m = true := by unfold inB; exact @decide_eq_true _ (Classical.propDecidable _) h
theorem inB_no {L : List Int} {m : Nat} (h : (m : Int) ∉ L) : inB L m = false := by unfold inB; exact @decide_eq_false _ (Classical.propDecidable _) h
theorem inB_append {L : List Int} {m k : Nat} : mark m (inB L) k = inB (L ++ [(m : Int)]) k := by
  by_cases e : k = m
  · subst e; rw [mark_self, inB_yes (by simp)]
  · rw [mark_ne _ e]
    by_cases h : (k : Int) ∈ L
    · rw [inB_yes h, inB_yes (by simp [h])]
    · rw [inB_no h, inB_no (by simp [h]; omega)]
theorem told_zero (l : List GNode) (i : Nat) : told l i 0 = Lroots l i := by simp [told]
theorem told_succ {l : List GNode} {i j : Nat} (h : j < (ordL l (i : Int)).length) : told l i (j + 1) = told l i j ++ [(ordL l (i : Int))[j]] := by
  unfold told
  rw [List.take_succ_eq_append_getElem h, List.append_assoc]
theorem told_all {l : List GNode} {i : Nat} (hp : parOf l (i : Int) < 0) : told l i (ordL l (i : Int)).length = Lroots l (i + 1) := by
  unfold told
  rw [List.take_length, lr_succ, if_pos hp]
theorem told_len {l : List GNode} (hr : RightP l) {i : Nat} (hi : i < l.length) (hp : parOf l (i : Int) < 0) (j : Nat) : (told l i j).length ≤ 400 := by
  have h1 := lr_le hr (i := i + 1) (by omega)
  rw [← told_all hp] at h1
  unfold told at h1 ⊢
  rw [List.length_append, List.take_length] at h1
  rw [List.length_append, List.length_take]
  obtain ⟨⟨_, h2, _⟩, _⟩ := hr
  omega
theorem told_new {l : List GNode} (hr : RightP l) {i : Nat} (hi : i < l.length) (hp : parOf l (i : Int) < 0) {j : Nat} (hj : j < (ordL l (i : Int)).length) : (ordL l (i : Int))[j] ∉ told l i j := by
  intro h
  unfold told at h
  rcases List.mem_append.1 h with h | h
  · exact root_new hr hi hp (List.getElem_mem hj) h
  · obtain ⟨k, hk, e⟩ := List.mem_take_iff_getElem.1 h
    have hn := ord_nodup hr (k := (i : Int)) ⟨by omega, by omega⟩
    rw [List.pairwise_iff_getElem] at hn
    exact hn k j (by omega) hj (by omega) e
theorem told_par {l : List GNode} (hr : RightP l) {i : Nat} (hi : i < l.length) (hp : parOf l (i : Int) < 0) {j : Nat} (hj : j < (ordL l (i : Int)).length) (h0 : 0 ≤ parOf l (ordL l (i : Int))[j]) : parOf l (ordL l (i : Int))[j] ∈ told l i j :=
  List.mem_append.2 (.inr (root_ahead hr hi hp hj h0))
set_option maxRecDepth 100000 in
set_option maxHeartbeats 4000000 in
theorem TreeOrder_w (a : Option Addr × List GNode × Nat) (w : World) (hd : DocIn w a.1 a.2.1) :
    Calls Try.prog 9 #[.slice a.1 a.2.1.length a.2.2] w fun e w' => e = .returned (.bool true) ∧ Below w.heap.size w w' := by
  obtain ⟨A, l, c⟩ := a
  dsimp only at hd ⊢
  obtain ⟨h, -, hs, hln⟩ := hd
  have hll : l.length ≤ 4611686018427387904 := by unfold reachBytes at hln; omega
  have hcur : Below w.heap.size w w := Below.refl _ _
  by_cases hr : RightP l
  case neg =>
    have hrb := rightB_no hr
    clear hr
    go_enter Try.func9, Try.ntmps9
    go_wp2_with (first | (go_at_call 27; refine (wakes_c _).mono ?_; rintro e w1 ⟨rfl, hb1⟩; replace hcur := hcur.trans (hb1.mono hcur.size); clear hb1) | (go_at_call 29; refine (rRight_c A c l _ w.heap.size hcur.size hs hll (h.below hcur)).mono ?_; rintro e w4 ⟨rfl, hb4⟩; replace hcur := hcur.trans (hb4.mono hcur.size); clear hb4))
    go_ret
    exact ⟨rfl, hcur⟩
  have hrb := rightB_yes hr
  obtain ⟨⟨hpos, h400, _⟩, _⟩ := id hr
  obtain ⟨b, o, rfl, hbB, -⟩ := h.at_ hpos
  have hmk := run_make_row' (P := Try.prog) 37 4 (.bool false) 1 Try.underlying37 info_bool rfl .i64 .i64 l.length (by omega) (by omega)
  have HLL := Lib.hid (lr_length hr)
  go_enter Try.func9, Try.ntmps9
  go_wp2_with (first | (go_at_call 27; refine (wakes_c _).mono ?_; rintro e w1 ⟨rfl, hb1⟩; replace hcur := hcur.trans (hb1.mono hcur.size); clear hb1) | (go_at_call 29; refine (rRight_c _ c l _ w.heap.size hcur.size hs hll (h.below hcur)).mono ?_; rintro e w4 ⟨rfl, hb4⟩; replace hcur := hcur.trans (hb4.mono hcur.size); clear hb4))
  clear hmk
  have hg : w.heap.size ≤ w4.heap.size := hcur.size
  go_loopw [4, 18] (fun nv iv wr => Below w.heap.size w wr ∧ w4.heap.size < wr.heap.size ∧ ∃ i : Nat, i ≤ l.length ∧ iv = .int .i64 i ∧ nv = .int .i64 (Lroots l i).length ∧ BoolsAt wr w4.heap.size l.length (inB (Lroots l i))) (fun _ iv _ => l.length - (intOf iv).toNat)
  case atStart => exact ⟨hcur.alloc hcur.size _, by simp, 0, by omega, rfl, rfl, (BoolsAt.made w4 l.length).congr fun k _ => (inB_no (by simp [Lroots])).symm⟩
  case round =>
    obtain ⟨hbw, hz, i, hi, rfl, rfl, hbo⟩ := hrel
    have HBO := Lib.hid hbo
    clear hbo
    by_cases hlt : i < l.length
    · have HLE := lr_le hr (i := i) (by omega)
      have HP := Lib.hid (parOf_at hlt)
      obtain ⟨T3, ac3, K3, kc3, -, -, -, v3, -, -, -, -, -⟩ := (h.below hbw).at2 hlt
      generalize hpp : l[i].parent = p at v3 HP
      by_cases hp : 0 ≤ p
      · have HN := Lib.hid (show Lroots l (i + 1) = Lroots l i by rw [lr_succ, HP.out, if_neg (by omega), List.append_nil])
        go_wp2_with fail
        go_roundw
        case rel => exact ⟨hbw, hz, i + 1, by omega, by go_num, by rw [HN.out], by rw [HN.out]; exact HBO.out⟩
        case measure => simp [intOf]; omega
      · have hp' : decide (0 ≤ p) = false := decide_eq_false hp
        have hroot : parOf l (i : Int) < 0 := by rw [HP.out]; omega
        have hhb := hasB_yes (l := l) (k := (i : Int)) ⟨by omega, by omega⟩ hr
        have HX := Lib.hid hroot
        have HTZ := Lib.hid (told_zero l i)
        clear hp hroot hpp
        go_wp2_with (first | (go_at_call 22; refine (rCopied_c _ c l _ w.heap.size hbw.size hs hln (h.below hbw)).mono ?_; rintro e w5 ⟨v5, rfl, hdoc, hb5⟩; obtain ⟨A5, c5, rfl, hn5, -⟩ := hdoc.nodes) | (go_at_call 30; refine (Order_c A5 c5 l i _ _ (Nat.le_refl _) hs hll hn5).mono ?_; rintro e w6 ⟨v6, rfl, ho6, hb6⟩; rw [if_pos hhb] at ho6; obtain ⟨T6, c6, rfl⟩ := owns_slice ho6))
        have hbr := hb5.trans (hb6.mono hb5.size)
        have hb06 := hbw.trans (hbr.mono hbw.size)
        have HB6 := Lib.hid (HBO.out.below hbr hz)
        have hz6 : w4.heap.size < w6.heap.size := Nat.lt_of_lt_of_le hz hbr.size
        have hol := ord_length hr (k := (i : Int)) ⟨by omega, by omega⟩
        have hcl : ∀ j (hj : j < (ordL l (i : Int)).length), ∃ g6, T6 = some ⟨g6, 0, none⟩ ∧ g6 ≠ w4.heap.size ∧ g6 < w6.heap.size ∧ w6.cell? ⟨g6, j, none⟩ = some (.int .i64 (ordL l (i : Int))[j]) := by
          intro j hj
          obtain ⟨g6, cap, e1, hgb, hgl, hgc⟩ := owns_form ho6 (by omega)
          cases e1
          have := hb5.size
          refine ⟨g6, rfl, by omega, hgl, ?_⟩
          rw [hgc j (by omega)]
          simp [intCells, hj]
        have HCL := Lib.hid hcl
        clear hcl
        clear v3 hn5 hdoc hb5 hb6 ho6
        go_loopw [4, 32] (fun nv jv wx => Below w4.heap.size w6 wx ∧ (∀ p : Addr, p.block < w6.heap.size → p.block ≠ w4.heap.size → wx.cell? p = w6.cell? p) ∧ w6.heap.size ≤ wx.heap.size ∧ ∃ j : Nat, j ≤ (ordL l (i : Int)).length ∧ jv = .int .i64 j ∧ nv = .int .i64 (told l i j).length ∧ BoolsAt wx w4.heap.size l.length (inB (told l i j))) (fun _ jv _ => (ordL l (i : Int)).length - (intOf jv).toNat)
        case atStart => exact ⟨Below.refl _ _, fun _ _ _ => rfl, Nat.le_refl _, 0, by omega, rfl, by rw [HTZ.out], by rw [HTZ.out]; exact HB6.out⟩
        case round =>
          obtain ⟨hbx, hkeep, hzx, j, hj, rfl, rfl, hbo⟩ := hrel
          have HBX := Lib.hid hbo
          have HKP := Lib.hid hkeep
          clear hbo hkeep
          have hbw6 := hb06.trans (hbx.mono hg)
          by_cases hjl : j < (ordL l (i : Int)).length
          · obtain ⟨g6, rfl, hgne, hgl, hgc⟩ := HCL.out j hjl
            have hgx := (HKP.out ⟨g6, j, none⟩ hgl hgne).trans hgc
            have hisx := (ord_mem hr (k := (i : Int)) ⟨by omega, by omega⟩ _ (List.getElem_mem hjl)).1
            have hnew := told_new hr hlt HX.out hjl
            have hpar := told_par hr hlt HX.out hjl
            have htl := told_len hr hlt HX.out j
            have HTS := Lib.hid (told_succ hjl)
            generalize hx : (ordL l (i : Int))[j] = x at hgx hisx hnew hpar HTS
            clear hx hgc
            obtain ⟨m, rfl, hm⟩ := is_nat hisx
            obtain ⟨u1, u2⟩ := HBX.out m hm
            rw [inB_no hnew] at u1
            obtain ⟨T8, ac8, K8, kc8, -, -, -, v8, -, -, -, -, -⟩ := (h.below hbw6).at2 hm
            rw [parOf_at hm] at hpar
            have hpl := (par_is hr (k := (m : Int)) hisx)
            rw [parOf_at hm] at hpl
            generalize l[m].parent = pm at v8 hpar hpl
            have m1 : decide ((m : Int) < 0) = false := decide_eq_false (by omega)
            have m2 : decide ((l.length : Int) ≤ (m : Int)) = false := decide_eq_false (by omega)
            have HLN := Lib.hid (show ((told l i (j + 1)).length : Int) = (told l i j).length + 1 by rw [HTS.out, List.length_append]; simp)
            clear hnew hisx
            by_cases hpm : 0 ≤ pm
            · obtain ⟨q, rfl⟩ : ∃ q : Nat, pm = q := ⟨pm.toNat, by omega⟩
              have hql : q < l.length := by have := (hpl hpm).1.2; omega
              obtain ⟨t1, t2⟩ := HBX.out q hql
              rw [inB_yes (hpar hpm)] at t1
              clear hpar hpl
              go_wp2_with fail
              go_roundw
              case rel => exact ⟨hbx.setCell (Nat.le_refl _) _, fun p h1 h2 => (World.cell?_setCell_other _ _ _ _ (by intro e; subst e; exact h2 rfl)).trans (HKP.out p h1 h2), by simpa [World.setCell] using hzx, j + 1, by omega, by go_num, by rw [HLN.out], by
                have e1 := HBX.out.mark hm
                rw [HTS.out]
                exact e1.congr fun k _ => inB_append⟩
              case measure => simp [intOf]; omega
            · have hpm' : decide (0 ≤ pm) = false := decide_eq_false hpm
              clear hpar hpl hpm
              go_wp2_with fail
              go_roundw
              case rel => exact ⟨hbx.setCell (Nat.le_refl _) _, fun p h1 h2 => (World.cell?_setCell_other _ _ _ _ (by intro e; subst e; exact h2 rfl)).trans (HKP.out p h1 h2), by simpa [World.setCell] using hzx, j + 1, by omega, by go_num, by rw [HLN.out], by
                have e1 := HBX.out.mark hm
                rw [HTS.out]
                exact e1.congr fun k _ => inB_append⟩
              case measure => simp [intOf]; omega
          · obtain rfl : j = (ordL l (i : Int)).length := by omega
            have HTA := Lib.hid (told_all HX.out)
            go_wp2_with fail
            go_roundw
            case rel => exact ⟨hbw6, by omega, i + 1, by omega, by go_num, by rw [HTA.out], by have := HBX.out; rwa [HTA.out] at this⟩
            case measure => simp [intOf]; omega
    · obtain rfl : i = l.length := by omega
      have hfin := HLL.out
      go_wp2_with fail
      go_ret
      exact ⟨by simp [hfin], hbw⟩
end Go.Proofs.Ytpgcaehbbdnhiaa

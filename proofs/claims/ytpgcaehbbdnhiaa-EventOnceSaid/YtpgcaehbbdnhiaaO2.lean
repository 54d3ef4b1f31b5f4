/- The program's order, Order, has; the document's Has; lists of integers that are alike. -/
import Derived.Test.YtpgcaehbbdnhiaaOwn
import Derived.Test.YtpgcaehbbdnhiaaO1
import Derived.Test.YtpgcaehbbdnhiaaT6
import Derived.Test.YtpgcaehbbdnhiaaT8
import Derived.Test.YtpgcaehbbdnhiaaC1
namespace Go.Proofs.Ytpgcaehbbdnhiaa
open Go.RowKit
def ordK (l : List GNode) (k : Int) (m : Nat) : List Int := k :: ((kidsOf l k).take m).flatMap (ordL l)
theorem ordK_next {l : List GNode} {k : Int} {m : Nat} (hm : m < (kidsOf l k).length) : ordK l k (m + 1) = ordK l k m ++ ordL l (kidsOf l k)[m] := by
  unfold ordK
  rw [List.take_succ_eq_append_getElem hm, List.flatMap_append]
  simp
theorem ordK_all {l : List GNode} (hr : RightP l) {k : Int} (h : Is l k) : ordK l k (kidsOf l k).length = ordL l k := by
  unfold ordK
  rw [List.take_length, ordL_eq hr h]
theorem ordK_len {l : List GNode} (hr : RightP l) {k : Int} (h : Is l k) (m : Nat) : (ordK l k m).length ≤ 400 := by
  have h1 := ord_length hr h
  obtain ⟨⟨_, h2, _⟩, _⟩ := id hr
  have h3 : (ordK l k m).length ≤ (ordL l k).length := by
    rw [← ordK_all hr h]
    unfold ordK
    simp only [List.length_cons]
    conv => rhs; rw [List.take_length, ← List.take_append_drop m (kidsOf l k), List.flatMap_append, List.length_append]
    omega
  omega
set_option maxRecDepth 100000 in
set_option maxHeartbeats 4000000 in
theorem order_c (A : Option Addr) (c : Nat) (l : List GNode) (hr : RightP l) (B : Nat) (k : Int) (hk : Is l k) : ∀ (w : World) (_ : B ≤ w.heap.size) (_ : NodesAt w B A l),
    Calls Try.prog 63 #[.slice A l.length c, .int .i64 k] w fun e w' => ∃ v, e = .returned v ∧ OwnInts w' w.heap.size v (ordL l k) ∧ Below w.heap.size w w' := by
  obtain ⟨⟨_, h400, _⟩, _⟩ := id hr
  refine ord_ind (P := fun k => ∀ (w : World) (_ : B ≤ w.heap.size) (_ : NodesAt w B A l),
    Calls Try.prog 63 #[.slice A l.length c, .int .i64 k] w fun e w' => ∃ v, e = .returned v ∧ OwnInts w' w.heap.size v (ordL l k) ∧ Below w.heap.size w w') hr (fun k hk ih w hB h => ?_) hk
  have HK := Lib.hid hk
  obtain ⟨q, rfl, hq⟩ := is_nat hk
  have hkd := kidsOf_at hq
  obtain ⟨b, o, rfl, hb, hn⟩ := h.at_ hq
  obtain ⟨T, ac, K, kc, -, -, -, -, x4, -, hK, -, -⟩ := hn
  generalize hkds : l[q].kids = kd at x4 hK hkd
  have HKD := Lib.hid hkd
  have HIH := Lib.hid ih
  clear hkds hkd ih hk
  have hkl : kd.length ≤ 400 := by
    have h1 := ordK_len hr HK.out kd.length
    have h2 : kd.length ≤ (ordK l q kd.length).length := by
      unfold ordK
      rw [HKD.out, List.take_length, List.length_cons, List.length_flatMap]
      have : ∀ (m : List Int), (∀ x ∈ m, Is l x) → m.length ≤ (m.map (fun a => (ordL l a).length)).sum := by
        intro m
        induction m with
        | nil => intro _; simp
        | cons a m ih =>
          intro h
          have h1 := ih fun x hx => h x (List.mem_cons_of_mem _ hx)
          have h2 : 1 ≤ (ordL l a).length := by rw [ordL_eq hr (h a (List.mem_cons_self ..))]; simp
          simp only [List.length_cons, List.map_cons, List.sum_cons]
          omega
      have := this kd (fun x hx => (kid_is hr HK.out (by rw [HKD.out]; exact hx)).1)
      omega
    omega
  obtain ⟨ii, ii0, iiz, ii1, ii2⟩ := info_parts info_int
  have hown0 : OwnInts (w.alloc (.cells #[.int .i64 q] 3)) w.heap.size (.slice (some ⟨w.heap.size, 0, none⟩) 1 1) [(q : Int)] := World.ownsRow_lit w #[.int .i64 q] 1 (Nat.le_refl _) (by simp only [maxLen]; omega) rfl
  have HO0 := Lib.hid hown0
  clear hown0
  have hbw0 : b < w.heap.size := by omega
  go_enter Try.func63, Try.ntmps63
  go_wp2_with fail
  clear x4 hbw0
  go_loopw [5, 16] (fun v i wr => Below w.heap.size w wr ∧ ∃ m : Nat, m ≤ kd.length ∧ i = .int .i64 m ∧ OwnInts wr w.heap.size v (ordK l q m)) (fun _ i _ => kd.length - (intOf i).toNat)
  case atStart => exact ⟨(Below.refl _ _).alloc (Nat.le_refl _) _, 0, by omega, rfl, HO0.out⟩
  case round =>
    obtain ⟨hbw, m, hm, rfl, hown⟩ := hrel
    by_cases hlt : m < kd.length
    · have hKr := (hK.below (hbw.mono hB))
      obtain ⟨bk, ok, rfl, hbk, hck⟩ := hKr.at_ hlt
      have hlt' : m < (kidsOf l q).length := by rw [HKD.out]; exact hlt
      have hmem : kd[m] ∈ kidsOf l q := by rw [HKD.out]; exact List.getElem_mem hlt
      have hnx := ordK_next hlt'
      have hln := ordK_len hr HK.out (m + 1)
      rw [hnx, List.length_append] at hln
      have hge : (kidsOf l q)[m] = kd[m] := by simp only [HKD.out]
      rw [hge] at hnx hln
      have HNX := Lib.hid hnx
      have hcall := HIH.out kd[m] hmem wr (by have := hbw.size; omega) (h.below (hbw.mono hB))
      generalize hx : kd[m] = x at hck hln HNX hcall
      generalize hL : ordK l q m = L at hown hln HNX
      generalize hM : ordL l x = M at hln HNX hcall
      clear hx hL hM hnx hKr
      go_wp2_with (first | (go_at_call 63; refine hcall.mono ?_; rintro e w1 ⟨v1, rfl, ho1, hb1⟩; obtain ⟨T1, c1, rfl⟩ := owns_slice ho1) | (at_builtin; refine wpList_append_src rfl (.tmp 20) (.tmp 23) 26 rfl w.heap.size 3 ii _ 1 8 Try.underlying26 ii0 iiz ii1 ii2 rfl (by decide) u5 L.length (intCells L) rfl (hown.below hb1) T1 M.length c1 (intCells M) rfl (intCells_length _) ho1.ints.news (intCells_one _) (by simp only [maxLen]; omega) (by omega) (by have := hbw.size; have := hb1.size; omega) ?_; intro T9 c9 w9 hown9 hg9 hat9))
      go_roundw
      case rel =>
        refine ⟨(hbw.trans (hb1.mono hbw.size)).grown hg9 (by have := hbw.size; have := hb1.size; omega) (fun g e => (hown.lt g e).1), m + 1, by omega, by go_num, ?_⟩
        rw [HNX.out]
        unfold OwnInts
        rw [List.length_append, ← intCells_append]
        exact hown9
      case measure => simp [intOf]; omega
    · obtain rfl : m = kd.length := by omega
      have HR := Lib.hid (show OwnInts wr w.heap.size u5 (ordL l q) by have h1 := ordK_all hr HK.out; rw [HKD.out] at h1; rw [← h1]; exact hown)
      go_wp2_with fail
      go_ret
      exact ⟨_, rfl, HR.out, hbw⟩
end Go.Proofs.Ytpgcaehbbdnhiaa

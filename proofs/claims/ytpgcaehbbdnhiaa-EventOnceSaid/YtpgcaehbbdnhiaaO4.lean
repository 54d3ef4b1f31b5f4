/- The example of the laws holds: wakes is true. -/
import Derived.Test.YtpgcaehbbdnhiaaO3
import Derived.WalkSpells
namespace Go.Proofs.Ytpgcaehbbdnhiaa
open Go.RowKit
theorem some_c (w : World) :
    Calls Try.prog 58 #[] w fun e w' => ∃ A c, e = .returned (.slice A someL.length c) ∧ NodesAt w' w'.heap.size A someL ∧ Below w.heap.size w w' := by
  go_enter Try.func58, Try.ntmps58
  go_wp2_with fail
  go_ret
  refine ⟨_, _, rfl, fun _ => ⟨w.heap.size + 2, 0, rfl, by simp, fun i n hi => ?_⟩, (((Below.refl _ _).alloc (Nat.le_refl _) _).alloc (by simp) _).alloc (by simp; omega) _⟩
  match i, hi with
  | 0, hi => 
    cases hi
    exact ⟨none, 0, some ⟨w.heap.size, 0, none⟩, 1, by go_simp, by go_simp, by go_simp, by go_simp, by go_simp, fun h => absurd rfl h, fun _ => ⟨w.heap.size, 0, rfl, by simp; omega, fun j n hj => by
      match j, hj with
      | 0, hj => cases hj; go_simp⟩, Nat.le_refl _, Nat.le_refl _⟩
  | 1, hi => 
    cases hi
    exact ⟨none, 0, some ⟨w.heap.size + 1, 0, none⟩, 1, by go_simp, by go_simp, by go_simp, by go_simp, by go_simp, fun h => absurd rfl h, fun _ => ⟨w.heap.size + 1, 0, rfl, by simp, fun j n hj => by
      match j, hj with
      | 0, hj => cases hj; go_simp⟩, Nat.le_refl _, Nat.le_refl _⟩
  | 2, hi => 
    cases hi
    exact ⟨none, 0, none, 0, by go_simp, by go_simp, by go_simp, by go_simp, by go_simp, fun h => absurd rfl h, fun h => absurd rfl h, Nat.le_refl _, Nat.le_refl _⟩

set_option maxRecDepth 100000 in
set_option maxHeartbeats 400000 in
theorem Insert_order_c (A : Option Addr) (c : Nat) (l : List GNode) (p ch bf : Int) (hr : RightP l) (hp : Is l p) (hch : Is l ch) (hnm : ∀ h : p.toNat < l.length, l[p.toNat].name.toList.isEmpty = false) (hc0 : ch ≠ 0) (hin : InsideP l p ch) (w : World) (B : Nat) (hB : B ≤ w.heap.size) (hs : ∀ n ∈ l, NodeSmall reachBytes n) (h : NodesAt w B A l) :
    Calls Try.prog 34 #[.slice A l.length c, .int .i64 p, .int .i64 ch, .int .i64 bf] w fun e w' => e = .returned (.tuple #[.slice none 0 0, .int .i64 5]) ∧ Below w.heap.size w w' := by
  obtain ⟨⟨_, h400, _⟩, _⟩ := id hr
  have hll : l.length ≤ 4611686018427387904 := by omega
  have hh1 := hasB_yes hp hr
  have hh2 := hasB_yes hch hr
  have hii := insideB_yes hin
  have hc0' : (ch == 0) = false := by simpa using hc0
  obtain ⟨q, rfl, hq⟩ := is_nat hp
  have hnq : l[q].name.toList.isEmpty = false := hnm (by omega)
  clear hnm hc0
  obtain ⟨b, o, rfl, hbB, -⟩ := h.at_ hq
  have hcur : Below w.heap.size w w := Below.refl _ _
  go_enter Try.func34, Try.ntmps34
  go_wp2_with (first | (go_at_call 62; refine (has_c _ c l _ _ B (by have := hcur.size; omega) hs hll (h.below (hcur.mono hB))).mono ?_; rintro e w1 ⟨rfl, hb1⟩; replace hcur := hcur.trans (hb1.mono hcur.size); clear hb1; obtain ⟨T3, ac3, K3, kc3, v0, -, -, -, -, -, -, -, -⟩ := (h.below (hcur.mono hB)).at2 hq) | (go_at_call 68; refine (inside_c _ c l hr q ch hp.2 _ B (h.below (hcur.mono hB))).mono ?_; rintro e w3 ⟨rfl, rfl⟩))
  go_ret2
  exact ⟨rfl, hcur⟩

theorem lit3 (w : World) : IntsAt (w.alloc (Obj.cells #[.int .i64 0, .int .i64 1, .int .i64 2] 3)) (w.heap.size + 1) (some ⟨w.heap.size, 0, none⟩) [0, 1, 2] := fun _ => ⟨w.heap.size, 0, rfl, Nat.lt_succ_self _, fun i n hi => by
  match i, hi with
  | 0, hi => cases hi; go_simp
  | 1, hi => cases hi; go_simp
  | 2, hi => cases hi; go_simp⟩
set_option maxRecDepth 100000 in
set_option maxHeartbeats 1000000 in
theorem wakes_c (w : World) : Calls Try.prog 27 #[] w fun e w' => e = .returned (.bool true) ∧ Below w.heap.size w w' := by
  have hsm : ∀ n ∈ someL, NodeSmall reachBytes n := by
    intro n hn
    simp only [someL, List.mem_cons, List.not_mem_nil, or_false] at hn
    rcases hn with rfl | rfl | rfl <;> exact ⟨by decide, by decide, by decide, fun a ha => absurd ha (List.not_mem_nil), by decide⟩
  have hin : InsideP someL 2 1 := ⟨1, by decide, by decide⟩
  have hrb := rightB_yes some_right
  have hhb := hasB_yes (l := someL) (k := 0) ⟨by decide, by decide⟩ some_right
  have hor := some_order
  have hcur : Below w.heap.size w w := Below.refl _ _
  have hnf : ∀ h : (2 : Int).toNat < someL.length, someL[(2 : Int).toNat].name.toList.isEmpty = false := fun _ => by show (⟨[105, 110, 112, 117, 116].toArray⟩ : ByteArray).toList.isEmpty = false; rw [ba_mk]; rfl
  have hi2 : Is someL 2 := ⟨by decide, by decide⟩
  have hi1 : Is someL 1 := ⟨by decide, by decide⟩
  have hl3 : someL.length ≤ 4611686018427387904 := by decide
  go_enter Try.func27, Try.ntmps27
  go_wp2_with (first | (go_at_call 58; refine (some_c _).mono ?_; rintro e w1 ⟨A1, c1, rfl, hn1, hb1⟩; replace hcur := hcur.trans (hb1.mono hcur.size); clear hb1) | (go_at_call 34; go_must (refine (Insert_order_c A1 c1 someL 2 1 (-1) some_right hi2 hi1 hnf (by decide) hin _ _ (Nat.le_refl _) hsm hn1).mono ?_); rintro e w2 ⟨rfl, hb2⟩; replace hcur := hcur.trans (hb2.mono hcur.size); clear hb2 hn1) | (go_at_call 28; refine (Right_c A1 c1 someL _ _ (Nat.le_refl _) hsm hl3 hn1).mono ?_; rintro e w4 ⟨rfl, hb4⟩; replace hcur := hcur.trans (hb4.mono hcur.size); clear hb4 hn1) | (go_at_call 30; go_must (refine (Order_c A1 c1 someL 0 _ _ (Nat.le_refl _) hsm hl3 hn1).mono ?_); go_must (rintro e w6 ⟨v6, rfl, ho6, hb6⟩); go_must (rw [if_pos hhb, hor] at ho6); go_must (obtain ⟨T6, c6, rfl⟩ := owns_slice ho6); have hq6 := lit3 w6; have hp6 := (ho6.ints.below ((Below.refl w6.heap.size w6).alloc (Nat.le_refl _) (Obj.cells #[.int .i64 0, .int .i64 1, .int .i64 2] 3))).mono (Nat.le_succ _); replace hcur := hcur.trans (hb6.mono hcur.size); clear hb6 hn1) | (go_at_call 20; go_must (refine (SameInts_c T6 c6 [0, 1, 2] _ 3 [0, 1, 2] _ _ (by simp) (by decide) (by decide) hp6 hq6).mono ?_); rintro e w7 ⟨rfl, hb7⟩; replace hcur := (hcur.alloc hcur.size (Obj.cells #[.int .i64 0, .int .i64 1, .int .i64 2] 3)).trans (hb7.mono (by have := hcur.size; simp; omega))))
  go_ret
  exact ⟨rfl, hcur⟩
end Go.Proofs.Ytpgcaehbbdnhiaa

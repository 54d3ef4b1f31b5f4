/- The example of the laws on events holds: wakes is true. -/
import Derived.Test.YtpgcaehbbdnhiaaE4
import Derived.Test.YtpgcaehbbdnhiaaO4
namespace Go.Proofs.Ytpgcaehbbdnhiaa
open Go.RowKit
theorem some23_c (w : World) :
    Calls Try.prog 53 #[] w fun e w' => ∃ A c, e = .returned (.slice A someL.length c) ∧ NodesAt w' w'.heap.size A someL ∧ Below w.heap.size w w' := by
  go_enter Try.func53, Try.ntmps53
  go_wp2_with fail
  go_ret
  refine ⟨_, _, rfl, fun _ => ⟨w.heap.size + 2, 0, rfl, by simp, fun i n hi => ?_⟩, (((Below.refl _ _).alloc (Nat.le_refl _) _).alloc (by simp) _).alloc (by simp; omega) _⟩
  match i, hi with
  | 0, hi => 
    cases hi
    exact ⟨none, 0, some ⟨w.heap.size, 0, none⟩, 1, by go_simp, by go_simp, by go_simp, by go_simp, by go_simp, fun h => absurd rfl h, fun _ => ⟨w.heap.size, 0, rfl, by simp; omega, fun j n hj => by
      match j, hj with
      | 0, hj => cases hj; go_simp⟩, Nat.le_refl _, Nat.le_refl _⟩
  | 1, hi => 
    cases hi
    exact ⟨none, 0, some ⟨w.heap.size + 1, 0, none⟩, 1, by go_simp, by go_simp, by go_simp, by go_simp, by go_simp, fun h => absurd rfl h, fun _ => ⟨w.heap.size + 1, 0, rfl, by simp, fun j n hj => by
      match j, hj with
      | 0, hj => cases hj; go_simp⟩, Nat.le_refl _, Nat.le_refl _⟩
  | 2, hi => 
    cases hi
    exact ⟨none, 0, none, 0, by go_simp, by go_simp, by go_simp, by go_simp, by go_simp, fun h => absurd rfl h, fun h => absurd rfl h, Nat.le_refl _, Nat.le_refl _⟩
def clickB : ByteArray := ⟨#[99, 108, 105, 99, 107]⟩
def twoL : List Lis := [⟨1, clickB, false, (none, 0, 0)⟩, ⟨1, clickB, true, (none, 0, 0)⟩]
theorem two_path : PathP someL 2 [0, 1, 2] := ⟨3, by decide, by decide, fun m hm => by match m, hm with | 0, _ => decide | 1, _ => decide | 2, _ => decide⟩
theorem two_calls : callsL twoL clickB (visL [0, 1, 2] true) = [(1, 1, 1), (0, 1, 3)] := by
  simp [callsL, visL, hits, fitB, twoL, List.range_succ, List.getD]
theorem two_lis (w : World) : LisAt (w.alloc (Obj.cells #[.int .i64 1, .string clickB, .bool false, .slice none 0 0, .int .i64 1, .string clickB, .bool true, .slice none 0 0] 42)) (w.heap.size + 1) (some ⟨w.heap.size, 0, none⟩) twoL := fun _ => ⟨w.heap.size, 0, rfl, Nat.lt_succ_self _, fun i n hi => by
  match i, hi with
  | 0, hi => cases hi; refine ⟨?_, ?_, ?_, ?_⟩ <;> go_simp
  | 1, hi => cases hi; refine ⟨?_, ?_, ?_, ?_⟩ <;> go_simp⟩
theorem two_cal (w : World) : CallsAt (w.alloc (Obj.cells #[.int .i64 1, .int .i64 1, .int .i64 1, .int .i64 0, .int .i64 1, .int .i64 3] 39)) (w.heap.size + 1) (some ⟨w.heap.size, 0, none⟩) [(1, 1, 1), (0, 1, 3)] := fun _ => ⟨w.heap.size, 0, rfl, Nat.lt_succ_self _, fun i n hi => by
  match i, hi with
  | 0, hi => cases hi; refine ⟨?_, ?_, ?_⟩ <;> go_simp
  | 1, hi => cases hi; refine ⟨?_, ?_, ?_⟩ <;> go_simp⟩
theorem small_some : ∀ n ∈ someL, NodeSmall reachBytes n := by
  intro n hn
  simp only [someL, List.mem_cons, List.not_mem_nil, or_false] at hn
  rcases hn with rfl | rfl | rfl <;> exact ⟨by decide, by decide, by decide, fun a ha => absurd ha (List.not_mem_nil), by decide⟩
theorem someCalls_c (A : Option Addr) (c : Nat) (w : World) (h : NodesAt w w.heap.size A someL) (T : Option Addr) (hl : LisAt w w.heap.size T twoL) :
    Calls Try.prog 25 #[.slice A someL.length c, .slice T 2 2, .int .i64 2, .string clickB, .bool true] w fun e w' => ∃ T' c', e = .returned (.slice T' 2 c') ∧ CallsAt w' w'.heap.size T' [(1, 1, 1), (0, 1, 3)] ∧ Below w.heap.size w w' := by
  refine (CallsOk_c A c someL some_right 2 ⟨by decide, by decide⟩ T 2 twoL (by decide) clickB true w _ (Nat.le_refl _) small_some h hl).mono ?_
  rintro e w' ⟨v, L, rfl, hp, ho, hb⟩
  obtain rfl := path_same hp two_path
  rw [two_calls] at ho
  obtain ⟨T', c', rfl⟩ := owns_slice ho
  exact ⟨T', c', rfl, calls_of_owns ho, hb⟩
set_option maxRecDepth 100000 in
set_option maxHeartbeats 1000000 in
theorem wakes23_c (w : World) : Calls Try.prog 19 #[] w fun e w' => e = .returned (.bool true) ∧ Below w.heap.size w w' := by
  have hcur : Below w.heap.size w w := Below.refl _ _
  have HSC := Lib.hid someCalls_c
  have HTL := Lib.hid two_lis
  have HTC := Lib.hid two_cal
  have HCS := Lib.hid (fun A ca A' ca' w B (h : CallsAt w B A [(1, 1, 1), (0, 1, 3)]) (h' : CallsAt w B A' [(1, 1, 1), (0, 1, 3)]) => CallsSame_c A ca A' ca' _ w B (by decide) h h')
  go_enter Try.func19, Try.ntmps19
  go_wp2_with (first | (go_at_call 53; refine (some23_c _).mono ?_; rintro e w1 ⟨A1, c1, rfl, hn1, hb1⟩; replace hcur := hcur.trans (hb1.mono hcur.size); clear hb1) | (go_at_call 25; go_must (refine (HSC.out A1 c1 _ ((hn1.below ((Below.refl _ w1).alloc (Nat.le_refl _) _)).mono (by simp)) _ ((HTL.out w1).mono (by simp))).mono ?_); rintro e w3 ⟨T3, c3, rfl, hc3, hb3⟩; replace hcur := (hcur.alloc hcur.size (Obj.cells #[.int .i64 1, .string clickB, .bool false, .slice none 0 0, .int .i64 1, .string clickB, .bool true, .slice none 0 0] 42)).trans (hb3.mono (by have := hcur.size; simp; omega)); clear hb3 hn1) | (go_at_call 24; go_must (refine (HCS.out T3 c3 _ 2 _ _ ((hc3.below ((Below.refl _ w3).alloc (Nat.le_refl _) _)).mono (by simp)) (HTC.out w3)).mono ?_); rintro e w4 ⟨rfl, m4, rfl⟩))
  go_ret
  exact ⟨rfl, Below.drewN_ (hcur.alloc hcur.size _) _⟩
end Go.Proofs.Ytpgcaehbbdnhiaa

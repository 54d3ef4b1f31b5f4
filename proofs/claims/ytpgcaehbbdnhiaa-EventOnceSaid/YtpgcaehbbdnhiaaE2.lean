/- The document's calls at a node; are calls alike? -/
import Derived.Test.YtpgcaehbbdnhiaaE1
namespace Go.Proofs.Ytpgcaehbbdnhiaa
open Go.RowKit
/-- a slice of calls of the call's own -/
def OwnCalls (w : World) (base : Nat) (v : Value) (l : List GCall) : Prop := w.ownsRow base 39 3 v l.length (callCells l)
set_option maxRecDepth 100000 in
set_option maxHeartbeats 1000000 in
theorem CallsSame_q (A : Option Addr) (ca : Nat) (A' : Option Addr) (ca' : Nat) (l : List GCall) (w : World) (B : Nat) (_hl : l.length ≤ 4611686018427387904) (h : CallsAt w B A l) (h' : CallsAt w B A' l) (N : Nat) :
    Calls Try.prog 24 #[.slice A l.length ca, .slice A' l.length ca'] (w.drewN N) fun e w' => e = .returned (.bool true) ∧ ∃ m, w' = w.drewN m := by
  go_enter Try.func24, Try.ntmps24
  go_wp2_with fail
  go_loopw [5] (fun i wr => (∃ q, wr = w.drewN q) ∧ ∃ m : Nat, m ≤ l.length ∧ i = .int .i64 m) (fun i _ => l.length - (intOf i).toNat)
  case atStart => exact ⟨⟨N, rfl⟩, 0, by omega, rfl⟩
  case round =>
    obtain ⟨⟨q, rfl⟩, m, hm, rfl⟩ := hrel
    by_cases hlt : m < l.length
    · obtain ⟨b, o, rfl, hb, hc1, hc2, hc3⟩ := h.at_ hlt
      obtain ⟨b', o', rfl, hb', hc1', hc2', hc3'⟩ := h'.at_ hlt
      have k0 : (0 : Int) ≤ (m : Int) := by omega
      have k1 : (m : Int) < (l.length : Int) := by omega
      generalize l[m].1 = x at hc1 hc1'
      generalize l[m].2.1 = y at hc2 hc2'
      generalize l[m].2.2 = z at hc3 hc3'
      go_wp2_with fail
      go_quiet (fail)
      go_wp2_with fail
      go_roundw
      case rel => exact ⟨⟨_, rfl⟩, m + 1, by omega, by go_num⟩
      case measure => simp [intOf]; omega
    · go_wp2_with fail
      go_ret
      exact ⟨rfl, _, rfl⟩
theorem CallsSame_c (A : Option Addr) (ca : Nat) (A' : Option Addr) (ca' : Nat) (l : List GCall) (w : World) (B : Nat) (hl : l.length ≤ 4611686018427387904) (h : CallsAt w B A l) (h' : CallsAt w B A' l) :
    Calls Try.prog 24 #[.slice A l.length ca, .slice A' l.length ca'] w fun e w' => e = .returned (.bool true) ∧ ∃ m, w' = w.drewN m :=
  CallsSame_q A ca A' ca' l w B hl h h' 0
set_option maxRecDepth 100000 in
set_option maxHeartbeats 1000000 in
theorem at_c (A : Option Addr) (c : Nat) (all : List Lis) (hal : all.length ≤ 1000) (node phase : Int) (kind : ByteArray) (cap : Bool) (w : World) (B : Nat) (hB : B ≤ w.heap.size) (h : LisAt w B A all) :
    Calls Try.prog 57 #[.slice A all.length c, .int .i64 node, .int .i64 phase, .string kind, .bool cap] w fun e w' => ∃ v, e = .returned v ∧ OwnCalls w' w.heap.size v (hits all kind (node, phase, cap) all.length) ∧ Below w.heap.size w w' := by
  obtain ⟨ii, ii0, iiz, ii1, ii2⟩ := info_parts info_call
  go_enter Try.func57, Try.ntmps57
  go_wp2_with fail
  go_loopw [11, 12] (fun v iv wr => Below w.heap.size w wr ∧ ∃ i : Nat, i ≤ all.length ∧ iv = .int .i64 i ∧ OwnCalls wr w.heap.size v (hits all kind (node, phase, cap) i)) (fun _ iv _ => all.length - (intOf iv).toNat)
  case atStart => exact ⟨Below.refl _ _, 0, by omega, rfl, World.ownsRow_nil _ _ _ _⟩
  case round =>
    obtain ⟨hbw, i, hi, rfl, hown⟩ := hrel
    by_cases hlt : i < all.length
    · obtain ⟨b, o, rfl, hbB, hc0, hc1, hc2, -⟩ := (h.below (hbw.mono hB)).at_ hlt
      have HY := Lib.hid (hits_yes (kind := kind) (v := (node, phase, cap)) hlt)
      have HN := Lib.hid (hits_no (kind := kind) (v := (node, phase, cap)) hlt)
      have hL := hits_len all kind (node, phase, cap) i
      generalize hits all kind (node, phase, cap) i = L at hown HY HN hL
      generalize all[i] = x at hc0 hc1 hc2 HY HN
      obtain ⟨xn, xt, xc, xa⟩ := x
      dsimp only at hc0 hc1 hc2
      obtain ⟨Tn, cn, rfl⟩ := owns_slice hown
      have k0 : (0 : Int) ≤ (i : Int) := by omega
      have k1 : (i : Int) < (all.length : Int) := by omega
      cases h1 : (xn == node) with
      | false =>
        have HR := Lib.hid (HN.out (by unfold fitB; simp only [h1, Bool.false_and]))
        clear HY HN
        go_wp2_with fail
        go_roundw
        case rel => exact ⟨hbw, i + 1, by omega, by go_num, by rw [HR.out]; exact hown⟩
        case measure => simp [intOf]; omega
      | true =>
        cases h2 : (xt.toList == kind.toList) with
        | false =>
          have HR := Lib.hid (HN.out (by unfold fitB; simp only [h1, h2, Bool.false_and, Bool.true_and]))
          clear HY HN
          go_wp2_with fail
          go_roundw
          case rel => exact ⟨hbw, i + 1, by omega, by go_num, by rw [HR.out]; exact hown⟩
          case measure => simp [intOf]; omega
        | true =>
          cases h3 : (xc == cap) with
          | false =>
            have HR := Lib.hid (HN.out (by unfold fitB; simp only [h1, h2, h3, Bool.true_and]))
            clear HY HN
            go_wp2_with fail
            go_roundw
            case rel => exact ⟨hbw, i + 1, by omega, by go_num, by rw [HR.out]; exact hown⟩
            case measure => simp [intOf]; omega
          | true =>
            have HR := Lib.hid (HY.out (by unfold fitB; simp only [h1, h2, h3, Bool.true_and]))
            clear HY HN
            go_wp2_with (at_builtin; refine wpList_append_src rfl (.tmp 44) (.tmp 49) 34 rfl w.heap.size 39 ii _ 3 24 Try.underlying34 ii0 iiz ii1 ii2 rfl (by decide) (.slice Tn L.length cn) L.length (callCells L) rfl (World.ownsRow.alloc hown _) (some ⟨wr.heap.size, 0, none⟩) 1 1 [.int .i64 i, .int .i64 node, .int .i64 phase] rfl rfl (fun _ => ⟨_, rfl, World.news_of_block (heap_alloc_new wr _)⟩) (by simp [Value.oneCell']) (by simp only [maxLen]; omega) (by omega) (by have := hbw.size; simp; omega) ?_; intro T9 c9 w9 hown9 hg9 hat9)
            go_roundw
            case rel =>
              refine ⟨(hbw.alloc hbw.size _).grown hg9 (by have := hbw.size; simp; omega) (fun g e => (hown.lt g e).1), i + 1, by omega, by go_num, ?_⟩
              rw [HR.out]
              unfold OwnCalls
              rw [List.length_append, ← callCells_append]
              exact hown9
            case measure => simp [intOf]; omega
    · obtain rfl : i = all.length := by omega
      go_wp2_with fail
      go_ret
      exact ⟨_, rfl, hown, hbw⟩
end Go.Proofs.Ytpgcaehbbdnhiaa

/- SameAttrs, SameInts, Same: alike where the lists are the same; they only read (and draw). -/
import Derived.Test.YtpgcaehbbdnhiaaO3
namespace Go.Proofs.Ytpgcaehbbdnhiaa
open Go.RowKit
set_option maxRecDepth 100000 in
set_option maxHeartbeats 2000000 in
theorem SameAttrs_q (A : Option Addr) (ca : Nat) (A' : Option Addr) (ca' : Nat) (l : List GAttr) (w : World) (B : Nat) (_hl : l.length ≤ 4611686018427387904) (h : AttrsAt w B A l) (h' : AttrsAt w B A' l) (N : Nat) :
    Calls Try.prog 67 #[.slice A l.length ca, .slice A' l.length ca'] (w.drewN N) fun e w' => e = .returned (.bool true) ∧ ∃ m, w' = w.drewN m := by
  go_enter Try.func67, Try.ntmps67
  go_wp2_with fail
  go_loopw [5] (fun i wr => (∃ q, wr = w.drewN q) ∧ ∃ m : Nat, m ≤ l.length ∧ i = .int .i64 m) (fun i _ => l.length - (intOf i).toNat)
  case atStart => exact ⟨⟨N, rfl⟩, 0, by omega, rfl⟩
  case round =>
    obtain ⟨⟨q, rfl⟩, m, hm, rfl⟩ := hrel
    by_cases hlt : m < l.length
    · obtain ⟨b, o, rfl, hb, hc1, hc2⟩ := h.at_ hlt
      obtain ⟨b', o', rfl, hb', hc1', hc2'⟩ := h'.at_ hlt
      have k0 : (0 : Int) ≤ (m : Int) := by omega
      have k1 : (m : Int) < (l.length : Int) := by omega
      generalize l[m].name = x at hc1 hc1'
      generalize l[m].val = y at hc2 hc2'
      go_wp2_with fail
      go_quiet (fail)
      go_wp2_with fail
      go_roundw
      case rel => exact ⟨⟨_, rfl⟩, m + 1, by omega, by go_num⟩
      case measure => simp [intOf]; omega
    · go_wp2_with fail
      go_ret
      exact ⟨rfl, _, rfl⟩
set_option maxRecDepth 100000 in
set_option maxHeartbeats 2000000 in
theorem SameInts_q (A : Option Addr) (ca : Nat) (A' : Option Addr) (ca' : Nat) (l : List Int) (w : World) (B : Nat) (_hl : l.length ≤ 4611686018427387904) (h : IntsAt w B A l) (h' : IntsAt w B A' l) (N : Nat) :
    Calls Try.prog 20 #[.slice A l.length ca, .slice A' l.length ca'] (w.drewN N) fun e w' => e = .returned (.bool true) ∧ ∃ m, w' = w.drewN m := by
  go_enter Try.func20, Try.ntmps20
  go_wp2_with fail
  go_loopw [5] (fun i wr => (∃ q, wr = w.drewN q) ∧ ∃ m : Nat, m ≤ l.length ∧ i = .int .i64 m) (fun i _ => l.length - (intOf i).toNat)
  case atStart => exact ⟨⟨N, rfl⟩, 0, by omega, rfl⟩
  case round =>
    obtain ⟨⟨q, rfl⟩, m, hm, rfl⟩ := hrel
    by_cases hlt : m < l.length
    · obtain ⟨b, o, rfl, hb, hc⟩ := h.at_ hlt
      obtain ⟨b', o', rfl, hb', hc'⟩ := h'.at_ hlt
      have k0 : (0 : Int) ≤ (m : Int) := by omega
      have k1 : (m : Int) < (l.length : Int) := by omega
      generalize l[m] = x at hc hc'
      go_wp2_with fail
      go_quiet (fail)
      go_wp2_with fail
      go_roundw
      case rel => exact ⟨⟨_, rfl⟩, m + 1, by omega, by go_num⟩
      case measure => simp [intOf]; omega
    · go_wp2_with fail
      go_ret
      exact ⟨rfl, _, rfl⟩
set_option maxRecDepth 100000 in
set_option maxHeartbeats 4000000 in
theorem Same_c (A : Option Addr) (ca : Nat) (A' : Option Addr) (ca' : Nat) (l : List GNode) (w : World) (B : Nat) (_hl : l.length ≤ 4611686018427387904) (hs : ∀ n ∈ l, NodeSmall reachBytes n) (h : NodesAt w B A l) (h' : NodesAt w B A' l) :
    Calls Try.prog 33 #[.slice A l.length ca, .slice A' l.length ca'] w fun e w' => e = .returned (.bool true) ∧ Below w.heap.size w w' := by
  go_enter Try.func33, Try.ntmps33
  go_wp2_with fail
  go_loopw [5] (fun i wr => (∃ q, wr = w.drewN q) ∧ ∃ m : Nat, m ≤ l.length ∧ i = .int .i64 m) (fun i _ => l.length - (intOf i).toNat)
  case atStart => exact ⟨⟨0, rfl⟩, 0, by omega, rfl⟩
  case round =>
    obtain ⟨⟨q, hqw⟩, m, hm, rfl⟩ := hrel
    have hr1 : NodesAt wr B A l := by rw [hqw]; exact h.keep fun _ _ => rfl
    have hr2 : NodesAt wr B A' l := by rw [hqw]; exact h'.keep fun _ _ => rfl
    have HQW := Lib.hid hqw
    clear hqw
    by_cases hlt : m < l.length
    · obtain ⟨b, o, rfl, hb, -⟩ := hr1.at_ hlt
      obtain ⟨b', o', rfl, hb', -⟩ := hr2.at_ hlt
      have hsm := hs _ (List.getElem_mem hlt)
      have hal : l[m].attrs.length ≤ 4611686018427387904 := by have := hsm.attrs; unfold reachBytes at this; omega
      have hkl : l[m].kids.length ≤ 4611686018427387904 := by have := hsm.kids; unfold reachBytes at this; omega
      obtain ⟨T, ac, K, kc, x0, x1, x2, x3, x4, hT, hK, -, -⟩ := hr1.at2 hlt
      obtain ⟨T', ac', K', kc', y0, y1, y2, y3, y4, hT', hK', -, -⟩ := hr2.at2 hlt
      have k0 : (0 : Int) ≤ (m : Int) := by omega
      have k1 : (m : Int) < (l.length : Int) := by omega
      have hqa := SameAttrs_q T ac T' ac' l[m].attrs wr B hal hT hT'
      have hqi := SameInts_q K kc K' kc' l[m].kids wr B hkl hK hK'
      have HQA := Lib.hid hqa
      have HQI := Lib.hid hqi
      clear hqa hqi hT hK hT' hK' hsm
      generalize l[m].name = nm at x0 y0
      generalize l[m].text = tx at x1 y1
      generalize l[m].parent = pa at x3 y3
      generalize l[m].attrs = atl at x2 y2 HQA hal
      generalize l[m].kids = kd at x4 y4 HQI hkl
      go_wp2_with fail
      simp only [List.append_eq, List.cons_append, List.nil_append]
      go_quiet (first | (go_at_call 67; exact HQA.out _) | (go_at_call 20; exact HQI.out _))
      go_wp2_with fail
      go_roundw
      case rel => exact ⟨⟨_, by rw [HQW.out, World.drewN_drewN]⟩, m + 1, by omega, by go_num⟩
      case measure => simp [intOf]; omega
    · go_wp2_with fail
      go_ret
      exact ⟨rfl, by rw [HQW.out]; exact Below.drewN_ (Below.refl _ _) _⟩
end Go.Proofs.Ytpgcaehbbdnhiaa

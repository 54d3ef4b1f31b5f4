/- Contracts of the functions that look for an attribute. -/
import Derived.Test.YtjpoliagicceaaaProg
import Derived.Test.YtjpoliagicceaaaHeap
namespace Go.Proofs.Ytjpoliagicceaaa
open Go.RowKit
theorem attr1_c (n v m : ByteArray) (b : Nat) (w : World) (_hb : b < w.heap.size) (hc : w.cell? ⟨b, 0, none⟩ = some (.string m)) :
    Calls Try.prog 33 #[.agg #[.string n, .string v], .pointer (some ⟨b, 0, none⟩)] w fun e w' => e = .returned (.bool (n.toList == m.toList)) ∧ Below w.heap.size w w' := by
  go_enter Try.func33, Try.ntmps33
  go_wp2
  go_ret
  exact ⟨rfl, (Below.refl _ _).alloc (Nat.le_refl _) _⟩
theorem rFind_c (A : Option Addr) (c : Nat) (l : List GAttr) (m : ByteArray) (w : World) (B : Nat) (hl : l.length ≤ 4611686018427387904) (h : AttrsAt w B A l) :
    Calls Try.prog 28 #[.slice A l.length c, .string m] w fun e w' => e = .returned (.int .i64 (fnd l m.toList)) ∧ w = w' := by
  go_enter Try.func28, Try.ntmps28
  go_wp2_with fail
  go_loop [5] (fun i => ∃ k : Nat, k ≤ l.length ∧ i = .int .i64 k ∧ ∀ j (_ : j < l.length), j < k → (l[j].name.toList == m.toList) = false) (fun i => l.length - (intOf i).toNat)
  case atStart => exact ⟨0, by omega, rfl, fun j _ hj => by omega⟩
  case round =>
    obtain ⟨k, hk, rfl, hn⟩ := hrel
    have HN := Lib.hid hn
    clear hn
    by_cases hlt : k < l.length
    · obtain ⟨b, o, rfl, hb, hc1, _⟩ := h.at_ hlt
      by_cases hm : (l[k].name.toList == m.toList) = true
      · have HF := Lib.hid (fnd_at hlt HN.out hm)
        go_wp2
        go_ret
        exact ⟨ret_int HF.out.symm, rfl⟩
      · have hm' : (l[k].name.toList == m.toList) = false := by simpa using hm
        clear hm
        have HM := Lib.hid hm'
        go_wp2
        go_round
        case rel => exact ⟨k + 1, by omega, by go_num, fun j h1 h2 => by
          by_cases e : j = k
          · subst e; exact HM.out
          · exact HN.out j h1 (by omega)⟩
        case measure => simp [intOf]; omega
    · have HF := Lib.hid (fnd_none (l := l) (m := m.toList) fun j hj => HN.out j hj (by omega))
      go_wp2
      go_ret
      exact ⟨ret_int HF.out.symm, rfl⟩
set_option maxHeartbeats 400000 in
theorem IndexFunc_c (A : Option Addr) (c : Nat) (l : List GAttr) (m : ByteArray) (w : World) (b : Nat) (B : Nat) (hB : B ≤ w.heap.size) (hl : l.length ≤ 4611686018427387904) (h : AttrsAt w B A l)
    (hb : b < w.heap.size) (hc : w.cell? ⟨b, 0, none⟩ = some (.string m)) :
    Calls Try.prog 32 #[.slice A l.length c, .func (.func 33) #[] #[.pointer (some ⟨b, 0, none⟩)]] w
      fun e w' => e = .returned (.int .i64 (fnd l m.toList)) ∧ Below w.heap.size w w' := by
  go_enter Try.func32, Try.ntmps32
  go_wp2_with fail
  go_loopw [8] (fun i wr => Below w.heap.size w wr ∧ ∃ k : Nat, k ≤ l.length ∧ i = .int .i64 k ∧ ∀ j (_ : j < l.length), j < k → (l[j].name.toList == m.toList) = false) (fun i _ => l.length - (intOf i).toNat)
  case atStart => exact ⟨Below.refl _ _, 0, by omega, rfl, fun j _ hj => by omega⟩
  case round =>
    obtain ⟨hbel, k, hk, rfl, hn⟩ := hrel
    have HN := Lib.hid hn
    clear hn
    by_cases hlt : k < l.length
    · obtain ⟨ab, o, rfl, hab, hc1, hc2⟩ := (h.below (hbel.mono hB)).at_ hlt
      have hcr := (hbel.cell (p := ⟨b, 0, none⟩) hb).trans hc
      have hbr : b < wr.heap.size := Nat.lt_of_lt_of_le hb hbel.size
      clear hc
      by_cases hm : (l[k].name.toList == m.toList) = true
      · have HF := Lib.hid (fnd_at hlt HN.out hm)
        go_wp2_with (go_at_call 33; refine (attr1_c _ _ m _ _ hbr hcr).mono ?_; rintro e w' ⟨rfl, hb2⟩)
        go_ret
        exact ⟨ret_int HF.out.symm, hbel.trans (hb2.mono hbel.size)⟩
      · have hm' : (l[k].name.toList == m.toList) = false := by simpa using hm
        clear hm
        have HM := Lib.hid hm'
        go_wp2_with (go_at_call 33; refine (attr1_c _ _ m _ _ hbr hcr).mono ?_; rintro e w' ⟨rfl, hb2⟩)
        go_roundw
        case rel => exact ⟨hbel.trans (hb2.mono hbel.size), k + 1, by omega, by go_num, fun j h1 h2 => by
          by_cases e : j = k
          · subst e; exact HM.out
          · exact HN.out j h1 (by omega)⟩
        case measure => simp [intOf]; omega
    · have HF := Lib.hid (fnd_none (l := l) (m := m.toList) fun j hj => HN.out j hj (by omega))
      go_wp2
      go_ret
      exact ⟨ret_int HF.out.symm, hbel⟩
end Go.Proofs.Ytjpoliagicceaaa

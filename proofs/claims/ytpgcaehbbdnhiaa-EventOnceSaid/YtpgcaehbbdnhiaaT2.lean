/- Contracts of the functions that find an attribute, and that count in a list of numbers. -/
import Derived.Test.YtpgcaehbbdnhiaaT1
namespace Go.Proofs.Ytpgcaehbbdnhiaa
open Go.RowKit
theorem find1_c (n v m : ByteArray) (b : Nat) (w : World) (_hb : b < w.heap.size) (hc : w.cell? ⟨b, 0, none⟩ = some (.string m)) :
    Calls Try.prog 87 #[.agg #[.string n, .string v], .pointer (some ⟨b, 0, none⟩)] w fun e w' => e = .returned (.bool (n.toList == m.toList)) ∧ Below w.heap.size w w' := by
  go_enter Try.func87, Try.ntmps87
  go_wp2
  go_ret
  exact ⟨rfl, (Below.refl _ _).alloc (Nat.le_refl _) _⟩
theorem rFind_c (A : Option Addr) (c : Nat) (l : List GAttr) (m : ByteArray) (w : World) (B : Nat) (hl : l.length ≤ 4611686018427387904) (h : AttrsAt w B A l) :
    Calls Try.prog 75 #[.slice A l.length c, .string m] w fun e w' => e = .returned (.int .i64 (fnd l m.toList)) ∧ w = w' := by
  go_enter Try.func75, Try.ntmps75
  go_wp2_with fail
  go_loop [5] (fun i => ∃ k : Nat, k ≤ l.length ∧ i = .int .i64 k ∧ ∀ j (_ : j < l.length), j < k → (l[j].name.toList == m.toList) = false) (fun i => l.length - (intOf i).toNat)
  case atStart => exact ⟨0, by omega, rfl, fun j _ hj => by omega⟩
  case round =>
    obtain ⟨k, hk, rfl, hn⟩ := hrel
    have HN := Lib.hid hn
    clear hn
    by_cases hlt : k < l.length
    · obtain ⟨b, o, rfl, hb, hc1, _⟩ := h.at_ hlt
      by_cases hm : (l[k].name.toList == m.toList) = true
      · have HF := Lib.hid (fnd_at hlt HN.out hm)
        go_wp2
        go_ret
        exact ⟨ret_int HF.out.symm, rfl⟩
      · have hm' : (l[k].name.toList == m.toList) = false := by simpa using hm
        clear hm
        have HM := Lib.hid hm'
        go_wp2
        go_round
        case rel => exact ⟨k + 1, by omega, by go_num, fun j h1 h2 => by
          by_cases e : j = k
          · subst e; exact HM.out
          · exact HN.out j h1 (by omega)⟩
        case measure => simp [intOf]; omega
    · have HF := Lib.hid (fnd_none (l := l) (m := m.toList) fun j hj => HN.out j hj (by omega))
      go_wp2
      go_ret
      exact ⟨ret_int HF.out.symm, rfl⟩
set_option maxHeartbeats 400000 in
theorem IndexFunc_c (A : Option Addr) (c : Nat) (l : List GAttr) (m : ByteArray) (w : World) (b : Nat) (B : Nat) (hB : B ≤ w.heap.size) (hl : l.length ≤ 4611686018427387904) (h : AttrsAt w B A l)
    (hb : b < w.heap.size) (hc : w.cell? ⟨b, 0, none⟩ = some (.string m)) :
    Calls Try.prog 86 #[.slice A l.length c, .func (.func 87) #[] #[.pointer (some ⟨b, 0, none⟩)]] w
      fun e w' => e = .returned (.int .i64 (fnd l m.toList)) ∧ Below w.heap.size w w' := by
  go_enter Try.func86, Try.ntmps86
  go_wp2_with fail
  go_loopw [8] (fun i wr => Below w.heap.size w wr ∧ ∃ k : Nat, k ≤ l.length ∧ i = .int .i64 k ∧ ∀ j (_ : j < l.length), j < k → (l[j].name.toList == m.toList) = false) (fun i _ => l.length - (intOf i).toNat)
  case atStart => exact ⟨Below.refl _ _, 0, by omega, rfl, fun j _ hj => by omega⟩
  case round =>
    obtain ⟨hbel, k, hk, rfl, hn⟩ := hrel
    have HN := Lib.hid hn
    clear hn
    by_cases hlt : k < l.length
    · obtain ⟨ab, o, rfl, hab, hc1, hc2⟩ := (h.below (hbel.mono hB)).at_ hlt
      have hcr := (hbel.cell (p := ⟨b, 0, none⟩) hb).trans hc
      have hbr : b < wr.heap.size := Nat.lt_of_lt_of_le hb hbel.size
      clear hc
      by_cases hm : (l[k].name.toList == m.toList) = true
      · have HF := Lib.hid (fnd_at hlt HN.out hm)
        go_wp2_with (go_at_call 87; refine (find1_c _ _ m _ _ hbr hcr).mono ?_; rintro e w' ⟨rfl, hb2⟩)
        go_ret
        exact ⟨ret_int HF.out.symm, hbel.trans (hb2.mono hbel.size)⟩
      · have hm' : (l[k].name.toList == m.toList) = false := by simpa using hm
        clear hm
        have HM := Lib.hid hm'
        go_wp2_with (go_at_call 87; refine (find1_c _ _ m _ _ hbr hcr).mono ?_; rintro e w' ⟨rfl, hb2⟩)
        go_roundw
        case rel => exact ⟨hbel.trans (hb2.mono hbel.size), k + 1, by omega, by go_num, fun j h1 h2 => by
          by_cases e : j = k
          · subst e; exact HM.out
          · exact HN.out j h1 (by omega)⟩
        case measure => simp [intOf]; omega
    · have HF := Lib.hid (fnd_none (l := l) (m := m.toList) fun j hj => HN.out j hj (by omega))
      go_wp2
      go_ret
      exact ⟨ret_int HF.out.symm, hbel⟩

set_option maxHeartbeats 400000 in
theorem find_c (A : Option Addr) (c n : Nat) (l : List GAttr) (m : ByteArray) (w : World) (B : Nat) (hB : B ≤ w.heap.size) (hn : n = l.length) (hl : l.length ≤ 4611686018427387904) (h : AttrsAt w B A l) :
    Calls Try.prog 72 #[.slice A n c, .string m] w fun e w' => e = .returned (.int .i64 (fnd l m.toList)) ∧ Below w.heap.size w w' := by
  subst hn
  have hbel : Below w.heap.size w (w.alloc (Obj.cells #[.string m] 9)) := (Below.refl w.heap.size w).alloc (Nat.le_refl _) _
  have hw2 : AttrsAt (w.alloc (Obj.cells #[.string m] 9)) B A l := h.below (hbel.mono hB)
  have hcm : (w.alloc (Obj.cells #[.string m] 9)).cell? ⟨w.heap.size, 0, none⟩ = some (.string m) := by go_simp
  go_enter Try.func72, Try.ntmps72
  go_wp2_with fail
  refine (IndexFunc_c A c l m _ w.heap.size B (by simp; omega) hl hw2 (by simp) hcm).mono ?_
  rintro e w1 ⟨rfl, hb1⟩
  have hbw := hbel.trans (hb1.mono (by simp))
  clear hw2 hcm hbel hb1
  go_wp2_with fail
  go_ret
  exact ⟨rfl, hbw⟩

/-- how often a number stands in a list -/
def cnt (l : List Int) (n : Int) : Int := (l.filter (· == n)).length
theorem cnt_succ {l : List Int} {k : Nat} (h : k < l.length) (n : Int) : cnt (l.take (k + 1)) n = cnt (l.take k) n + if l[k] == n then 1 else 0 := by
  unfold cnt
  rw [List.take_succ_eq_append_getElem h, List.filter_append]
  by_cases e : (l[k] == n) = true
  · rw [if_pos e]; simp [e]
  · rw [if_neg e]; simp [e]
theorem cnt_bd (l : List Int) (n : Int) : 0 ≤ cnt l n ∧ cnt l n ≤ l.length := by
  unfold cnt
  exact ⟨by omega, by have := List.length_filter_le (· == n) l; omega⟩
theorem count_c (A : Option Addr) (c : Nat) (l : List Int) (n : Int) (w : World) (B : Nat) (hl : l.length ≤ 4611686018427387904) (h : IntsAt w B A l) :
    Calls Try.prog 61 #[.slice A l.length c, .int .i64 n] w fun e w' => e = .returned (.int .i64 (cnt l n)) ∧ w = w' := by
  go_enter Try.func61, Try.ntmps61
  go_wp2_with fail
  go_loop [5, 6] (fun s i => ∃ k : Nat, k ≤ l.length ∧ i = .int .i64 k ∧ s = .int .i64 (cnt (l.take k) n)) (fun _ i => l.length - (intOf i).toNat)
  case atStart => exact ⟨0, by omega, rfl, by simp [cnt]⟩
  case round =>
    obtain ⟨k, hk, rfl, rfl⟩ := hrel
    have hb := cnt_bd (l.take k) n
    have hlk : (l.take k).length ≤ k := List.length_take_le _ _
    by_cases hlt : k < l.length
    · obtain ⟨b, o, rfl, hbB, hc⟩ := h.at_ hlt
      have HS := Lib.hid (cnt_succ hlt n)
      by_cases he : (l[k] == n) = true
      · have HE := Lib.hid he
        go_wp2_with fail
        go_round
        case rel => exact ⟨k + 1, by omega, by go_num, by rw [HS.out, if_pos HE.out]⟩
        case measure => simp [intOf]; omega
      · have he' : (l[k] == n) = false := by simpa using he
        have HE := Lib.hid he
        clear he
        go_wp2_with fail
        go_round
        case rel => exact ⟨k + 1, by omega, by go_num, by rw [HS.out, if_neg HE.out]; simp⟩
        case measure => simp [intOf]; omega
    · have HK := Lib.hid (show cnt (l.take k) n = cnt l n by rw [List.take_of_length_le (by omega)])
      go_wp2_with fail
      go_ret
      exact ⟨ret_int HK.out, rfl⟩
end Go.Proofs.Ytpgcaehbbdnhiaa

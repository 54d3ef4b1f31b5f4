/- slices.DeleteFunc, slices.Index, slices.Contains of integers; without. -/
import Derived.Test.YtpgcaehbbdnhiaaB2
import Derived.Test.YtpgcaehbbdnhiaaO2
namespace Go.Proofs.Ytpgcaehbbdnhiaa
open Go.RowKit
def fndI (l : List Int) (m : Int) : Int := match l.findIdx? (fun a => a == m) with | some i => (i : Int) | none => -1
theorem fndI_at {l : List Int} {m : Int} {k : Nat} (hk : k < l.length) (h : ∀ j (_ : j < l.length), j < k → (l[j] == m) = false) (hm : (l[k] == m) = true) : fndI l m = k := by
  have : l.findIdx? (fun a => a == m) = some k := by
    rw [List.findIdx?_eq_some_iff_getElem]
    exact ⟨hk, hm, fun j hj => by rw [h j (by omega) hj]; simp⟩
  unfold fndI; rw [this]
theorem fndI_none {l : List Int} {m : Int} (h : ∀ j (_ : j < l.length), (l[j] == m) = false) : fndI l m = -1 := by
  have : l.findIdx? (fun a => a == m) = none := by
    rw [List.findIdx?_eq_none_iff]
    intro x hx
    obtain ⟨j, hj, rfl⟩ := List.mem_iff_getElem.1 hx
    exact h j hj
  unfold fndI; rw [this]
theorem fndI_bd (l : List Int) (m : Int) : -1 ≤ fndI l m ∧ fndI l m < l.length := by
  unfold fndI
  split
  · rename_i i h
    obtain ⟨hi, _⟩ := List.findIdx?_eq_some_iff_getElem.1 h
    omega
  · omega
theorem fndI_is {l : List Int} {m : Int} {k : Nat} (hk : fndI l m = k) : ∃ h : k < l.length, l[k] = m ∧ ∀ j (_ : j < l.length), j < k → (l[j] == m) = false := by
  unfold fndI at hk
  split at hk
  · rename_i i h
    obtain ⟨hi, hm, hb⟩ := List.findIdx?_eq_some_iff_getElem.1 h
    obtain rfl : i = k := by omega
    exact ⟨hi, by simpa using hm, fun j hj hji => by simpa using hb j hji⟩
  · omega
theorem fndI_neg {l : List Int} {m : Int} (h : fndI l m < 0) : ∀ j (_ : j < l.length), (l[j] == m) = false := by
  intro j hj
  unfold fndI at h
  split at h
  · omega
  · rename_i hn
    rw [List.findIdx?_eq_none_iff] at hn
    exact hn _ (List.getElem_mem hj)
def filI (l : List Int) (m : Int) : List Int := l.filter fun a => !(a == m)
theorem filI_all {l : List Int} {m : Int} (h : ∀ j (_ : j < l.length), (l[j] == m) = false) : filI l m = l := by
  unfold filI
  rw [List.filter_eq_self]
  intro a ha
  obtain ⟨j, hj, rfl⟩ := List.mem_iff_getElem.1 ha
  rw [h j hj]; rfl
theorem filI_succ {l : List Int} {m : Int} {j : Nat} (h : j < l.length) : filI (l.take (j + 1)) m = filI (l.take j) m ++ (if l[j] == m then [] else [l[j]]) := by
  unfold filI
  rw [List.take_succ_eq_append_getElem h, List.filter_append]
  congr 1
  by_cases e : (l[j] == m) = true
  · rw [if_pos e]; simp [e]
  · have e' : (l[j] == m) = false := by simpa using e
    rw [if_neg e]; simp [e']
theorem intCells_take (l : List Int) (k : Nat) : (intCells l).take (k * 1) = intCells (l.take k) := by simp [intCells, List.map_take]
theorem intCells_drop (l : List Int) (k : Nat) : (intCells l).drop (k * 1) = intCells (l.drop k) := by simp [intCells, List.map_drop]
theorem tk1_c (n m : Int) (b : Nat) (w : World) (hc : w.cell? ⟨b, 0, none⟩ = some (.int .i64 m)) :
    Calls Try.prog 83 #[.int .i64 n, .pointer (some ⟨b, 0, none⟩)] w fun e w' => e = .returned (.bool (n == m)) ∧ w = w' := by
  go_enter Try.func83, Try.ntmps83
  go_wp2
  go_ret
  exact ⟨by simp, rfl⟩
set_option maxHeartbeats 400000 in
theorem IndexTk_c (A : Option Addr) (c : Nat) (l : List Int) (m : Int) (w : World) (b : Nat) (hc : w.cell? ⟨b, 0, none⟩ = some (.int .i64 m)) (B : Nat) (_hl : l.length ≤ 4611686018427387904) (h : IntsAt w B A l) :
    Calls Try.prog 89 #[.slice A l.length c, .func (.func 83) #[] #[.pointer (some ⟨b, 0, none⟩)]] w fun e w' => e = .returned (.int .i64 (fndI l m)) ∧ w = w' := by
  go_enter Try.func89, Try.ntmps89
  go_wp2_with fail
  go_loop [8] (fun i => ∃ k : Nat, k ≤ l.length ∧ i = .int .i64 k ∧ ∀ j (_ : j < l.length), j < k → (l[j] == m) = false) (fun i => l.length - (intOf i).toNat)
  case atStart => exact ⟨0, by omega, rfl, fun j _ hj => by omega⟩
  case round =>
    obtain ⟨k, hk, rfl, hn⟩ := hrel
    have HN := Lib.hid hn
    clear hn
    by_cases hlt : k < l.length
    · obtain ⟨ab, o, rfl, hab, hc1⟩ := h.at_ hlt
      have HAT := Lib.hid (fndI_at (m := m) hlt)
      generalize hx : l[k] = x at hc1 HAT
      have HX := Lib.hid hx
      clear hx
      by_cases hm : x = m
      · have HF := Lib.hid (HAT.out HN.out (by simpa using hm))
        have hm1 : (x == m) = true := by simpa using hm
        have hm2 : (m == x) = true := by rw [hm]; simp
        clear hm
        go_wp2_with (go_at_call 83; refine (tk1_c _ m b _ hc).mono ?_; rintro e w1 ⟨rfl, rfl⟩)
        go_ret
        exact ⟨ret_int HF.out.symm, rfl⟩
      · have hm1 : (x == m) = false := by simpa using hm
        have hm2 : (m == x) = false := by simpa using fun e : m = x => hm e.symm
        clear hm
        go_wp2_with (go_at_call 83; refine (tk1_c _ m b _ hc).mono ?_; rintro e w1 ⟨rfl, rfl⟩)
        go_round
        case rel => exact ⟨k + 1, by omega, by go_num, fun j h1 h2 => by
          by_cases e : j = k
          · subst e; rw [HX.out]; exact hm1
          · exact HN.out j h1 (by omega)⟩
        case measure => simp [intOf]; omega
    · have HF := Lib.hid (fndI_none (l := l) (m := m) fun j hj => HN.out j hj (by omega))
      go_wp2
      go_ret
      exact ⟨ret_int HF.out.symm, rfl⟩
set_option maxHeartbeats 400000 in
theorem Index_c (A : Option Addr) (c : Nat) (l : List Int) (m : Int) (w : World) (B : Nat) (_hl : l.length ≤ 4611686018427387904) (h : IntsAt w B A l) :
    Calls Try.prog 70 #[.slice A l.length c, .int .i64 m] w fun e w' => e = .returned (.int .i64 (fndI l m)) ∧ w = w' := by
  go_enter Try.func70, Try.ntmps70
  go_wp2_with fail
  go_loop [8] (fun i => ∃ k : Nat, k ≤ l.length ∧ i = .int .i64 k ∧ ∀ j (_ : j < l.length), j < k → (l[j] == m) = false) (fun i => l.length - (intOf i).toNat)
  case atStart => exact ⟨0, by omega, rfl, fun j _ hj => by omega⟩
  case round =>
    obtain ⟨k, hk, rfl, hn⟩ := hrel
    have HN := Lib.hid hn
    clear hn
    by_cases hlt : k < l.length
    · obtain ⟨ab, o, rfl, hab, hc1⟩ := h.at_ hlt
      have HAT := Lib.hid (fndI_at (m := m) hlt)
      generalize hx : l[k] = x at hc1 HAT
      have HX := Lib.hid hx
      clear hx
      by_cases hm : x = m
      · have HF := Lib.hid (HAT.out HN.out (by simpa using hm))
        have hm1 : (x == m) = true := by simpa using hm
        have hm2 : (m == x) = true := by rw [hm]; simp
        clear hm
        go_wp2_with (fail)
        go_ret
        exact ⟨ret_int HF.out.symm, rfl⟩
      · have hm1 : (x == m) = false := by simpa using hm
        have hm2 : (m == x) = false := by simpa using fun e : m = x => hm e.symm
        clear hm
        go_wp2_with (fail)
        go_round
        case rel => exact ⟨k + 1, by omega, by go_num, fun j h1 h2 => by
          by_cases e : j = k
          · subst e; rw [HX.out]; exact hm1
          · exact HN.out j h1 (by omega)⟩
        case measure => simp [intOf]; omega
    · have HF := Lib.hid (fndI_none (l := l) (m := m) fun j hj => HN.out j hj (by omega))
      go_wp2
      go_ret
      exact ⟨ret_int HF.out.symm, rfl⟩
theorem zero_int : ∀ w, (zeroValue 3).run Try.prog w = .ok (.int .i64 0) w := Try.zeroValue3
set_option maxRecDepth 100000 in
set_option maxHeartbeats 1000000 in
theorem DelI_c (T : Option Addr) (c : Nat) (l : List Int) (m : Int) (w : World) (base b : Nat) (hll : l.length ≤ 4611686018427387904) (hown : w.ownsRow base 3 1 (.slice T l.length c) l.length (intCells l))
    (hb : b < w.heap.size) (hbT : (Value.slice T l.length c).ownBlock ≠ some b) (hc : w.cell? ⟨b, 0, none⟩ = some (.int .i64 m)) :
    Calls Try.prog 82 #[.slice T l.length c, .func (.func 83) #[] #[.pointer (some ⟨b, 0, none⟩)]] w
      fun e w' => ∃ T' c', e = .returned (.slice T' (filI l m).length c') ∧ w'.ownsRow base 3 1 (.slice T' (filI l m).length c') (filI l m).length (intCells (filI l m)) ∧ w.grownBy w' (Value.slice T l.length c).ownBlock ∧
        ∀ g, (Value.slice T' (filI l m).length c').ownBlock = some g → (Value.slice T l.length c).ownBlock = some g := by
  have hA := ints_of_owns hown
  by_cases h0 : fndI l m < 0
  · have hall : filI l m = l := filI_all (fndI_neg h0)
    rw [hall]
    have hf : fndI l m = -1 := by have := (fndI_bd l m).1; omega
    have HO := Lib.hid hown
    clear hall h0 hown
    go_enter Try.func82, Try.ntmps82
    go_wp2_with (go_at_call 89; refine (IndexTk_c T c l m w b hc w.heap.size hll hA).mono ?_; rw [hf]; rintro e w1 ⟨rfl, rfl⟩)
    go_ret
    exact ⟨T, c, rfl, HO.out, ⟨rfl, rfl, rfl, Nat.le_refl _, fun _ _ _ => rfl⟩, fun g e => e⟩
  · obtain ⟨k, hk⟩ := Int.eq_ofNat_of_zero_le (Int.not_lt.1 h0)
    obtain ⟨hkl, hkm, hbef⟩ := fndI_is hk
    have hst : filI (l.take (k + 1)) m = l.take k := by
      rw [filI_succ hkl, if_pos (by simpa using hkm), List.append_nil]
      exact filI_all fun j hj => by
        rw [List.length_take] at hj
        rw [List.getElem_take]
        exact hbef j (by omega) (by omega)
    have HST := Lib.hid hst
    obtain ⟨g, cap, e1, hgb, hgl, -⟩ := owns_form hown (by omega)
    cases e1
    have hbg : b ≠ g := fun e => hbT (by rw [e]; rfl)
    have hcap := owns_le hown
    have HO := Lib.hid hown
    have HK := Lib.hid hk
    have hkm1 : ((k : Int) == -1) = false := by rw [beq_eq_false_iff_ne]; omega
    clear h0 hbef hst hkm hown hbT
    go_enter Try.func82, Try.ntmps82
    go_wp2_with (go_at_call 89; refine (IndexTk_c _ c l m w b hc w.heap.size hll hA).mono ?_; rw [HK.out]; rintro e w1 ⟨rfl, rfl⟩)
    go_loopw [5, 6] (fun iv jv wr => w.grownBy wr (some g) ∧ ∃ (j i : Nat) (xs : List Value), j ≤ l.length ∧ i < j ∧ jv = .int .i64 j ∧ iv = .int .i64 i ∧ i = (filI (l.take j) m).length ∧ wr.ownsRow base 3 1 (.slice (some ⟨g, 0, none⟩) l.length c) l.length xs ∧ xs.take (i * 1) = intCells (filI (l.take j) m) ∧ xs.drop (j * 1) = intCells (l.drop j)) (fun _ jv _ => l.length - (intOf jv).toNat)
    case atStart => exact ⟨⟨rfl, rfl, rfl, Nat.le_refl _, fun _ _ _ => rfl⟩, k + 1, k, intCells l, by omega, by omega, by go_num, rfl, by rw [HST.out, List.length_take]; omega, HO.out, by rw [HST.out, intCells_take], intCells_drop l (k + 1)⟩
    case round =>
      obtain ⟨hgw, j, i, xs, hj, hij, rfl, rfl, hil, hrow, htk, hdr⟩ := hrel
      have HIL := Lib.hid hil
      have HTK := Lib.hid htk
      have HDR := Lib.hid hdr
      have hxl := hrow.1
      clear hil htk
      by_cases hjl : j < l.length
      · have x0 : wr.cell? ⟨g, j, none⟩ = some (.int .i64 l[j]) := by
          rw [hrow.cellAt _ (by omega)]
          have e1 : xs[j]? = (xs.drop (j * 1))[0]? := by rw [List.getElem?_drop]; congr 1; omega
          rw [e1, hdr]
          simp [intCells, hjl]
        have hgz := (hrow.lt g rfl).2
        have hcr : wr.cell? ⟨b, 0, none⟩ = some (.int .i64 m) := (hgw.cell_far ⟨b, 0, none⟩ hb (by intro e; cases e; exact hbg rfl)).trans hc
        have hjn : (0 : Int) ≤ (j : Int) := by omega
        have hsucc := filI_succ (m := m) hjl
        have f0 := owns_frozen hrow i
        obtain ⟨v0, hv0⟩ : ∃ v, wr.cell? ⟨g, i, none⟩ = some v := ⟨xs[i]'(by omega), (hrow.cellAt _ (by omega)).trans (List.getElem?_eq_getElem (by omega))⟩
        have HSU := Lib.hid hsucc
        have HROW := Lib.hid hrow
        clear hsucc hrow hdr
        by_cases hm : (l[j] == m) = true
        · go_wp2_with (go_at_call 83; refine (tk1_c l[j] m b _ hcr).mono ?_; rintro e w2 ⟨rfl, rfl⟩)
          go_roundw
          case rel => exact ⟨hgw, j + 1, i, xs, by omega, by omega, by go_num, rfl, by rw [HSU.out, if_pos hm, List.append_nil]; exact HIL.out, HROW.out, by rw [HSU.out, if_pos hm, List.append_nil]; exact HTK.out, by
            rw [show (j + 1) * 1 = j * 1 + 1 by omega, ← List.drop_drop, HDR.out]
            exact intCells_drop _ 1 |>.trans (by rw [List.drop_drop])⟩
          case measure => simp [intOf]; omega
        · have hm' : (l[j] == m) = false := by simpa using hm
          have hi0 : (0 : Int) ≤ (i : Int) := by omega
          have hil' : (i : Int) < (l.length : Int) := by omega
          clear hm
          go_wp2_with (go_at_call 83; refine (tk1_c l[j] m b _ hcr).mono ?_; rintro e w2 ⟨rfl, rfl⟩)
          have r3 := HROW.out.stored i (.int .i64 l[j])
          go_roundw
          case rel =>
            refine ⟨grown_trans hgw r3.2, j + 1, i + 1, _, by omega, by omega, by go_num, by go_num, ?_, r3.1, ?_, ?_⟩
            · rw [HSU.out, if_neg (by rw [hm']; simp), List.length_append]; have := HIL.out; simp; omega
            · rw [HSU.out, if_neg (by rw [hm']; simp), ← intCells_append, ← HTK.out]
              refine List.ext_getElem? fun r => ?_
              rw [List.getElem?_take]
              by_cases hr : r < i * 1
              · rw [if_pos (by omega), List.getElem?_set_ne (by omega), List.getElem?_append_left (by rw [List.length_take]; omega), List.getElem?_take, if_pos hr]
              · rw [List.getElem?_append_right (by rw [List.length_take]; omega), List.length_take, Nat.min_eq_left (by omega)]
                by_cases h0 : r = i * 1
                · subst h0
                  rw [if_pos (by omega), show i * 1 = i by omega, List.getElem?_set_self (by omega)]
                  simp [intCells]
                · rw [if_neg (by omega), List.getElem?_eq_none (by simp [intCells]; omega)]
            · rw [List.drop_set, if_pos (by omega), show (j + 1) * 1 = j * 1 + 1 by omega, ← List.drop_drop, HDR.out]
              exact intCells_drop _ 1 |>.trans (by rw [List.drop_drop])
          case measure => simp [intOf]; omega
      · obtain rfl : j = l.length := by omega
        have HF := Lib.hid (show (filI l m).length = i by have := HIL.out; rw [List.take_length] at this; omega)
        obtain ⟨wc2, hcl, hrc, hgc⟩ := owns_clear (P := Try.prog) (size := 1) (t := 26) Try.underlying26 zero_int rfl (by decide) hrow hij (c - i)
        simp only [Nat.mul_one] at hcl
        have hi0 : (0 : Int) ≤ (i : Int) := by omega
        have hi1 : (i : Int) ≤ (l.length : Int) := by omega
        have hi2 : (l.length : Int) ≤ (c : Int) := by omega
        have hi3 : (i : Int) ≤ (c : Int) := by omega
        have hne : ¬ c = i := by omega
        have HRC := Lib.hid hrc
        go_wp2_with fail
        go_ret
        refine ⟨some ⟨g, 0, none⟩, c, by rw [HF.out]; simp, ?_, grown_trans hgw hgc, fun _ e => e⟩
        have e1 := HTK.out
        rw [List.take_length] at e1
        have e2 := HRC.out
        rw [e1] at e2
        rw [HF.out]
        exact e2
end Go.Proofs.Ytpgcaehbbdnhiaa

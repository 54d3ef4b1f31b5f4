/- Contracts of the two texts' names. -/
import Derived.Test.YtpgcaehbbdnhiaaProg
import Derived.Test.YtpgcaehbbdnhiaaHeap
namespace Go.Proofs.Ytpgcaehbbdnhiaa
open Go.RowKit
def smallB (c : UInt8) : Bool := decide (97 ≤ c.toNat ∧ c.toNat ≤ 122)
def okB (c : UInt8) : Bool := decide (97 ≤ c.toNat ∧ c.toNat ≤ 122 ∨ 48 ≤ c.toNat ∧ c.toNat ≤ 57 ∨ c.toNat = 45)
/-- is it a name? -/
def nameB (l : List UInt8) : Bool := decide (0 < l.length) && decide (l.length ≤ 20) && smallB (l.getD 0 0) && l.all okB
/-- may a byte stand at a place of a name? -/
def okAt (l : List UInt8) (k : Nat) : Bool := if k = 0 then smallB (l.getD 0 0) else okB (l.getD k 0)
theorem small_ok {c : UInt8} (h : smallB c = true) : okB c = true := by
  simp only [smallB, okB, decide_eq_true_eq] at *
  exact .inl h
theorem nameB_yes {l : List UInt8} (h0 : 0 < l.length) (h1 : l.length ≤ 20) (h : ∀ j, j < l.length → okAt l j = true) : nameB l = true := by
  have hs := h 0 h0
  unfold okAt at hs
  rw [if_pos rfl] at hs
  unfold nameB
  simp only [Bool.and_eq_true, decide_eq_true_eq, List.all_eq_true]
  refine ⟨⟨⟨h0, h1⟩, hs⟩, fun c hc => ?_⟩
  obtain ⟨j, hj, rfl⟩ := List.mem_iff_getElem.1 hc
  have := h j hj
  unfold okAt at this
  split at this
  · rename_i e
    subst e
    rw [List.getD, List.getElem?_eq_getElem hj] at this
    exact small_ok this
  · rw [List.getD, List.getElem?_eq_getElem hj] at this
    exact this
theorem nameB_no {l : List UInt8} {k : Nat} (hk : k < l.length) (h : okAt l k = false) : nameB l = false := by
  cases hn : nameB l with
  | false => rfl
  | true =>
    unfold nameB at hn
    simp only [Bool.and_eq_true, decide_eq_true_eq, List.all_eq_true] at hn
    obtain ⟨⟨⟨_, _⟩, hs⟩, ha⟩ := hn
    unfold okAt at h
    split at h
    · rw [hs] at h; exact h
    · rw [List.getD, List.getElem?_eq_getElem hk] at h
      rw [← h]
      exact (ha _ (List.getElem_mem hk)).symm
theorem nameB_len {l : List UInt8} (h : l.length = 0 ∨ 20 < l.length) : nameB l = false := by
  unfold nameB
  rcases h with h | h
  · rw [decide_eq_false (by omega : ¬ 0 < l.length)]; rfl
  · rw [decide_eq_false (by omega : ¬ l.length ≤ 20)]; simp
theorem getD_at (s : ByteArray) (k : Nat) (h : k < s.size) : s.toList.getD k 0 = s[k] := by
  have h' : k < s.toList.length := by rw [ba_len]; exact h
  rw [List.getD, List.getElem?_eq_getElem h']
  simp [ba_list]
  rfl
theorem okAt_yes {s : ByteArray} {k : Nat} (h : k < s.size) (hc : (97 : Int) ≤ s[k].toNat ∧ (s[k].toNat : Int) ≤ 122 ∨ k ≠ 0 ∧ ((48 : Int) ≤ s[k].toNat ∧ (s[k].toNat : Int) ≤ 57 ∨ (s[k].toNat : Int) = 45)) : okAt s.toList k = true := by
  unfold okAt
  split
  · rename_i e
    subst e
    rw [getD_at s 0 h, smallB, decide_eq_true_eq]
    omega
  · rw [getD_at s k h, okB, decide_eq_true_eq]
    omega
theorem okAt_no {s : ByteArray} {k : Nat} (h : k < s.size) (hc : ¬ ((97 : Int) ≤ s[k].toNat ∧ (s[k].toNat : Int) ≤ 122) ∧ (k = 0 ∨ ¬ ((48 : Int) ≤ s[k].toNat ∧ (s[k].toNat : Int) ≤ 57 ∨ (s[k].toNat : Int) = 45))) : okAt s.toList k = false := by
  unfold okAt
  split
  · rename_i e
    subst e
    rw [getD_at s 0 h, smallB, decide_eq_false_iff_not]
    omega
  · rw [getD_at s k h, okB, decide_eq_false_iff_not]
    omega
set_option maxRecDepth 100000 in
set_option maxHeartbeats 1000000 in
theorem rName_c (s : ByteArray) (w : World) (hs : s.size ≤ reachBytes) :
    Calls Try.prog 74 #[.string s] w fun e w' => e = .returned (.bool (nameB s.toList)) ∧ w = w' := by
  unfold reachBytes at hs
  have HL := Lib.hid (ba_len s)
  go_enter Try.func74, Try.ntmps74
  go_wp2_with fail
  go_loop [3] (fun i => ∃ k : Nat, k ≤ s.size ∧ i = .int .i64 k ∧ ∀ j, j < k → okAt s.toList j = true) (fun i => s.size - (intOf i).toNat)
  case atStart => exact ⟨0, by omega, rfl, fun j hj => by omega⟩
  case round =>
    obtain ⟨k, hk, rfl, hn⟩ := hrel
    have HN := Lib.hid hn
    clear hn
    by_cases hlt : k < s.size
    · by_cases h0 : k = 0
      · subst h0
        obtain ⟨x, hx⟩ : ∃ x, s[0] = x := ⟨_, rfl⟩
        have HX := Lib.hid hx
        have hx256 : (x.toNat : Int) < 256 := by have := x.toNat_lt; omega
        by_cases c1 : (97 : Int) ≤ (x.toNat : Int)
        · by_cases c2 : (x.toNat : Int) ≤ 122
          · have HO := Lib.hid (okAt_yes hlt (by rw [HX.out]; omega))
            go_wp2_with fail
            go_round
            case rel => exact ⟨0 + 1, by omega, by go_num, fun j hj => by
              by_cases e : j = 0
              · subst e; exact HO.out
              · exact HN.out j (by omega)⟩
            case measure => simp [intOf]; omega
          · have d2 : decide ((x.toNat : Int) ≤ 122) = false := decide_eq_false c2
            have c3 : 48 ≤ (x.toNat : Int) := by omega
            have d4 : decide ((x.toNat : Int) ≤ 57) = false := decide_eq_false (by omega)
            have c5 : ((x.toNat : Int) == 45) = false := by simp; omega
            have HO := Lib.hid (nameB_no (by rw [HL.out]; exact hlt) (okAt_no hlt (by rw [HX.out]; omega)))
            clear c2
            go_wp2_with fail
            go_ret
            exact ⟨ret_bool HO.out.symm, rfl⟩
        · by_cases c3 : (48 : Int) ≤ (x.toNat : Int)
          · by_cases c4 : (x.toNat : Int) ≤ 57
            · have HO := Lib.hid (nameB_no (by rw [HL.out]; exact hlt) (okAt_no hlt (by rw [HX.out]; omega)))
              go_wp2_with fail
              go_ret
              exact ⟨ret_bool HO.out.symm, rfl⟩
            · have d4 : decide ((x.toNat : Int) ≤ 57) = false := decide_eq_false c4
              have c5 : ((x.toNat : Int) == 45) = false := by simp; omega
              have HO := Lib.hid (nameB_no (by rw [HL.out]; exact hlt) (okAt_no hlt (by rw [HX.out]; omega)))
              clear c4
              go_wp2_with fail
              go_ret
              exact ⟨ret_bool HO.out.symm, rfl⟩
          · by_cases c5 : (x.toNat : Int) = 45
            · have c6 : ((x.toNat : Int) == 45) = true := by simpa using c5
              have HO := Lib.hid (nameB_no (by rw [HL.out]; exact hlt) (okAt_no hlt (by rw [HX.out]; omega)))
              clear c5
              go_wp2_with fail
              go_ret
              exact ⟨ret_bool HO.out.symm, rfl⟩
            · have c6 : ((x.toNat : Int) == 45) = false := by simpa using c5
              have HO := Lib.hid (nameB_no (by rw [HL.out]; exact hlt) (okAt_no hlt (by rw [HX.out]; omega)))
              clear c5
              go_wp2_with fail
              go_ret
              exact ⟨ret_bool HO.out.symm, rfl⟩
      · have hk0 : ((k : Int) == 0) = false := by simp; omega
        obtain ⟨x, hx⟩ : ∃ x, s[k] = x := ⟨_, rfl⟩
        have HX := Lib.hid hx
        have hx256 : (x.toNat : Int) < 256 := by have := x.toNat_lt; omega
        by_cases c1 : (97 : Int) ≤ (x.toNat : Int)
        · by_cases c2 : (x.toNat : Int) ≤ 122
          · have HO := Lib.hid (okAt_yes hlt (by rw [HX.out]; omega))
            go_wp2_with fail
            go_round
            case rel => exact ⟨k + 1, by omega, by go_num, fun j hj => by
              by_cases e : j = k
              · subst e; exact HO.out
              · exact HN.out j (by omega)⟩
            case measure => simp [intOf]; omega
          · have d2 : decide ((x.toNat : Int) ≤ 122) = false := decide_eq_false c2
            have c3 : 48 ≤ (x.toNat : Int) := by omega
            have d4 : decide ((x.toNat : Int) ≤ 57) = false := decide_eq_false (by omega)
            have c5 : ((x.toNat : Int) == 45) = false := by simp; omega
            have HO := Lib.hid (nameB_no (by rw [HL.out]; exact hlt) (okAt_no hlt (by rw [HX.out]; omega)))
            clear c2
            go_wp2_with fail
            go_ret
            exact ⟨ret_bool HO.out.symm, rfl⟩
        · by_cases c3 : (48 : Int) ≤ (x.toNat : Int)
          · by_cases c4 : (x.toNat : Int) ≤ 57
            · have HO := Lib.hid (okAt_yes hlt (by rw [HX.out]; omega))
              go_wp2_with fail
              go_round
              case rel => exact ⟨k + 1, by omega, by go_num, fun j hj => by
                by_cases e : j = k
                · subst e; exact HO.out
                · exact HN.out j (by omega)⟩
              case measure => simp [intOf]; omega
            · have d4 : decide ((x.toNat : Int) ≤ 57) = false := decide_eq_false c4
              have c5 : ((x.toNat : Int) == 45) = false := by simp; omega
              have HO := Lib.hid (nameB_no (by rw [HL.out]; exact hlt) (okAt_no hlt (by rw [HX.out]; omega)))
              clear c4
              go_wp2_with fail
              go_ret
              exact ⟨ret_bool HO.out.symm, rfl⟩
          · by_cases c5 : (x.toNat : Int) = 45
            · have c6 : ((x.toNat : Int) == 45) = true := by simpa using c5
              have HO := Lib.hid (okAt_yes hlt (by rw [HX.out]; omega))
              clear c5
              go_wp2_with fail
              go_round
              case rel => exact ⟨k + 1, by omega, by go_num, fun j hj => by
                by_cases e : j = k
                · subst e; exact HO.out
                · exact HN.out j (by omega)⟩
              case measure => simp [intOf]; omega
            · have c6 : ((x.toNat : Int) == 45) = false := by simpa using c5
              have HO := Lib.hid (nameB_no (by rw [HL.out]; exact hlt) (okAt_no hlt (by rw [HX.out]; omega)))
              clear c5
              go_wp2_with fail
              go_ret
              exact ⟨ret_bool HO.out.symm, rfl⟩
    · have hall : ∀ j, j < s.toList.length → okAt s.toList j = true := fun j hj => HN.out j (by have := HL.out; omega)
      by_cases h0 : 0 < s.size
      · by_cases h20 : s.size ≤ 20
        · have HO := Lib.hid (nameB_yes (by rw [HL.out]; exact h0) (by rw [HL.out]; exact h20) hall)
          clear hall
          have h20' : (s.size : Int) ≤ 20 := by omega
          go_wp2_with fail
          go_ret
          exact ⟨ret_bool HO.out.symm, rfl⟩
        · have HO := Lib.hid (nameB_len (l := s.toList) (.inr (by rw [HL.out]; omega)))
          clear hall
          have h20' : 20 < (s.size : Int) := by omega
          go_wp2_with fail
          go_ret
          exact ⟨ret_bool (by rw [HO.out]; simp; omega), rfl⟩
      · have HO := Lib.hid (nameB_len (l := s.toList) (.inl (by rw [HL.out]; omega)))
        clear hall
        go_wp2_with fail
        go_ret
        exact ⟨ret_bool HO.out.symm, rfl⟩
set_option maxRecDepth 100000 in
set_option maxHeartbeats 1000000 in
theorem named_c (s : ByteArray) (w : World) :
    Calls Try.prog 73 #[.string s] w fun e w' => e = .returned (.bool (nameB s.toList)) ∧ w = w' := by
  have HL := Lib.hid (ba_len s)
  by_cases he : s.size = 0
  · have hE : s.toList.isEmpty = true := by rw [List.isEmpty_iff]; exact List.eq_nil_of_length_eq_zero (by rw [ba_len]; exact he)
    have HO := Lib.hid (nameB_len (l := s.toList) (.inl (by rw [HL.out]; exact he)))
    clear he
    go_enter Try.func73, Try.ntmps73
    go_wp2_with fail
    go_ret
    exact ⟨ret_bool HO.out.symm, rfl⟩
  · have hE : s.toList.isEmpty = false := by
      rw [← Bool.not_eq_true, List.isEmpty_iff]
      intro h
      have := ba_len s
      rw [h] at this
      exact he this.symm
    have h0 : 0 < s.size := by omega
    clear he
    by_cases h20 : s.size ≤ 20
    · have d20 : decide (20 < (s.size : Int)) = false := decide_eq_false (by omega)
      have h0' : (0 : Int) < (s.size : Int) := by omega
      obtain ⟨x, hx⟩ : ∃ x, s[0] = x := ⟨_, rfl⟩
      have HX := Lib.hid hx
      by_cases c1 : (x.toNat : Int) < 97
      · have d1 : decide ((x.toNat : Int) < 97) = true := decide_eq_true c1
        have HO := Lib.hid (nameB_no (by rw [HL.out]; exact h0) (okAt_no h0 (by rw [HX.out]; omega)))
        clear c1
        go_enter Try.func73, Try.ntmps73
        go_wp2_with fail
        go_ret
        exact ⟨ret_bool HO.out.symm, rfl⟩
      · by_cases c2 : 122 < (x.toNat : Int)
        · have d1 : decide ((x.toNat : Int) < 97) = false := decide_eq_false c1
          have d2 : decide (122 < (x.toNat : Int)) = true := decide_eq_true c2
          have HO := Lib.hid (nameB_no (by rw [HL.out]; exact h0) (okAt_no h0 (by rw [HX.out]; omega)))
          clear c1 c2
          go_enter Try.func73, Try.ntmps73
          go_wp2_with fail
          go_ret
          exact ⟨ret_bool HO.out.symm, rfl⟩
        · have d1 : decide ((x.toNat : Int) < 97) = false := decide_eq_false c1
          have d2 : decide (122 < (x.toNat : Int)) = false := decide_eq_false c2
          have H0 := Lib.hid (okAt_yes h0 (by rw [HX.out]; omega))
          clear c1 c2
          go_enter Try.func73, Try.ntmps73
          go_wp2_with fail
          clear d1 d2 hx
          go_loop [24] (fun i => ∃ k : Nat, k ≤ s.size ∧ i = .int .i64 k ∧ ∀ j, j < k → okAt s.toList j = true) (fun i => s.size - (intOf i).toNat)
          case atStart => exact ⟨0, by omega, rfl, fun j hj => by omega⟩
          case round =>
            obtain ⟨k, hk, rfl, hn⟩ := hrel
            have HN := Lib.hid hn
            clear hn
            by_cases hlt : k < s.size
            · obtain ⟨y, hy⟩ : ∃ y, s[k] = y := ⟨_, rfl⟩
              have HY := Lib.hid hy
              by_cases c1 : (y.toNat : Int) < 97
              · have d1 : decide ((y.toNat : Int) < 97) = true := decide_eq_true c1
                by_cases c3 : (y.toNat : Int) < 48
                · have d3 : decide ((y.toNat : Int) < 48) = true := decide_eq_true c3
                  by_cases c5 : (y.toNat : Int) = 45
                  · have d5 : ((y.toNat : Int) != 45) = false := by simp; exact c5
                    have HO := Lib.hid (show okAt s.toList k = true from (by
                      by_cases e0 : k = 0
                      · subst e0; exact H0.out
                      · exact okAt_yes hlt (by rw [HY.out]; omega)))
                    clear c1 c3 c5
                    go_wp2_with fail
                    go_round
                    case rel => exact ⟨k + 1, by omega, by go_num, fun j hj => by
                      by_cases e : j = k
                      · subst e; exact HO.out
                      · exact HN.out j (by omega)⟩
                    case measure => simp [intOf]; omega
                  · have d5 : ((y.toNat : Int) != 45) = true := by simp; exact c5
                    have HO := Lib.hid (nameB_no (by rw [HL.out]; exact hlt) (okAt_no hlt (by rw [HY.out]; omega)))
                    clear c1 c3 c5
                    go_wp2_with fail
                    go_ret
                    exact ⟨ret_bool HO.out.symm, rfl⟩
                · have d3 : decide ((y.toNat : Int) < 48) = false := decide_eq_false c3
                  by_cases c4 : 57 < (y.toNat : Int)
                  · have d4 : decide (57 < (y.toNat : Int)) = true := decide_eq_true c4
                    have d5 : ((y.toNat : Int) != 45) = true := by simp; omega
                    have HO := Lib.hid (nameB_no (by rw [HL.out]; exact hlt) (okAt_no hlt (by rw [HY.out]; omega)))
                    clear c1 c3 c4
                    go_wp2_with fail
                    go_ret
                    exact ⟨ret_bool HO.out.symm, rfl⟩
                  · have d4 : decide (57 < (y.toNat : Int)) = false := decide_eq_false c4
                    have HO := Lib.hid (show okAt s.toList k = true from (by
                      by_cases e0 : k = 0
                      · subst e0; exact H0.out
                      · exact okAt_yes hlt (by rw [HY.out]; omega)))
                    clear c1 c3 c4
                    go_wp2_with fail
                    go_round
                    case rel => exact ⟨k + 1, by omega, by go_num, fun j hj => by
                      by_cases e : j = k
                      · subst e; exact HO.out
                      · exact HN.out j (by omega)⟩
                    case measure => simp [intOf]; omega
              · have d1 : decide ((y.toNat : Int) < 97) = false := decide_eq_false c1
                by_cases c2 : 122 < (y.toNat : Int)
                · have d2 : decide (122 < (y.toNat : Int)) = true := decide_eq_true c2
                  have d3 : decide ((y.toNat : Int) < 48) = false := decide_eq_false (by omega)
                  have d4 : decide (57 < (y.toNat : Int)) = true := decide_eq_true (by omega)
                  have d5 : ((y.toNat : Int) != 45) = true := by simp; omega
                  have HO := Lib.hid (nameB_no (by rw [HL.out]; exact hlt) (okAt_no hlt (by rw [HY.out]; omega)))
                  clear c1 c2
                  go_wp2_with fail
                  go_ret
                  exact ⟨ret_bool HO.out.symm, rfl⟩
                · have d2 : decide (122 < (y.toNat : Int)) = false := decide_eq_false c2
                  have HO := Lib.hid (show okAt s.toList k = true from okAt_yes hlt (by rw [HY.out]; omega))
                  clear c1 c2
                  go_wp2_with fail
                  go_round
                  case rel => exact ⟨k + 1, by omega, by go_num, fun j hj => by
                    by_cases e : j = k
                    · subst e; exact HO.out
                    · exact HN.out j (by omega)⟩
                  case measure => simp [intOf]; omega
            · obtain rfl : k = s.size := by omega
              have HO := Lib.hid (nameB_yes (by rw [HL.out]; exact h0) (by rw [HL.out]; exact h20) (fun j hj => HN.out j (by rw [← HL.out]; exact hj)))
              go_wp2_with fail
              go_ret
              exact ⟨ret_bool HO.out.symm, rfl⟩
    · have d20 : decide (20 < (s.size : Int)) = true := decide_eq_true (by omega)
      have HO := Lib.hid (nameB_len (l := s.toList) (.inr (by rw [HL.out]; omega)))
      clear h20
      go_enter Try.func73, Try.ntmps73
      go_wp2_with fail
      go_ret
      exact ⟨ret_bool HO.out.symm, rfl⟩
end Go.Proofs.Ytpgcaehbbdnhiaa

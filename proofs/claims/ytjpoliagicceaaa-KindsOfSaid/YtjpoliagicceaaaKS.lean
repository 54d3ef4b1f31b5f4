/- Contracts of where attributes apply, of both texts. -/
import Derived.Test.YtjpoliagicceaaaKQ
namespace Go.Proofs.Ytjpoliagicceaaa
open Go.RowKit

theorem appB_iff {k : Int} {a : List UInt8} {p : Prop} [Decidable p] (h : appB k a = decide p) {b : Bool} (hb : b = true ↔ p) : b = appB k a := by
  rw [h]; by_cases hp : p <;> simp_all
theorem Applies_required (k : Int) (s : ByteArray) (w : World) (ha : (s.toList == [114, 101, 113, 117, 105, 114, 101, 100]) = true) : Calls Try.prog 11 #[.int .i64 k, .string s] w fun e w' => e = .returned (.bool (appB k s.toList)) ∧ w = w' := by
  obtain rfl : s = ⟨#[114, 101, 113, 117, 105, 114, 101, 100]⟩ := ba_ext (by rw [ba_list ⟨#[114, 101, 113, 117, 105, 114, 101, 100]⟩]; exact eq_of_beq ha)
  have hsp : appB k [114, 101, 113, 117, 105, 114, 101, 100] = decide (2 ≤ k ∧ k ≤ 13 ∨ 16 ≤ k ∧ k ≤ 18 ∨ k = 23 ∨ k = 24) := rfl
  have HSP := Lib.hid hsp
  clear hsp ha
  cases hb : blkB k
  · have hi := blkB_not.1 hb
    go_enter Try.func11, Try.ntmps11
    go_wp2_with (go_at_call 21; refine (Blocks_c _ _).mono ?_; rintro e w' ⟨rfl, rfl⟩)
    all_goals
      go_ret
      refine ⟨ret_bool ?_, rfl⟩
      try rw [ba_list]
      refine appB_iff HSP.out ?_
      simp_all
      try omega
  · have hi := blkB_iff.1 hb
    go_enter Try.func11, Try.ntmps11
    go_wp2_with (go_at_call 21; refine (Blocks_c _ _).mono ?_; rintro e w' ⟨rfl, rfl⟩)
    all_goals
      go_ret
      refine ⟨ret_bool ?_, rfl⟩
      try rw [ba_list]
      refine appB_iff HSP.out ?_
      simp_all
      try omega
theorem Applies_readonly (k : Int) (s : ByteArray) (w : World) (ha : (s.toList == [114, 101, 97, 100, 111, 110, 108, 121]) = true) : Calls Try.prog 11 #[.int .i64 k, .string s] w fun e w' => e = .returned (.bool (appB k s.toList)) ∧ w = w' := by
  obtain rfl : s = ⟨#[114, 101, 97, 100, 111, 110, 108, 121]⟩ := ba_ext (by rw [ba_list ⟨#[114, 101, 97, 100, 111, 110, 108, 121]⟩]; exact eq_of_beq ha)
  have hsp : appB k [114, 101, 97, 100, 111, 110, 108, 121] = decide (2 ≤ k ∧ k ≤ 13 ∨ k = 24) := rfl
  have HSP := Lib.hid hsp
  clear hsp ha
  cases hb : blkB k
  · have hi := blkB_not.1 hb
    go_enter Try.func11, Try.ntmps11
    go_wp2_with (go_at_call 21; refine (Blocks_c _ _).mono ?_; rintro e w' ⟨rfl, rfl⟩)
    all_goals
      go_ret
      refine ⟨ret_bool ?_, rfl⟩
      try rw [ba_list]
      refine appB_iff HSP.out ?_
      simp_all
      try omega
  · have hi := blkB_iff.1 hb
    go_enter Try.func11, Try.ntmps11
    go_wp2_with (go_at_call 21; refine (Blocks_c _ _).mono ?_; rintro e w' ⟨rfl, rfl⟩)
    all_goals
      go_ret
      refine ⟨ret_bool ?_, rfl⟩
      try rw [ba_list]
      refine appB_iff HSP.out ?_
      simp_all
      try omega
theorem Applies_minlength (k : Int) (s : ByteArray) (w : World) (ha : (s.toList == [109, 105, 110, 108, 101, 110, 103, 116, 104]) = true) : Calls Try.prog 11 #[.int .i64 k, .string s] w fun e w' => e = .returned (.bool (appB k s.toList)) ∧ w = w' := by
  obtain rfl : s = ⟨#[109, 105, 110, 108, 101, 110, 103, 116, 104]⟩ := ba_ext (by rw [ba_list ⟨#[109, 105, 110, 108, 101, 110, 103, 116, 104]⟩]; exact eq_of_beq ha)
  have hsp : appB k [109, 105, 110, 108, 101, 110, 103, 116, 104] = decide (2 ≤ k ∧ k ≤ 7 ∨ k = 24) := rfl
  have HSP := Lib.hid hsp
  clear hsp ha
  go_enter Try.func11, Try.ntmps11
  go_wp2_with (go_at_call 21; refine (Blocks_c _ _).mono ?_; rintro e w' ⟨rfl, rfl⟩)
  all_goals
    go_ret
    refine ⟨ret_bool ?_, rfl⟩
    try rw [ba_list]
    refine appB_iff HSP.out ?_
    simp_all
    try omega
theorem Applies_maxlength (k : Int) (s : ByteArray) (w : World) (ha : (s.toList == [109, 97, 120, 108, 101, 110, 103, 116, 104]) = true) : Calls Try.prog 11 #[.int .i64 k, .string s] w fun e w' => e = .returned (.bool (appB k s.toList)) ∧ w = w' := by
  obtain rfl : s = ⟨#[109, 97, 120, 108, 101, 110, 103, 116, 104]⟩ := ba_ext (by rw [ba_list ⟨#[109, 97, 120, 108, 101, 110, 103, 116, 104]⟩]; exact eq_of_beq ha)
  have hsp : appB k [109, 97, 120, 108, 101, 110, 103, 116, 104] = decide (2 ≤ k ∧ k ≤ 7 ∨ k = 24) := rfl
  have HSP := Lib.hid hsp
  clear hsp ha
  go_enter Try.func11, Try.ntmps11
  go_wp2_with (go_at_call 21; refine (Blocks_c _ _).mono ?_; rintro e w' ⟨rfl, rfl⟩)
  all_goals
    go_ret
    refine ⟨ret_bool ?_, rfl⟩
    try rw [ba_list]
    refine appB_iff HSP.out ?_
    simp_all
    try omega
theorem Applies_pattern (k : Int) (s : ByteArray) (w : World) (ha : (s.toList == [112, 97, 116, 116, 101, 114, 110]) = true) : Calls Try.prog 11 #[.int .i64 k, .string s] w fun e w' => e = .returned (.bool (appB k s.toList)) ∧ w = w' := by
  obtain rfl : s = ⟨#[112, 97, 116, 116, 101, 114, 110]⟩ := ba_ext (by rw [ba_list ⟨#[112, 97, 116, 116, 101, 114, 110]⟩]; exact eq_of_beq ha)
  have hsp : appB k [112, 97, 116, 116, 101, 114, 110] = decide (2 ≤ k ∧ k ≤ 7) := rfl
  have HSP := Lib.hid hsp
  clear hsp ha
  go_enter Try.func11, Try.ntmps11
  go_wp2_with (go_at_call 21; refine (Blocks_c _ _).mono ?_; rintro e w' ⟨rfl, rfl⟩)
  all_goals
    go_ret
    refine ⟨ret_bool ?_, rfl⟩
    try rw [ba_list]
    refine appB_iff HSP.out ?_
    simp_all
    try omega
theorem Applies_min (k : Int) (s : ByteArray) (w : World) (ha : (s.toList == [109, 105, 110]) = true) : Calls Try.prog 11 #[.int .i64 k, .string s] w fun e w' => e = .returned (.bool (appB k s.toList)) ∧ w = w' := by
  obtain rfl : s = ⟨#[109, 105, 110]⟩ := ba_ext (by rw [ba_list ⟨#[109, 105, 110]⟩]; exact eq_of_beq ha)
  have hsp : appB k [109, 105, 110] = decide (8 ≤ k ∧ k ≤ 14) := rfl
  have HSP := Lib.hid hsp
  clear hsp ha
  go_enter Try.func11, Try.ntmps11
  go_wp2_with (go_at_call 21; refine (Blocks_c _ _).mono ?_; rintro e w' ⟨rfl, rfl⟩)
  all_goals
    go_ret
    refine ⟨ret_bool ?_, rfl⟩
    try rw [ba_list]
    refine appB_iff HSP.out ?_
    simp_all
    try omega
theorem Applies_max (k : Int) (s : ByteArray) (w : World) (ha : (s.toList == [109, 97, 120]) = true) : Calls Try.prog 11 #[.int .i64 k, .string s] w fun e w' => e = .returned (.bool (appB k s.toList)) ∧ w = w' := by
  obtain rfl : s = ⟨#[109, 97, 120]⟩ := ba_ext (by rw [ba_list ⟨#[109, 97, 120]⟩]; exact eq_of_beq ha)
  have hsp : appB k [109, 97, 120] = decide (8 ≤ k ∧ k ≤ 14) := rfl
  have HSP := Lib.hid hsp
  clear hsp ha
  go_enter Try.func11, Try.ntmps11
  go_wp2_with (go_at_call 21; refine (Blocks_c _ _).mono ?_; rintro e w' ⟨rfl, rfl⟩)
  all_goals
    go_ret
    refine ⟨ret_bool ?_, rfl⟩
    try rw [ba_list]
    refine appB_iff HSP.out ?_
    simp_all
    try omega
theorem Applies_step (k : Int) (s : ByteArray) (w : World) (ha : (s.toList == [115, 116, 101, 112]) = true) : Calls Try.prog 11 #[.int .i64 k, .string s] w fun e w' => e = .returned (.bool (appB k s.toList)) ∧ w = w' := by
  obtain rfl : s = ⟨#[115, 116, 101, 112]⟩ := ba_ext (by rw [ba_list ⟨#[115, 116, 101, 112]⟩]; exact eq_of_beq ha)
  have hsp : appB k [115, 116, 101, 112] = decide (8 ≤ k ∧ k ≤ 14) := rfl
  have HSP := Lib.hid hsp
  clear hsp ha
  go_enter Try.func11, Try.ntmps11
  go_wp2_with (go_at_call 21; refine (Blocks_c _ _).mono ?_; rintro e w' ⟨rfl, rfl⟩)
  all_goals
    go_ret
    refine ⟨ret_bool ?_, rfl⟩
    try rw [ba_list]
    refine appB_iff HSP.out ?_
    simp_all
    try omega
theorem Applies_multiple (k : Int) (s : ByteArray) (w : World) (ha : (s.toList == [109, 117, 108, 116, 105, 112, 108, 101]) = true) : Calls Try.prog 11 #[.int .i64 k, .string s] w fun e w' => e = .returned (.bool (appB k s.toList)) ∧ w = w' := by
  obtain rfl : s = ⟨#[109, 117, 108, 116, 105, 112, 108, 101]⟩ := ba_ext (by rw [ba_list ⟨#[109, 117, 108, 116, 105, 112, 108, 101]⟩]; exact eq_of_beq ha)
  have hsp : appB k [109, 117, 108, 116, 105, 112, 108, 101] = decide (k = 6 ∨ k = 18 ∨ k = 23) := rfl
  have HSP := Lib.hid hsp
  clear hsp ha
  go_enter Try.func11, Try.ntmps11
  go_wp2_with (go_at_call 21; refine (Blocks_c _ _).mono ?_; rintro e w' ⟨rfl, rfl⟩)
  all_goals
    go_ret
    refine ⟨ret_bool ?_, rfl⟩
    try rw [ba_list]
    refine appB_iff HSP.out ?_
    simp_all
    try omega
theorem Applies_checked (k : Int) (s : ByteArray) (w : World) (ha : (s.toList == [99, 104, 101, 99, 107, 101, 100]) = true) : Calls Try.prog 11 #[.int .i64 k, .string s] w fun e w' => e = .returned (.bool (appB k s.toList)) ∧ w = w' := by
  obtain rfl : s = ⟨#[99, 104, 101, 99, 107, 101, 100]⟩ := ba_ext (by rw [ba_list ⟨#[99, 104, 101, 99, 107, 101, 100]⟩]; exact eq_of_beq ha)
  have hsp : appB k [99, 104, 101, 99, 107, 101, 100] = decide (k = 16 ∨ k = 17) := rfl
  have HSP := Lib.hid hsp
  clear hsp ha
  go_enter Try.func11, Try.ntmps11
  go_wp2_with (go_at_call 21; refine (Blocks_c _ _).mono ?_; rintro e w' ⟨rfl, rfl⟩)
  all_goals
    go_ret
    refine ⟨ret_bool ?_, rfl⟩
    try rw [ba_list]
    refine appB_iff HSP.out ?_
    simp_all
    try omega
theorem Applies_none (k : Int) (s : ByteArray) (w : World) (h0 : (s.toList == [114, 101, 113, 117, 105, 114, 101, 100]) = false) (h1 : (s.toList == [114, 101, 97, 100, 111, 110, 108, 121]) = false) (h2 : (s.toList == [109, 105, 110, 108, 101, 110, 103, 116, 104]) = false) (h3 : (s.toList == [109, 97, 120, 108, 101, 110, 103, 116, 104]) = false) (h4 : (s.toList == [112, 97, 116, 116, 101, 114, 110]) = false) (h5 : (s.toList == [109, 105, 110]) = false) (h6 : (s.toList == [109, 97, 120]) = false) (h7 : (s.toList == [115, 116, 101, 112]) = false) (h8 : (s.toList == [109, 117, 108, 116, 105, 112, 108, 101]) = false) (h9 : (s.toList == [99, 104, 101, 99, 107, 101, 100]) = false) : Calls Try.prog 11 #[.int .i64 k, .string s] w fun e w' => e = .returned (.bool (appB k s.toList)) ∧ w = w' := by
  have hsp : appB k s.toList = decide False := by
    unfold appB
    simp only [h0, h1, h2, h3, h4, h5, h6, h7, h8, h9]
    simp
  have HSP := Lib.hid hsp
  clear hsp
  go_enter Try.func11, Try.ntmps11
  go_wp2_with fail
  all_goals
    go_ret
    exact ⟨ret_bool (appB_iff HSP.out (by simp)), rfl⟩
theorem Applies_c (k : Int) (s : ByteArray) (w : World) : Calls Try.prog 11 #[.int .i64 k, .string s] w fun e w' => e = .returned (.bool (appB k s.toList)) ∧ w = w' := by
  cases h0 : s.toList == [114, 101, 113, 117, 105, 114, 101, 100]
  case true => exact Applies_required k s w h0
  cases h1 : s.toList == [114, 101, 97, 100, 111, 110, 108, 121]
  case true => exact Applies_readonly k s w h1
  cases h2 : s.toList == [109, 105, 110, 108, 101, 110, 103, 116, 104]
  case true => exact Applies_minlength k s w h2
  cases h3 : s.toList == [109, 97, 120, 108, 101, 110, 103, 116, 104]
  case true => exact Applies_maxlength k s w h3
  cases h4 : s.toList == [112, 97, 116, 116, 101, 114, 110]
  case true => exact Applies_pattern k s w h4
  cases h5 : s.toList == [109, 105, 110]
  case true => exact Applies_min k s w h5
  cases h6 : s.toList == [109, 97, 120]
  case true => exact Applies_max k s w h6
  cases h7 : s.toList == [115, 116, 101, 112]
  case true => exact Applies_step k s w h7
  cases h8 : s.toList == [109, 117, 108, 116, 105, 112, 108, 101]
  case true => exact Applies_multiple k s w h8
  cases h9 : s.toList == [99, 104, 101, 99, 107, 101, 100]
  case true => exact Applies_checked k s w h9
  exact Applies_none k s w h0 h1 h2 h3 h4 h5 h6 h7 h8 h9
theorem rApplies_required (k : Int) (s : ByteArray) (w : World) (ha : (s.toList == [114, 101, 113, 117, 105, 114, 101, 100]) = true) : Calls Try.prog 12 #[.int .i64 k, .string s] w fun e w' => e = .returned (.bool (appB k s.toList)) ∧ w = w' := by
  obtain rfl : s = ⟨#[114, 101, 113, 117, 105, 114, 101, 100]⟩ := ba_ext (by rw [ba_list ⟨#[114, 101, 113, 117, 105, 114, 101, 100]⟩]; exact eq_of_beq ha)
  have hsp : appB k [114, 101, 113, 117, 105, 114, 101, 100] = decide (2 ≤ k ∧ k ≤ 13 ∨ 16 ≤ k ∧ k ≤ 18 ∨ k = 23 ∨ k = 24) := rfl
  have HSP := Lib.hid hsp
  clear hsp ha
  go_enter Try.func12, Try.ntmps12
  go_wp2_with fail
  all_goals
    go_ret
    refine ⟨ret_bool ?_, rfl⟩
    try rw [ba_list]
    refine appB_iff HSP.out ?_
    simp_all
    try omega
theorem rApplies_readonly (k : Int) (s : ByteArray) (w : World) (ha : (s.toList == [114, 101, 97, 100, 111, 110, 108, 121]) = true) : Calls Try.prog 12 #[.int .i64 k, .string s] w fun e w' => e = .returned (.bool (appB k s.toList)) ∧ w = w' := by
  obtain rfl : s = ⟨#[114, 101, 97, 100, 111, 110, 108, 121]⟩ := ba_ext (by rw [ba_list ⟨#[114, 101, 97, 100, 111, 110, 108, 121]⟩]; exact eq_of_beq ha)
  have hsp : appB k [114, 101, 97, 100, 111, 110, 108, 121] = decide (2 ≤ k ∧ k ≤ 13 ∨ k = 24) := rfl
  have HSP := Lib.hid hsp
  clear hsp ha
  go_enter Try.func12, Try.ntmps12
  go_wp2_with fail
  all_goals
    go_ret
    refine ⟨ret_bool ?_, rfl⟩
    try rw [ba_list]
    refine appB_iff HSP.out ?_
    simp_all
    try omega
theorem rApplies_minlength (k : Int) (s : ByteArray) (w : World) (ha : (s.toList == [109, 105, 110, 108, 101, 110, 103, 116, 104]) = true) : Calls Try.prog 12 #[.int .i64 k, .string s] w fun e w' => e = .returned (.bool (appB k s.toList)) ∧ w = w' := by
  obtain rfl : s = ⟨#[109, 105, 110, 108, 101, 110, 103, 116, 104]⟩ := ba_ext (by rw [ba_list ⟨#[109, 105, 110, 108, 101, 110, 103, 116, 104]⟩]; exact eq_of_beq ha)
  have hsp : appB k [109, 105, 110, 108, 101, 110, 103, 116, 104] = decide (2 ≤ k ∧ k ≤ 7 ∨ k = 24) := rfl
  have HSP := Lib.hid hsp
  clear hsp ha
  go_enter Try.func12, Try.ntmps12
  go_wp2_with fail
  all_goals
    go_ret
    refine ⟨ret_bool ?_, rfl⟩
    try rw [ba_list]
    refine appB_iff HSP.out ?_
    simp_all
    try omega
theorem rApplies_maxlength (k : Int) (s : ByteArray) (w : World) (ha : (s.toList == [109, 97, 120, 108, 101, 110, 103, 116, 104]) = true) : Calls Try.prog 12 #[.int .i64 k, .string s] w fun e w' => e = .returned (.bool (appB k s.toList)) ∧ w = w' := by
  obtain rfl : s = ⟨#[109, 97, 120, 108, 101, 110, 103, 116, 104]⟩ := ba_ext (by rw [ba_list ⟨#[109, 97, 120, 108, 101, 110, 103, 116, 104]⟩]; exact eq_of_beq ha)
  have hsp : appB k [109, 97, 120, 108, 101, 110, 103, 116, 104] = decide (2 ≤ k ∧ k ≤ 7 ∨ k = 24) := rfl
  have HSP := Lib.hid hsp
  clear hsp ha
  go_enter Try.func12, Try.ntmps12
  go_wp2_with fail
  all_goals
    go_ret
    refine ⟨ret_bool ?_, rfl⟩
    try rw [ba_list]
    refine appB_iff HSP.out ?_
    simp_all
    try omega
theorem rApplies_pattern (k : Int) (s : ByteArray) (w : World) (ha : (s.toList == [112, 97, 116, 116, 101, 114, 110]) = true) : Calls Try.prog 12 #[.int .i64 k, .string s] w fun e w' => e = .returned (.bool (appB k s.toList)) ∧ w = w' := by
  obtain rfl : s = ⟨#[112, 97, 116, 116, 101, 114, 110]⟩ := ba_ext (by rw [ba_list ⟨#[112, 97, 116, 116, 101, 114, 110]⟩]; exact eq_of_beq ha)
  have hsp : appB k [112, 97, 116, 116, 101, 114, 110] = decide (2 ≤ k ∧ k ≤ 7) := rfl
  have HSP := Lib.hid hsp
  clear hsp ha
  go_enter Try.func12, Try.ntmps12
  go_wp2_with fail
  all_goals
    go_ret
    refine ⟨ret_bool ?_, rfl⟩
    try rw [ba_list]
    refine appB_iff HSP.out ?_
    simp_all
    try omega
theorem rApplies_min (k : Int) (s : ByteArray) (w : World) (ha : (s.toList == [109, 105, 110]) = true) : Calls Try.prog 12 #[.int .i64 k, .string s] w fun e w' => e = .returned (.bool (appB k s.toList)) ∧ w = w' := by
  obtain rfl : s = ⟨#[109, 105, 110]⟩ := ba_ext (by rw [ba_list ⟨#[109, 105, 110]⟩]; exact eq_of_beq ha)
  have hsp : appB k [109, 105, 110] = decide (8 ≤ k ∧ k ≤ 14) := rfl
  have HSP := Lib.hid hsp
  clear hsp ha
  go_enter Try.func12, Try.ntmps12
  go_wp2_with fail
  all_goals
    go_ret
    refine ⟨ret_bool ?_, rfl⟩
    try rw [ba_list]
    refine appB_iff HSP.out ?_
    simp_all
    try omega
theorem rApplies_max (k : Int) (s : ByteArray) (w : World) (ha : (s.toList == [109, 97, 120]) = true) : Calls Try.prog 12 #[.int .i64 k, .string s] w fun e w' => e = .returned (.bool (appB k s.toList)) ∧ w = w' := by
  obtain rfl : s = ⟨#[109, 97, 120]⟩ := ba_ext (by rw [ba_list ⟨#[109, 97, 120]⟩]; exact eq_of_beq ha)
  have hsp : appB k [109, 97, 120] = decide (8 ≤ k ∧ k ≤ 14) := rfl
  have HSP := Lib.hid hsp
  clear hsp ha
  go_enter Try.func12, Try.ntmps12
  go_wp2_with fail
  all_goals
    go_ret
    refine ⟨ret_bool ?_, rfl⟩
    try rw [ba_list]
    refine appB_iff HSP.out ?_
    simp_all
    try omega
theorem rApplies_step (k : Int) (s : ByteArray) (w : World) (ha : (s.toList == [115, 116, 101, 112]) = true) : Calls Try.prog 12 #[.int .i64 k, .string s] w fun e w' => e = .returned (.bool (appB k s.toList)) ∧ w = w' := by
  obtain rfl : s = ⟨#[115, 116, 101, 112]⟩ := ba_ext (by rw [ba_list ⟨#[115, 116, 101, 112]⟩]; exact eq_of_beq ha)
  have hsp : appB k [115, 116, 101, 112] = decide (8 ≤ k ∧ k ≤ 14) := rfl
  have HSP := Lib.hid hsp
  clear hsp ha
  go_enter Try.func12, Try.ntmps12
  go_wp2_with fail
  all_goals
    go_ret
    refine ⟨ret_bool ?_, rfl⟩
    try rw [ba_list]
    refine appB_iff HSP.out ?_
    simp_all
    try omega
theorem rApplies_multiple (k : Int) (s : ByteArray) (w : World) (ha : (s.toList == [109, 117, 108, 116, 105, 112, 108, 101]) = true) : Calls Try.prog 12 #[.int .i64 k, .string s] w fun e w' => e = .returned (.bool (appB k s.toList)) ∧ w = w' := by
  obtain rfl : s = ⟨#[109, 117, 108, 116, 105, 112, 108, 101]⟩ := ba_ext (by rw [ba_list ⟨#[109, 117, 108, 116, 105, 112, 108, 101]⟩]; exact eq_of_beq ha)
  have hsp : appB k [109, 117, 108, 116, 105, 112, 108, 101] = decide (k = 6 ∨ k = 18 ∨ k = 23) := rfl
  have HSP := Lib.hid hsp
  clear hsp ha
  go_enter Try.func12, Try.ntmps12
  go_wp2_with fail
  all_goals
    go_ret
    refine ⟨ret_bool ?_, rfl⟩
    try rw [ba_list]
    refine appB_iff HSP.out ?_
    simp_all
    try omega
theorem rApplies_checked (k : Int) (s : ByteArray) (w : World) (ha : (s.toList == [99, 104, 101, 99, 107, 101, 100]) = true) : Calls Try.prog 12 #[.int .i64 k, .string s] w fun e w' => e = .returned (.bool (appB k s.toList)) ∧ w = w' := by
  obtain rfl : s = ⟨#[99, 104, 101, 99, 107, 101, 100]⟩ := ba_ext (by rw [ba_list ⟨#[99, 104, 101, 99, 107, 101, 100]⟩]; exact eq_of_beq ha)
  have hsp : appB k [99, 104, 101, 99, 107, 101, 100] = decide (k = 16 ∨ k = 17) := rfl
  have HSP := Lib.hid hsp
  clear hsp ha
  go_enter Try.func12, Try.ntmps12
  go_wp2_with fail
  all_goals
    go_ret
    refine ⟨ret_bool ?_, rfl⟩
    try rw [ba_list]
    refine appB_iff HSP.out ?_
    simp_all
    try omega
theorem rApplies_none (k : Int) (s : ByteArray) (w : World) (h0 : (s.toList == [114, 101, 113, 117, 105, 114, 101, 100]) = false) (h1 : (s.toList == [114, 101, 97, 100, 111, 110, 108, 121]) = false) (h2 : (s.toList == [109, 105, 110, 108, 101, 110, 103, 116, 104]) = false) (h3 : (s.toList == [109, 97, 120, 108, 101, 110, 103, 116, 104]) = false) (h4 : (s.toList == [112, 97, 116, 116, 101, 114, 110]) = false) (h5 : (s.toList == [109, 105, 110]) = false) (h6 : (s.toList == [109, 97, 120]) = false) (h7 : (s.toList == [115, 116, 101, 112]) = false) (h8 : (s.toList == [109, 117, 108, 116, 105, 112, 108, 101]) = false) (h9 : (s.toList == [99, 104, 101, 99, 107, 101, 100]) = false) : Calls Try.prog 12 #[.int .i64 k, .string s] w fun e w' => e = .returned (.bool (appB k s.toList)) ∧ w = w' := by
  have hsp : appB k s.toList = decide False := by
    unfold appB
    simp only [h0, h1, h2, h3, h4, h5, h6, h7, h8, h9]
    simp
  have HSP := Lib.hid hsp
  clear hsp
  go_enter Try.func12, Try.ntmps12
  go_wp2_with fail
  all_goals
    go_ret
    exact ⟨ret_bool (appB_iff HSP.out (by simp)), rfl⟩
theorem rApplies_c (k : Int) (s : ByteArray) (w : World) : Calls Try.prog 12 #[.int .i64 k, .string s] w fun e w' => e = .returned (.bool (appB k s.toList)) ∧ w = w' := by
  cases h0 : s.toList == [114, 101, 113, 117, 105, 114, 101, 100]
  case true => exact rApplies_required k s w h0
  cases h1 : s.toList == [114, 101, 97, 100, 111, 110, 108, 121]
  case true => exact rApplies_readonly k s w h1
  cases h2 : s.toList == [109, 105, 110, 108, 101, 110, 103, 116, 104]
  case true => exact rApplies_minlength k s w h2
  cases h3 : s.toList == [109, 97, 120, 108, 101, 110, 103, 116, 104]
  case true => exact rApplies_maxlength k s w h3
  cases h4 : s.toList == [112, 97, 116, 116, 101, 114, 110]
  case true => exact rApplies_pattern k s w h4
  cases h5 : s.toList == [109, 105, 110]
  case true => exact rApplies_min k s w h5
  cases h6 : s.toList == [109, 97, 120]
  case true => exact rApplies_max k s w h6
  cases h7 : s.toList == [115, 116, 101, 112]
  case true => exact rApplies_step k s w h7
  cases h8 : s.toList == [109, 117, 108, 116, 105, 112, 108, 101]
  case true => exact rApplies_multiple k s w h8
  cases h9 : s.toList == [99, 104, 101, 99, 107, 101, 100]
  case true => exact rApplies_checked k s w h9
  exact rApplies_none k s w h0 h1 h2 h3 h4 h5 h6 h7 h8 h9
end Go.Proofs.Ytjpoliagicceaaa

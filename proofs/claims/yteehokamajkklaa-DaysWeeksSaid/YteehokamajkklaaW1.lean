/- Contracts of the leaf functions of days and of its reference: each returns what the plain law names, for arguments in the range that the theorem states. -/
import Derived.Test.YteehokamajkklaaProg
import Derived.Test.YteehokamajkklaaMath
import Derived.WalkKit
import Derived.Lib.Hide
namespace Go.Proofs.Yteehokamajkklaa
open Go.RowKit
theorem ret_int {k : IntKind} {a b : Int} (h : a = b) : Ending.returned (.int k a) = .returned (.int k b) := by rw [h]
theorem ret_bool {a b : Bool} (h : a = b) : Ending.returned (.bool a) = .returned (.bool b) := by rw [h]
theorem tmod_bd (n : Int) : -6 ≤ n.tmod 7 ∧ n.tmod 7 ≤ 6 := by
  have h := Int.tmod_lt_of_pos n (b := 7) (by omega)
  have h' := Int.lt_tmod_of_pos n (b := 7) (by omega)
  omega
theorem tmod_mod (n : Int) : n.tmod 7 % 7 = n % 7 := by
  have := Int.tmod_add_mul_tdiv n 7
  omega

theorem Weekday_c (n : Int) (w : World) :
    Calls Try.prog 9 #[.int .i64 n] w fun e w' => e = .returned (.int .i64 (DM.wd n)) ∧ w = w' := by
  have hb := tmod_bd n
  have hb2 := tmod_bd (n.tmod 7 + 3)
  go_enter Try.func9, Try.ntmps9
  go_wp2
  all_goals
    go_ret
    refine ⟨ret_int ?_, rfl⟩
    have e1 := tmod_mod n
    have e2 := tmod_mod (n.tmod 7 + 3)
    unfold DM.wd
    omega

theorem rWeekday_c (n : Int) (w : World) :
    Calls Try.prog 10 #[.int .i64 n] w fun e w' => e = .returned (.int .i64 (DM.wd n)) ∧ w = w' := by
  have hb := tmod_bd n
  go_enter Try.func10, Try.ntmps10
  go_wp2
  all_goals
    go_ret
    refine ⟨ret_int ?_, rfl⟩
    have e1 := tmod_mod n
    unfold DM.wd
    omega

theorem rleap_c (y : Int) (w : World) (h0 : 0 ≤ y) (_h1 : y ≤ 1000000) :
    Calls Try.prog 26 #[.int .i64 y] w fun e w' => e = .returned (.bool (DM.lp y)) ∧ w = w' := by
  go_enter Try.func26, Try.ntmps26
  go_wp2
  all_goals
    go_ret
    refine ⟨ret_bool ?_, rfl⟩
    unfold DM.lp
    simp_all
    try omega

/-- a year, and a leap year -/
def leapB (y : Int) : Bool := decide (1 ≤ y) && (decide (y ≤ 275760) && DM.lp y)
theorem leapB_in {y : Int} (h1 : 1 ≤ y) (h2 : y ≤ 275760) : leapB y = DM.lp y := by simp [leapB, h1, h2]
theorem leapB_out {y : Int} (h : y < 1 ∨ 275760 < y) : leapB y = false := by
  rcases h with h | h <;> simp [leapB] <;> intro <;> omega
/-- days of a month of a year that may be none -/
def lenG (y m : Int) : Int := if 1 ≤ y ∧ y ≤ 275760 ∧ 1 ≤ m ∧ m ≤ 12 then DM.len y m else 0

theorem Leap_c (y : Int) (w : World) :
    Calls Try.prog 12 #[.int .i64 y] w fun e w' => e = .returned (.bool (leapB y)) ∧ w = w' := by
  go_enter Try.func12, Try.ntmps12
  go_wp2
  all_goals
    go_ret
    refine ⟨ret_bool ?_, rfl⟩
    first
      | (rw [leapB_out (by omega)])
      | (rw [leapB_in (by omega) (by omega)]; unfold DM.lp; simp_all)

theorem rLeap_c (y : Int) (w : World) :
    Calls Try.prog 13 #[.int .i64 y] w fun e w' => e = .returned (.bool (leapB y)) ∧ w = w' := by
  by_cases h : 1 ≤ y ∧ y ≤ 275760
  · obtain ⟨h1, h2⟩ := h
    go_enter Try.func13, Try.ntmps13
    go_wp2_with (go_at_call 26; refine (rleap_c _ _ (by omega) (by omega)).mono ?_; rintro e w' ⟨rfl, rfl⟩)
    go_ret
    exact ⟨ret_bool (leapB_in h1 h2).symm, rfl⟩
  · go_enter Try.func13, Try.ntmps13
    go_wp2_with fail
    all_goals
      go_ret
      exact ⟨ret_bool (leapB_out (by omega)).symm, rfl⟩

theorem rlength_c (y m : Int) (w : World) (h0 : 0 ≤ y) (h1 : y ≤ 1000000) :
    Calls Try.prog 27 #[.int .i64 y, .int .i64 m] w fun e w' => e = .returned (.int .i64 (DM.len y m)) ∧ w = w' := by
  go_enter Try.func27, Try.ntmps27
  go_wp2_with (go_at_call 26; refine (rleap_c _ _ h0 h1).mono ?_; rintro e w' ⟨rfl, rfl⟩)
  all_goals
    go_ret
    refine ⟨ret_int ?_, rfl⟩
    simp_all [DM.len, DM.L]
    try omega

theorem rLength_c (y m : Int) (w : World) :
    Calls Try.prog 14 #[.int .i64 y, .int .i64 m] w fun e w' => e = .returned (.int .i64 (lenG y m)) ∧ w = w' := by
  go_enter Try.func14, Try.ntmps14
  go_wp2_with (go_at_call 27; refine (rlength_c _ _ _ (by omega) (by omega)).mono ?_; rintro e w' ⟨rfl, rfl⟩)
  all_goals
    go_ret
    refine ⟨ret_int ?_, rfl⟩
    unfold lenG
    first
      | rw [if_neg (by omega)]
      | rw [if_pos (by omega)]

theorem civil_c (y m d : Int) (w : World) (h0 : 1 ≤ y) (h1 : y ≤ 1000000) (m1 : 1 ≤ m) (m2 : m ≤ 12) (d1 : 1 ≤ d) (d2 : d ≤ 31) :
    Calls Try.prog 28 #[.int .i64 y, .int .i64 m, .int .i64 d] w fun e w' => e = .returned (.int .i64 (DM.NewY y + DM.cum y m + d - 1)) ∧ w = w' := by
  go_enter Try.func28, Try.ntmps28
  go_wp2
  all_goals
    go_ret
    refine ⟨ret_int ?_, rfl⟩
    rw [← DM.civ_eq y m d m1 m2]
    unfold DM.civ
    first
      | (rw [if_pos (by omega), if_pos (by omega)]; try omega)
      | (rw [if_neg (by omega), if_neg (by omega)]; try omega)

theorem New_c (y : Int) (w : World) (h0 : 1 ≤ y) (h1 : y ≤ 1000000) :
    Calls Try.prog 29 #[.int .i64 y] w fun e w' => e = .returned (.int .i64 (DM.NewY y)) ∧ w = w' := by
  go_enter Try.func29, Try.ntmps29
  go_wp2
  go_ret
  refine ⟨ret_int ?_, rfl⟩
  unfold DM.NewY
  omega

theorem Length_core (y m v : Int) (w : World) (h0 : 1 ≤ y) (h1 : y ≤ 275760) (m1 : 1 ≤ m) (m2 : m ≤ 12) (hm : ((m == 2) && DM.lp y) = false)
    (hi : ∀ w, (Instr.index 45 (.agg #[.int .i64 31, .int .i64 28, .int .i64 31, .int .i64 30, .int .i64 31, .int .i64 30, .int .i64 31, .int .i64 31, .int .i64 30, .int .i64 31, .int .i64 30, .int .i64 31]) (.int .i64 (m - 1))).run Try.prog w = .ok (.int .i64 v) w) :
    Calls Try.prog 11 #[.int .i64 y, .int .i64 m] w fun e w' => e = .returned (.int .i64 v) ∧ w = w' := by
  have hl := leapB_in h0 h1
  by_cases h2 : m = 2
  · subst h2
    have hl2 : leapB y = false := by rw [hl]; simpa using hm
    rw [show (2 : Int) - 1 = 1 from rfl] at hi
    clear hl hm
    go_enter Try.func11, Try.ntmps11
    go_wp2_with (go_at_call 12; refine (Leap_c _ _).mono ?_; rintro e w' ⟨rfl, rfl⟩)
    go_ret
    exact ⟨rfl, rfl⟩
  · have h3 : (m == 2) = false := by simpa using h2
    clear hl hm
    go_enter Try.func11, Try.ntmps11
    go_wp2_with fail
    go_ret
    exact ⟨rfl, rfl⟩

theorem Length_leap (y : Int) (w : World) (h0 : 1 ≤ y) (h1 : y ≤ 275760) (hl : DM.lp y = true) :
    Calls Try.prog 11 #[.int .i64 y, .int .i64 2] w fun e w' => e = .returned (.int .i64 29) ∧ w = w' := by
  have hl2 := leapB_in h0 h1
  rw [hl] at hl2
  clear hl
  go_enter Try.func11, Try.ntmps11
  go_wp2_with (go_at_call 12; refine (Leap_c _ _).mono ?_; rintro e w' ⟨rfl, rfl⟩)
  go_ret
  exact ⟨rfl, rfl⟩

theorem Length_in (y m : Int) (w : World) (h0 : 1 ≤ y) (h1 : y ≤ 275760) (m1 : 1 ≤ m) (m2 : m ≤ 12) :
    Calls Try.prog 11 #[.int .i64 y, .int .i64 m] w fun e w' => e = .returned (.int .i64 (DM.len y m)) ∧ w = w' := by
  have hm : m = 1 ∨ m = 2 ∨ m = 3 ∨ m = 4 ∨ m = 5 ∨ m = 6 ∨ m = 7 ∨ m = 8 ∨ m = 9 ∨ m = 10 ∨ m = 11 ∨ m = 12 := by omega
  rcases hm with rfl|rfl|rfl|rfl|rfl|rfl|rfl|rfl|rfl|rfl|rfl|rfl
  case inr.inl =>
    by_cases hl : DM.lp y = true
    · exact (Length_leap y w h0 h1 hl).mono fun e w' ⟨he, hw⟩ => ⟨by rw [he]; exact ret_int (by simp [DM.len, DM.L, hl]), hw⟩
    · exact (Length_core y 2 28 w h0 h1 m1 m2 (by simpa using hl) (fun _ => by kernel_rfl)).mono fun e w' ⟨he, hw⟩ => ⟨by rw [he]; exact ret_int (by simp [DM.len, DM.L, hl]), hw⟩
  all_goals exact (Length_core y _ (DM.len y _) w h0 h1 m1 m2 (by simp) (fun _ => by simp only [DM.len]; kernel_rfl))

theorem Length_c (y m : Int) (w : World) :
    Calls Try.prog 11 #[.int .i64 y, .int .i64 m] w fun e w' => e = .returned (.int .i64 (lenG y m)) ∧ w = w' := by
  by_cases h : 1 ≤ y ∧ y ≤ 275760 ∧ 1 ≤ m ∧ m ≤ 12
  · obtain ⟨h0, h1, m1, m2⟩ := h
    exact (Length_in y m w h0 h1 m1 m2).mono fun e w' ⟨he, hw⟩ => ⟨by rw [he]; exact ret_int (by rw [lenG, if_pos ⟨h0, h1, m1, m2⟩]), hw⟩
  · have hz : lenG y m = 0 := by rw [lenG, if_neg h]
    rw [hz]
    clear hz
    by_cases c1 : y < 1
    · go_enter Try.func11, Try.ntmps11
      go_wp2_with fail
      go_ret
      exact ⟨rfl, rfl⟩
    · by_cases c2 : 275760 < y
      · go_enter Try.func11, Try.ntmps11
        go_wp2_with fail
        go_ret
        exact ⟨rfl, rfl⟩
      · by_cases c3 : m < 1
        · go_enter Try.func11, Try.ntmps11
          go_wp2_with fail
          go_ret
          exact ⟨rfl, rfl⟩
        · have c4 : 12 < m := by omega
          go_enter Try.func11, Try.ntmps11
          go_wp2_with fail
          go_ret
          exact ⟨rfl, rfl⟩
end Go.Proofs.Yteehokamajkklaa

/- The walks of the six laws of days: each returns true, whatever its arguments; the world has at most new blocks. -/
import Derived.Test.YteehokamajkklaaW5
namespace Go.Proofs.Yteehokamajkklaa
open Go.RowKit

theorem wd_add7 (n : Int) : DM.wd (n + 7) = DM.wd n := by unfold DM.wd; omega
theorem wd_succ (n : Int) : DM.wd (n + 1) = DM.wd n % 7 + 1 := by unfold DM.wd; omega
theorem wd_bd (n : Int) : 1 ≤ DM.wd n ∧ DM.wd n ≤ 7 := by unfold DM.wd; omega

theorem DaysWeekdays_w (n : Int) (w : World) (h1 : -9223372036854775808 ≤ n) (_h2 : n ≤ 9223372036854775807) :
    Calls Try.prog 3 #[.int .i64 n] w fun e w' => e = .returned (.bool true) ∧ Grown w w' := by
  have hb := wd_bd n
  have h0 : (DM.wd 0 != 4) = false := by decide
  have h7 : (DM.wd (n + 7) == DM.wd n) = true := by rw [wd_add7]; simp
  have hs : (DM.wd (n + 1) == DM.wd n % 7 + 1) = true := by rw [wd_succ]; simp
  go_enter Try.func3, Try.ntmps3
  go_wp2_with (first | (go_at_call 9; refine (Weekday_c _ _).mono ?_; rintro e w' ⟨rfl, rfl⟩) | (go_at_call 10; refine (rWeekday_c _ _).mono ?_; rintro e w' ⟨rfl, rfl⟩))
  all_goals
    go_ret
    exact ⟨rfl, Grown.refl _⟩

theorem DaysLengths_w (y m : Int) (w : World) :
    Calls Try.prog 4 #[.int .i64 y, .int .i64 m] w fun e w' => e = .returned (.bool true) ∧ Grown w w' := by
  have h0 : (lenG 2000 2 == 29) = true := by decide
  go_enter Try.func4, Try.ntmps4
  go_wp2_with (first | (go_at_call 12; refine (Leap_c _ _).mono ?_; rintro e w' ⟨rfl, rfl⟩) | (go_at_call 13; refine (rLeap_c _ _).mono ?_; rintro e w' ⟨rfl, rfl⟩) | (go_at_call 11; refine (Length_c _ _ _).mono ?_; rintro e w' ⟨rfl, rfl⟩) | (go_at_call 14; refine (rLength_c _ _ _).mono ?_; rintro e w' ⟨rfl, rfl⟩))
  go_ret
  exact ⟨rfl, Grown.refl _⟩

theorem num_day (y m d : Int) (h : dayB y m d = true) : numB (num y m d) = true ∧ DM.dt (num y m d) = ⟨y, m, d⟩ := by
  obtain ⟨y1, y2, m1, m2, d1, d2⟩ := dayB_in h
  have k1 := DM.cum_mono y m 13 m1 (by omega) (by omega)
  have c1 := DM.cum_bd y m m1 (by omega)
  rw [DM.cum_13] at k1
  have s1 := DM.NewY_succ y
  have n1 := DM.NewY_mono 1 y y1
  have n2 := DM.NewY_mono (y + 1) 275761 (by omega)
  have e1 := DM.New1'
  constructor
  · unfold numB; rw [Bool.and_eq_true, decide_eq_true_eq, decide_eq_true_eq]; unfold num; omega
  · obtain ⟨p1, p2, p3, p4, p5⟩ := DM.dt_ok (num y m d)
    have := DM.day_one (DM.dt (num y m d)).y (DM.dt (num y m d)).m (DM.dt (num y m d)).d y m d p1 p2 m1 m2 p3 p4 d1 d2 (by rw [num] at *; omega)
    obtain ⟨q1, q2, q3⟩ := this
    revert q1 q2 q3
    cases DM.dt (num y m d)
    rintro rfl rfl rfl
    rfl
theorem day_num (n : Int) (h : numB n = true) : dayB (DM.dt n).y (DM.dt n).m (DM.dt n).d = true ∧ num (DM.dt n).y (DM.dt n).m (DM.dt n).d = n := by
  simp only [numB, Bool.and_eq_true, decide_eq_true_eq] at h
  obtain ⟨p1, p2, p3, p4, p5⟩ := DM.dt_ok n
  exact ⟨dayB_of ⟨DM.yr_lo n (by rw [DM.New1']; omega), by have := DM.yr_hi n _ h.2; omega, p1, p2, p3, p4⟩, p5⟩

theorem DaysNumbers_w (y m d : Int) (w : World) :
    Calls Try.prog 5 #[.int .i64 y, .int .i64 m, .int .i64 d] w fun e w' => e = .returned (.bool true) ∧ Grown w w' := by
  by_cases h : dayB y m d = true
  · obtain ⟨hn, hd⟩ := num_day y m d h
    have H := Lib.hid h
    have HN := Lib.hid hn
    have H1 : (DM.dt (num y m d)).y = y := by rw [hd]
    have H2 : (DM.dt (num y m d)).m = m := by rw [hd]
    have H3 : (DM.dt (num y m d)).d = d := by rw [hd]
    clear h hn hd
    go_enter Try.func5, Try.ntmps5
    go_wp2_with (first | (go_at_call 15; refine (Number_yes _ _ _ _ H.out).mono ?_; rintro e w' ⟨rfl, rfl⟩) | (go_at_call 16; refine (rNumber_yes _ _ _ _ H.out).mono ?_; rintro e w' ⟨rfl, rfl⟩) | (go_at_call 17; refine (wakes_c _).mono ?_; rintro e w' ⟨rfl, rfl⟩) | (go_at_call 18; refine (Date_yes _ _ HN.out).mono ?_; rintro e w' ⟨rfl, rfl⟩))
    go_ret
    exact ⟨rfl, Grown.refl _⟩
  · have H := Lib.hid (show dayB y m d = false by simpa using h)
    clear h
    go_enter Try.func5, Try.ntmps5
    go_wp2_with (first | (go_at_call 15; refine (Number_no _ _ _ _ H.out).mono ?_; rintro e w' ⟨rfl, rfl⟩) | (go_at_call 16; refine (rNumber_no _ _ _ _ H.out).mono ?_; rintro e w' ⟨rfl, rfl⟩) | (go_at_call 17; refine (wakes_c _).mono ?_; rintro e w' ⟨rfl, rfl⟩))
    go_ret
    exact ⟨rfl, Grown.refl _⟩
set_option maxHeartbeats 400000 in
theorem DaysDates_w (n : Int) (w : World) :
    Calls Try.prog 6 #[.int .i64 n] w fun e w' => e = .returned (.bool true) ∧ Grown w w' := by
  by_cases h : numB n = true
  · obtain ⟨hd, hn⟩ := day_num n h
    have H := Lib.hid h
    have HD := Lib.hid hd
    clear h hd
    go_enter Try.func6, Try.ntmps6
    go_wp2_with (first | (go_at_call 18; refine (Date_yes _ _ H.out).mono ?_; rintro e w' ⟨rfl, rfl⟩) | (go_at_call 19; refine (rDate_yes _ _ H.out).mono ?_; rintro e w' ⟨rfl, hg⟩) | (go_at_call 17; refine (wakes_c _).mono ?_; rintro e w' ⟨rfl, rfl⟩) | (go_at_call 15; refine (Number_yes _ _ _ _ HD.out).mono ?_; rintro e w' ⟨rfl, rfl⟩))
    go_ret
    exact ⟨rfl, hg.alloc _ _⟩
  · have H := Lib.hid (show numB n = false by simpa using h)
    clear h
    go_enter Try.func6, Try.ntmps6
    go_wp2_with (first | (go_at_call 18; refine (Date_no _ _ H.out).mono ?_; rintro e w' ⟨rfl, rfl⟩) | (go_at_call 19; refine (rDate_no _ _ H.out).mono ?_; rintro e w' ⟨rfl, hg⟩) | (go_at_call 17; refine (wakes_c _).mono ?_; rintro e w' ⟨rfl, rfl⟩) | (go_at_call 15; refine (Number_no _ _ _ _ (by decide)).mono ?_; rintro e w' ⟨rfl, rfl⟩))
    go_ret
    exact ⟨rfl, hg.alloc _ _⟩

theorem monday_wd (y k : Int) : (DM.wd (DM.fst y + 7 * (k - 1)) == 1) = true := by
  have := DM.fst_mod y
  unfold DM.wd
  simp
  omega
theorem DaysMondays_w (y k : Int) (w : World) :
    Calls Try.prog 7 #[.int .i64 y, .int .i64 k] w fun e w' => e = .returned (.bool true) ∧ Grown w w' := by
  by_cases h : weekB y k = true
  · have H := Lib.hid h
    have hw := monday_wd y k
    clear h
    go_enter Try.func7, Try.ntmps7
    go_wp2_with (first | (go_at_call 20; refine (Monday_yes _ _ _ H.out).mono ?_; rintro e w' ⟨rfl, rfl⟩) | (go_at_call 21; refine (rMonday_yes _ _ _ H.out).mono ?_; rintro e w' ⟨rfl, rfl⟩) | (go_at_call 17; refine (wakes_c _).mono ?_; rintro e w' ⟨rfl, rfl⟩) | (go_at_call 22; refine (Weeks_c _ _).mono ?_; rintro e w' ⟨rfl, rfl⟩) | (go_at_call 23; refine (rWeeks_c _ _).mono ?_; rintro e w' ⟨rfl, rfl⟩) | (go_at_call 9; refine (Weekday_c _ _).mono ?_; rintro e w' ⟨rfl, rfl⟩))
    go_ret
    exact ⟨rfl, Grown.refl _⟩
  · have H := Lib.hid (show weekB y k = false by simpa using h)
    clear h
    go_enter Try.func7, Try.ntmps7
    go_wp2_with (first | (go_at_call 20; refine (Monday_no _ _ _ H.out).mono ?_; rintro e w' ⟨rfl, rfl⟩) | (go_at_call 21; refine (rMonday_no _ _ _ H.out).mono ?_; rintro e w' ⟨rfl, rfl⟩) | (go_at_call 17; refine (wakes_c _).mono ?_; rintro e w' ⟨rfl, rfl⟩) | (go_at_call 22; refine (Weeks_c _ _).mono ?_; rintro e w' ⟨rfl, rfl⟩) | (go_at_call 23; refine (rWeeks_c _ _).mono ?_; rintro e w' ⟨rfl, rfl⟩))
    go_ret
    exact ⟨rfl, Grown.refl _⟩

theorem week_is (n : Int) (h : wnB n = true) : weekB (DM.wy n) ((n - DM.fst (DM.wy n)) / 7 + 1) = true ∧
    DM.fst (DM.wy n) + 7 * ((n - DM.fst (DM.wy n)) / 7 + 1 - 1) ≤ n ∧ n - (DM.fst (DM.wy n) + 7 * ((n - DM.fst (DM.wy n)) / 7 + 1 - 1)) < 7 ∧
    -719162 ≤ DM.fst (DM.wy n) + 7 * ((n - DM.fst (DM.wy n)) / 7 + 1 - 1) ∧ n < 100000107 := by
  simp only [wnB, Bool.and_eq_true, decide_eq_true_eq] at h
  have e1 := DM.fst1
  have e2 := DM.fstL
  have hb := DM.wy_bd n (by omega) (by omega)
  have hi := DM.wy_in n
  have hq := DM.wks_eq (DM.wy n)
  have hm := DM.fst_mono 1 (DM.wy n) (by omega)
  refine ⟨?_, by omega, by omega, by omega, by omega⟩
  unfold weekB
  rw [Bool.and_eq_true, decide_eq_true_eq, decide_eq_true_eq, wksG, if_pos (by omega)]
  omega
set_option maxHeartbeats 400000 in
theorem DaysWeeks_w (n : Int) (w : World) :
    Calls Try.prog 8 #[.int .i64 n] w fun e w' => e = .returned (.bool true) ∧ Grown w w' := by
  by_cases h : wnB n = true
  · obtain ⟨hd, k1, k2, k3, k4⟩ := week_is n h
    have H := Lib.hid h
    have HD := Lib.hid hd
    clear h hd
    go_enter Try.func8, Try.ntmps8
    go_wp2_with (first | (go_at_call 24; refine (Week_yes _ _ H.out).mono ?_; rintro e w' ⟨rfl, rfl⟩) | (go_at_call 25; refine (rWeek_yes _ _ H.out).mono ?_; rintro e w' ⟨rfl, hg⟩) | (go_at_call 17; refine (wakes_c _).mono ?_; rintro e w' ⟨rfl, rfl⟩) | (go_at_call 20; refine (Monday_yes _ _ _ HD.out).mono ?_; rintro e w' ⟨rfl, rfl⟩))
    go_ret
    exact ⟨ret_bool (by simp; omega), hg.alloc _ _⟩
  · have H := Lib.hid (show wnB n = false by simpa using h)
    clear h
    go_enter Try.func8, Try.ntmps8
    go_wp2_with (first | (go_at_call 24; refine (Week_no _ _ H.out).mono ?_; rintro e w' ⟨rfl, rfl⟩) | (go_at_call 25; refine (rWeek_no _ _ H.out).mono ?_; rintro e w' ⟨rfl, hg⟩) | (go_at_call 17; refine (wakes_c _).mono ?_; rintro e w' ⟨rfl, rfl⟩) | (go_at_call 20; refine (Monday_no _ _ _ (by decide)).mono ?_; rintro e w' ⟨rfl, rfl⟩))
    go_ret
    exact ⟨rfl, hg.alloc _ _⟩
end Go.Proofs.Yteehokamajkklaa

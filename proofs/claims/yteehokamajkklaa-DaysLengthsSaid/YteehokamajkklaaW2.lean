/- Contracts of days' and its reference's functions on numbers and dates: each returns what the plain law names. -/
import Derived.Test.YteehokamajkklaaW1
namespace Go.Proofs.Yteehokamajkklaa
open Go.RowKit

/-- is there such a day? -/
def dayB (y m d : Int) : Bool := decide (1 ≤ d) && decide (d ≤ lenG y m)
theorem dayB_in {y m d : Int} (h : dayB y m d = true) : 1 ≤ y ∧ y ≤ 275760 ∧ 1 ≤ m ∧ m ≤ 12 ∧ 1 ≤ d ∧ d ≤ DM.len y m := by
  simp only [dayB, Bool.and_eq_true, decide_eq_true_eq] at h
  obtain ⟨h1, h2⟩ := h
  unfold lenG at h2
  split at h2
  · omega
  · omega
theorem dayB_of {y m d : Int} (h : 1 ≤ y ∧ y ≤ 275760 ∧ 1 ≤ m ∧ m ≤ 12 ∧ 1 ≤ d ∧ d ≤ DM.len y m) : dayB y m d = true := by
  simp only [dayB, Bool.and_eq_true, decide_eq_true_eq]
  refine ⟨by omega, ?_⟩
  rw [lenG, if_pos (by omega)]
  omega
/-- the number of a day -/
def num (y m d : Int) : Int := DM.NewY y + DM.cum y m + d - 1

theorem Number_yes (y m d : Int) (w : World) (h : dayB y m d = true) :
    Calls Try.prog 15 #[.int .i64 y, .int .i64 m, .int .i64 d] w fun e w' => e = .returned (.tuple #[.int .i64 (num y m d), .int .i64 0]) ∧ w = w' := by
  obtain ⟨y1, y2, m1, m2, d1, d2⟩ := dayB_in h
  have hL := DM.len_bd y m
  have hg : lenG y m = DM.len y m := by rw [lenG, if_pos ⟨y1, y2, m1, m2⟩]
  have h2 : d ≤ lenG y m := by omega
  clear hg h
  go_enter Try.func15, Try.ntmps15
  go_wp2_with (first | (go_at_call 11; refine (Length_c _ _ _).mono ?_; rintro e w' ⟨rfl, rfl⟩) | (go_at_call 28; refine (civil_c _ _ _ _ y1 (by omega) m1 m2 d1 (by omega)).mono ?_; rintro e w' ⟨rfl, rfl⟩))
  go_ret2
  exact ⟨rfl, rfl⟩

theorem Number_no (y m d : Int) (w : World) (h : dayB y m d = false) :
    Calls Try.prog 15 #[.int .i64 y, .int .i64 m, .int .i64 d] w fun e w' => e = .returned (.tuple #[.int .i64 0, .int .i64 2]) ∧ w = w' := by
  by_cases h1 : d < 1
  · clear h
    go_enter Try.func15, Try.ntmps15
    go_wp2_with fail
    go_ret2
    exact ⟨rfl, rfl⟩
  · have h2 : lenG y m < d := by
      simp only [dayB, Bool.and_eq_false_iff, decide_eq_false_iff_not] at h
      omega
    clear h
    go_enter Try.func15, Try.ntmps15
    go_wp2_with (go_at_call 11; refine (Length_c _ _ _).mono ?_; rintro e w' ⟨rfl, rfl⟩)
    go_ret2
    exact ⟨rfl, rfl⟩

theorem rNumber_no (y m d : Int) (w : World) (h : dayB y m d = false) :
    Calls Try.prog 16 #[.int .i64 y, .int .i64 m, .int .i64 d] w fun e w' => e = .returned (.tuple #[.int .i64 0, .int .i64 2]) ∧ w = w' := by
  by_cases h1 : d < 1
  · clear h
    go_enter Try.func16, Try.ntmps16
    go_wp2_with fail
    go_ret2
    exact ⟨rfl, rfl⟩
  · have h2 : lenG y m < d := by
      simp only [dayB, Bool.and_eq_false_iff, decide_eq_false_iff_not] at h
      omega
    clear h
    go_enter Try.func16, Try.ntmps16
    go_wp2_with (go_at_call 14; refine (rLength_c _ _ _).mono ?_; rintro e w' ⟨rfl, rfl⟩)
    go_ret2
    exact ⟨rfl, rfl⟩

theorem ret_i2 {k : IntKind} {a b c d : Int} (h : a = b) (h' : c = d) : Ending.returned (.tuple #[.int k a, .int k c]) = .returned (.tuple #[.int k b, .int k d]) := by rw [h, h']
theorem NewY_bd (y : Int) (h1 : 1 ≤ y) (h2 : y ≤ 1000000) : -719162 ≤ DM.NewY y ∧ DM.NewY y ≤ 400000000 := by unfold DM.NewY; omega

theorem rNumber_yes (y m d : Int) (w : World) (h : dayB y m d = true) :
    Calls Try.prog 16 #[.int .i64 y, .int .i64 m, .int .i64 d] w fun e w' => e = .returned (.tuple #[.int .i64 (num y m d), .int .i64 0]) ∧ w = w' := by
  obtain ⟨y1, y2, m1, m2, d1, d2⟩ := dayB_in h
  have hL := DM.len_bd y m
  have hN := NewY_bd y y1 (by omega)
  have hg : lenG y m = DM.len y m := by rw [lenG, if_pos ⟨y1, y2, m1, m2⟩]
  have h2 : d ≤ lenG y m := by omega
  clear hg h
  go_enter Try.func16, Try.ntmps16
  go_wp2_with (first | (go_at_call 14; refine (rLength_c _ _ _).mono ?_; rintro e w' ⟨rfl, rfl⟩) | (go_at_call 29; refine (New_c _ _ y1 (by omega)).mono ?_; rintro e w' ⟨rfl, rfl⟩))
  go_loop [8, 9] (fun n k => ∃ i : Int, 1 ≤ i ∧ i ≤ m ∧ k = .int .i64 i ∧ n = .int .i64 (DM.NewY y + DM.cum y i)) (fun _ k => (m - intOf k).toNat)
  case atStart => exact ⟨1, by omega, by omega, rfl, by simp [DM.cum]⟩
  case round =>
    obtain ⟨i, hi1, hi2, rfl, rfl⟩ := hrel
    have hc := DM.cum_bd y i hi1 (by omega)
    have hl := DM.len_bd y i
    by_cases hlt : i < m
    · have hs := Lib.hid (DM.cum_succ y i hi1 (by omega))
      go_wp2_with (go_at_call 27; refine (rlength_c _ _ _ (by omega) (by omega)).mono ?_; rintro e w' ⟨rfl, rfl⟩)
      go_round
      case rel => exact ⟨i + 1, by omega, by omega, rfl, by rw [hs.out]; go_num⟩
      case measure => simp [intOf]; omega
    · obtain rfl : i = m := by omega
      go_wp2
      go_ret2
      exact ⟨ret_i2 (by unfold num; omega) rfl, rfl⟩

theorem wakes_c (w : World) : Calls Try.prog 17 #[] w fun e w' => e = .returned (.bool true) ∧ w = w' := by
  have hn : num 2000 2 29 = 11016 := by decide
  go_enter Try.func17, Try.ntmps17
  go_wp2_with (go_at_call 15; refine (Number_yes _ _ _ _ (by decide)).mono ?_; rintro e w' ⟨rfl, rfl⟩)
  go_ret
  exact ⟨rfl, rfl⟩

theorem ends_c (w : World) : Calls Try.prog 30 #[] w fun e w' => e = .returned (.tuple #[.int .i64 (-719162), .int .i64 (DM.NewY 275761 - 1)]) ∧ w = w' := by
  go_enter Try.func30, Try.ntmps30
  go_wp2_with (go_at_call 28; refine (civil_c _ _ _ _ (by omega) (by omega) (by omega) (by omega) (by omega) (by omega)).mono ?_; rintro e w' ⟨rfl, rfl⟩)
  go_ret2
  exact ⟨by rfl, rfl⟩

/-- is it the number of a day of a year? -/
def numB (n : Int) : Bool := decide (-719162 ≤ n) && decide (n < DM.NewY 275761)

theorem results_tmp4 {fn : Func} {t u v x : Tmp} (h : fn.results = #[.tmp t, .tmp u, .tmp v, .tmp x]) (tmps : Array Value) (P : Program) (w : World) :
    (results fn tmps).run P w = .ok (.tuple #[tmps.getD t undef, tmps.getD u undef, tmps.getD v undef, tmps.getD x undef]) w := by simp [results, h]

theorem Date_no (n : Int) (w : World) (h : numB n = false) :
    Calls Try.prog 18 #[.int .i64 n] w fun e w' => e = .returned (.tuple #[.int .i64 0, .int .i64 0, .int .i64 0, .int .i64 2]) ∧ w = w' := by
  simp only [numB, Bool.and_eq_false_iff, decide_eq_false_iff_not] at h
  by_cases h1 : n < -719162
  · clear h
    go_enter Try.func18, Try.ntmps18
    go_wp2_with (go_at_call 30; refine (ends_c _).mono ?_; rintro e w' ⟨rfl, rfl⟩)
    refine bodyPost_ret (results_tmp4 rfl _ _ _) rfl ?_
    exact ⟨rfl, rfl⟩
  · have h2 : DM.NewY 275761 - 1 < n := by omega
    clear h
    go_enter Try.func18, Try.ntmps18
    go_wp2_with (go_at_call 30; refine (ends_c _).mono ?_; rintro e w' ⟨rfl, rfl⟩)
    refine bodyPost_ret (results_tmp4 rfl _ _ _) rfl ?_
    exact ⟨rfl, rfl⟩
set_option maxHeartbeats 1000000 in
theorem Date_yes (n : Int) (w : World) (h : numB n = true) :
    Calls Try.prog 18 #[.int .i64 n] w fun e w' => e = .returned (.tuple #[.int .i64 (DM.dt n).y, .int .i64 (DM.dt n).m, .int .i64 (DM.dt n).d, .int .i64 0]) ∧ w = w' := by
  simp only [numB, Bool.and_eq_true, decide_eq_true_eq] at h
  obtain ⟨h1, h2⟩ := h
  have h3 : ¬ (DM.NewY 275761 - 1 < n) := by omega
  have h4 : n ≤ 200000000 := by unfold DM.NewY at h2; omega
  clear h2
  have hD := DM.dO_bd n
  unfold DM.dO DM.yO at hD
  go_enter Try.func18, Try.ntmps18
  go_wp2_with (go_at_call 30; refine (ends_c _).mono ?_; rintro e w' ⟨rfl, rfl⟩)
  · rename_i hk
    have e := DM.dt_hi n hk
    refine bodyPost_ret (results_tmp4 rfl _ _ _) rfl ?_
    rw [e]
    exact ⟨rfl, rfl⟩
  · rename_i hk
    have e := DM.dt_lo n hk
    refine bodyPost_ret (results_tmp4 rfl _ _ _) rfl ?_
    rw [e]
    exact ⟨rfl, rfl⟩
end Go.Proofs.Yteehokamajkklaa

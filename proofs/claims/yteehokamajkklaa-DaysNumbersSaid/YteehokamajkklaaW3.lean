/- Contracts of the reference's year and day of a number, and of both texts' weeks. -/
import Derived.Test.YteehokamajkklaaW2
namespace Go.Proofs.Yteehokamajkklaa
open Go.RowKit

theorem Year_no (n : Int) (w : World) (h : n < DM.NewY 1 ∨ DM.NewY 275762 ≤ n) :
    Calls Try.prog 31 #[.int .i64 n] w fun e w' => e = .returned (.int .i64 0) ∧ w = w' := by
  by_cases h1 : n < DM.NewY 1
  · clear h
    go_enter Try.func31, Try.ntmps31
    go_wp2_with (go_at_call 29; refine (New_c _ _ (by omega) (by omega)).mono ?_; rintro e w' ⟨rfl, rfl⟩)
    go_ret
    exact ⟨rfl, rfl⟩
  · have h2 : DM.NewY 275762 ≤ n := by omega
    clear h
    go_enter Try.func31, Try.ntmps31
    go_wp2_with (go_at_call 29; refine (New_c _ _ (by omega) (by omega)).mono ?_; rintro e w' ⟨rfl, rfl⟩)
    go_ret
    exact ⟨rfl, rfl⟩
set_option maxHeartbeats 400000 in
theorem Year_yes (n : Int) (w : World) (h1 : DM.NewY 1 ≤ n) (h2 : n < DM.NewY 275762) :
    Calls Try.prog 31 #[.int .i64 n] w fun e w' => e = .returned (.int .i64 (DM.dt n).y) ∧ w = w' := by
  have h1' : ¬ n < DM.NewY 1 := by omega
  have h2' : ¬ DM.NewY 275762 ≤ n := by omega
  go_enter Try.func31, Try.ntmps31
  go_wp2_with (go_at_call 29; refine (New_c _ _ (by omega) (by omega)).mono ?_; rintro e w' ⟨rfl, rfl⟩)
  go_loop [3, 4, 5] (fun l h _ => ∃ a b : Int, 1 ≤ a ∧ a ≤ b ∧ b ≤ 275761 ∧ DM.NewY a ≤ n ∧ n < DM.NewY (b + 1) ∧ l = .int .i64 a ∧ h = .int .i64 b) (fun l h _ => (intOf h - intOf l).toNat)
  case atStart => exact ⟨1, 275761, by omega, by omega, by omega, h1, h2, rfl, rfl⟩
  case round =>
    obtain ⟨a, b, ha, hab, hb, hl, hh, rfl, rfl⟩ := hrel
    by_cases hlt : a < b
    · by_cases hm : DM.NewY ((a + b + 1) / 2) ≤ n
      · go_wp2_with (go_at_call 29; refine (New_c _ _ (by omega) (by omega)).mono ?_; rintro e w' ⟨rfl, rfl⟩)
        go_round
        case rel => exact ⟨(a + b + 1) / 2, b, by omega, by omega, by omega, hm, hh, rfl, rfl⟩
        case measure => simp [intOf]; omega
      · have hm' : n < DM.NewY ((a + b + 1) / 2 - 1 + 1) := by rw [show (a + b + 1) / 2 - 1 + 1 = (a + b + 1) / 2 from by omega]; omega
        go_wp2_with (go_at_call 29; refine (New_c _ _ (by omega) (by omega)).mono ?_; rintro e w' ⟨rfl, rfl⟩)
        go_round
        case rel => exact ⟨a, (a + b + 1) / 2 - 1, by omega, by omega, by omega, hl, hm', rfl, rfl⟩
        case measure => simp [intOf]; omega
    · obtain rfl : a = b := by omega
      have e := Lib.hid (DM.yr_one a n hl hh)
      go_wp2
      go_ret
      exact ⟨ret_int e.out, rfl⟩

theorem New1 : DM.NewY 1 = -719162 := by decide
theorem New2 : DM.NewY 275761 < DM.NewY 275762 := by decide
theorem yr_last (n : Int) (h1 : DM.NewY 275761 ≤ n) (h2 : n < DM.NewY 275762) : (DM.dt n).y = 275761 := (DM.yr_one 275761 n h1 h2).symm
set_option maxHeartbeats 400000 in
theorem rDate_no (n : Int) (w : World) (h : numB n = false) :
    Calls Try.prog 19 #[.int .i64 n] w fun e w' => e = .returned (.tuple #[.agg #[.int .i64 0, .int .i64 0, .int .i64 0], .int .i64 2]) ∧ Grown w w' := by
  simp only [numB, Bool.and_eq_false_iff, decide_eq_false_iff_not] at h
  have hN := New1
  by_cases h1 : n < DM.NewY 1 ∨ DM.NewY 275762 ≤ n
  · clear h hN
    go_enter Try.func19, Try.ntmps19
    go_wp2_with (go_at_call 31; refine (Year_no _ _ h1).mono ?_; rintro e w' ⟨rfl, rfl⟩)
    exact bodyPost_ret (v := .tuple #[.agg #[.int .i64 0, .int .i64 0, .int .i64 0], .int .i64 2]) (by simp [results, Try.results19, go_sem]) rfl ⟨rfl, (Grown.refl _).alloc _ _⟩
  · have h3 : DM.NewY 1 ≤ n := by omega
    have h4 : n < DM.NewY 275762 := by omega
    have h2 := yr_last n (by omega) h4
    have hy : (275760 : Int) < (DM.dt n).y := by omega
    clear h hN h1 h2
    go_enter Try.func19, Try.ntmps19
    go_wp2_with (go_at_call 31; refine (Year_yes _ _ h3 h4).mono ?_; rintro e w' ⟨rfl, rfl⟩)
    exact bodyPost_ret (v := .tuple #[.agg #[.int .i64 0, .int .i64 0, .int .i64 0], .int .i64 2]) (by simp [results, Try.results19, go_sem]) rfl ⟨rfl, (Grown.refl _).alloc _ _⟩

theorem rest_step (n i : Int) (h1 : 1 ≤ i) (h2 : i < (DM.dt n).m) : DM.len (DM.dt n).y i ≤ n - DM.NewY (DM.dt n).y - DM.cum (DM.dt n).y i := by
  obtain ⟨m1, m2, d1, d2, e⟩ := DM.dt_ok n
  have := DM.cum_mono (DM.dt n).y i (DM.dt n).m h1 h2 (by omega)
  omega
theorem rest_last (n : Int) : n - DM.NewY (DM.dt n).y - DM.cum (DM.dt n).y (DM.dt n).m = (DM.dt n).d - 1 ∧ (DM.dt n).d - 1 < DM.len (DM.dt n).y (DM.dt n).m := by
  obtain ⟨m1, m2, d1, d2, e⟩ := DM.dt_ok n
  omega

set_option maxHeartbeats 1000000 in
theorem rDate_yes (n : Int) (w : World) (h : numB n = true) :
    Calls Try.prog 19 #[.int .i64 n] w fun e w' => e = .returned (.tuple #[.agg #[.int .i64 (DM.dt n).y, .int .i64 (DM.dt n).m, .int .i64 (DM.dt n).d], .int .i64 0]) ∧ Grown w w' := by
  simp only [numB, Bool.and_eq_true, decide_eq_true_eq] at h
  have hN := New1
  have hN2 := New2
  have h3 : DM.NewY 1 ≤ n := by omega
  have h4 : n < DM.NewY 275762 := by omega
  have hy1 := DM.yr_lo n h3
  have hy2 := DM.yr_hi n _ h.2
  have hyb := DM.yr_bd n
  have hNb := NewY_bd (DM.dt n).y hy1 (by omega)
  have hys := DM.NewY_succ (DM.dt n).y
  have hL := DM.L01 (DM.dt n).y
  obtain ⟨m1, m2, d1, d2, e⟩ := DM.dt_ok n
  have hne : ((DM.dt n).y == 0) = false := by simp; omega
  have hlast := rest_last n
  have hb : 0 ≤ n - DM.NewY (DM.dt n).y ∧ n - DM.NewY (DM.dt n).y ≤ 366 := by omega
  have HL := Lib.hid hlast.1
  have hl2 := hlast.2
  clear h hN hN2 hyb hys hL e hlast
  go_enter Try.func19, Try.ntmps19
  go_wp2_with (first | (go_at_call 31; refine (Year_yes _ _ h3 h4).mono ?_; rintro e w' ⟨rfl, rfl⟩) | (go_at_call 29; refine (New_c _ _ hy1 (by omega)).mono ?_; rintro e w' ⟨rfl, rfl⟩))
  go_loop [5, 6] (fun r k => ∃ i : Int, 1 ≤ i ∧ i ≤ (DM.dt n).m ∧ k = .int .i64 i ∧ r = .int .i64 (n - DM.NewY (DM.dt n).y - DM.cum (DM.dt n).y i)) (fun _ k => ((DM.dt n).m - intOf k).toNat)
  case atStart => exact ⟨1, by omega, by omega, rfl, by simp [DM.cum]⟩
  case round =>
    obtain ⟨i, hi1, hi2, rfl, rfl⟩ := hrel
    have hc := DM.cum_bd (DM.dt n).y i hi1 (by omega)
    have hl := DM.len_bd (DM.dt n).y i
    by_cases hlt : i < (DM.dt n).m
    · have hs := Lib.hid (DM.cum_succ (DM.dt n).y i hi1 (by omega))
      have hr := rest_step n i hi1 hlt
      go_wp2_with (go_at_call 27; refine (rlength_c _ _ _ (by omega) (by omega)).mono ?_; rintro e w' ⟨rfl, rfl⟩)
      go_round
      case rel => exact ⟨i + 1, by omega, by omega, rfl, by rw [hs.out]; go_num⟩
      case measure => simp [intOf]; omega
    · have hi : i = (DM.dt n).m := by omega
      have hr : ¬ DM.len (DM.dt n).y i ≤ n - DM.NewY (DM.dt n).y - DM.cum (DM.dt n).y i := by rw [hi, HL.out]; omega
      have hd : n - DM.NewY (DM.dt n).y - DM.cum (DM.dt n).y i + 1 = (DM.dt n).d := by rw [hi, HL.out]; omega
      have HD := Lib.hid hd
      have HI := Lib.hid hi
      clear hd hi
      go_wp2_with (go_at_call 27; refine (rlength_c _ _ _ (by omega) (by omega)).mono ?_; rintro e w' ⟨rfl, rfl⟩)
      refine bodyPost_ret (v := .tuple #[.agg #[.int .i64 (DM.dt n).y, .int .i64 i, .int .i64 (n - DM.NewY (DM.dt n).y - DM.cum (DM.dt n).y i + 1)], .int .i64 0]) (by simp [results, Try.results19, go_sem]) rfl ⟨?_, ?_⟩
      · rw [HD.out, HI.out]
      · exact (Grown.refl _).alloc _ _
end Go.Proofs.Yteehokamajkklaa

/- Contracts of the weeks' Mondays and of a number's week, of both texts. -/
import Derived.Test.YteehokamajkklaaW4
namespace Go.Proofs.Yteehokamajkklaa
open Go.RowKit

/-- is there such a week? -/
def weekB (y k : Int) : Bool := decide (1 ≤ k) && decide (k ≤ wksG y)
theorem weekB_in {y k : Int} (h : weekB y k = true) : 1 ≤ y ∧ y ≤ 275760 ∧ 1 ≤ k ∧ k ≤ DM.wks y ∧ k ≤ wksG y := by
  simp only [weekB, Bool.and_eq_true, decide_eq_true_eq] at h
  obtain ⟨h1, h2⟩ := h
  have h3 := h2
  unfold wksG at h2
  split at h2
  · omega
  · omega
theorem Monday_yes (y k : Int) (w : World) (h : weekB y k = true) :
    Calls Try.prog 20 #[.int .i64 y, .int .i64 k] w fun e w' => e = .returned (.tuple #[.int .i64 (DM.fst y + 7 * (k - 1)), .int .i64 0]) ∧ w = w' := by
  obtain ⟨y1, y2, k1, _, k3⟩ := weekB_in h
  have hw := wks_bd y
  have b1 := fst_bd2 y y1 (by omega)
  clear h
  go_enter Try.func20, Try.ntmps20
  go_wp2_with (first | (go_at_call 22; refine (Weeks_c _ _).mono ?_; rintro e w' ⟨rfl, rfl⟩) | (go_at_call 32; refine (first_c _ _ (by omega) (by omega)).mono ?_; rintro e w' ⟨rfl, rfl⟩))
  go_ret2
  exact ⟨rfl, rfl⟩
theorem Monday_no (y k : Int) (w : World) (h : weekB y k = false) :
    Calls Try.prog 20 #[.int .i64 y, .int .i64 k] w fun e w' => e = .returned (.tuple #[.int .i64 0, .int .i64 2]) ∧ w = w' := by
  by_cases h1 : k < 1
  · clear h
    go_enter Try.func20, Try.ntmps20
    go_wp2_with fail
    go_ret2
    exact ⟨rfl, rfl⟩
  · have h2 : wksG y < k := by
      simp only [weekB, Bool.and_eq_false_iff, decide_eq_false_iff_not] at h
      omega
    clear h
    go_enter Try.func20, Try.ntmps20
    go_wp2_with (go_at_call 22; refine (Weeks_c _ _).mono ?_; rintro e w' ⟨rfl, rfl⟩)
    go_ret2
    exact ⟨rfl, rfl⟩
theorem rMonday_yes (y k : Int) (w : World) (h : weekB y k = true) :
    Calls Try.prog 21 #[.int .i64 y, .int .i64 k] w fun e w' => e = .returned (.tuple #[.int .i64 (DM.fst y + 7 * (k - 1)), .int .i64 0]) ∧ w = w' := by
  obtain ⟨y1, y2, k1, _, k3⟩ := weekB_in h
  have hw := wks_bd y
  have b1 := fst_bd2 y y1 (by omega)
  clear h
  go_enter Try.func21, Try.ntmps21
  go_wp2_with (first | (go_at_call 23; refine (rWeeks_c _ _).mono ?_; rintro e w' ⟨rfl, rfl⟩) | (go_at_call 33; refine (rfirst_c _ _ (by omega) (by omega)).mono ?_; rintro e w' ⟨rfl, rfl⟩))
  go_ret2
  exact ⟨rfl, rfl⟩
theorem rMonday_no (y k : Int) (w : World) (h : weekB y k = false) :
    Calls Try.prog 21 #[.int .i64 y, .int .i64 k] w fun e w' => e = .returned (.tuple #[.int .i64 0, .int .i64 2]) ∧ w = w' := by
  by_cases h1 : k < 1
  · clear h
    go_enter Try.func21, Try.ntmps21
    go_wp2_with fail
    go_ret2
    exact ⟨rfl, rfl⟩
  · have h2 : wksG y < k := by
      simp only [weekB, Bool.and_eq_false_iff, decide_eq_false_iff_not] at h
      omega
    clear h
    go_enter Try.func21, Try.ntmps21
    go_wp2_with (go_at_call 23; refine (rWeeks_c _ _).mono ?_; rintro e w' ⟨rfl, rfl⟩)
    go_ret2
    exact ⟨rfl, rfl⟩

/-- is it the number of a day of a week of a year? -/
def wnB (n : Int) : Bool := decide (-719162 ≤ n) && decide (n < 100000107)

theorem Week_no (n : Int) (w : World) (h : wnB n = false) :
    Calls Try.prog 24 #[.int .i64 n] w fun e w' => e = .returned (.tuple #[.int .i64 0, .int .i64 0, .int .i64 2]) ∧ w = w' := by
  simp only [wnB, Bool.and_eq_false_iff, decide_eq_false_iff_not] at h
  have e1 := DM.fst1
  have e2 := DM.fstL
  by_cases h1 : n < DM.fst 1
  · clear h e1 e2
    go_enter Try.func24, Try.ntmps24
    go_wp2_with (go_at_call 32; refine (first_c _ _ (by omega) (by omega)).mono ?_; rintro e w' ⟨rfl, rfl⟩)
    go_ret3
    exact ⟨rfl, rfl⟩
  · have h2 : DM.fst 275761 ≤ n := by omega
    clear h e1 e2
    go_enter Try.func24, Try.ntmps24
    go_wp2_with (go_at_call 32; refine (first_c _ _ (by omega) (by omega)).mono ?_; rintro e w' ⟨rfl, rfl⟩)
    go_ret3
    exact ⟨rfl, rfl⟩

set_option maxHeartbeats 400000 in
theorem Week_yes (n : Int) (w : World) (h : wnB n = true) :
    Calls Try.prog 24 #[.int .i64 n] w fun e w' => e = .returned (.tuple #[.int .i64 (DM.wy n), .int .i64 ((n - DM.fst (DM.wy n)) / 7 + 1), .int .i64 0]) ∧ w = w' := by
  simp only [wnB, Bool.and_eq_true, decide_eq_true_eq] at h
  obtain ⟨h1, h2⟩ := h
  have e1 := DM.fst1
  have e2 := DM.fstL
  have e3 := DM.NewL
  have a1 : ¬ n < DM.fst 1 := by omega
  have a2 : ¬ DM.fst 275761 ≤ n := by omega
  have a3 : n ≤ DM.NewY 275761 - 1 := by omega
  have hb : numB n = true := by simp [numB]; omega
  have hy1 := DM.yr_lo n (by rw [DM.New1']; omega)
  have hy2 := DM.yr_hi n 275761 (by omega)
  have hwb := DM.wy_bd n (by omega) (by omega)
  have hwn := DM.wy_near n
  have HB := Lib.hid hb
  have b1 := fst_bd2 (DM.dt n).y hy1 (by omega)
  have hwi := DM.wy_in n
  clear e1 e2 e3 hb
  by_cases c1 : DM.fst ((DM.dt n).y + 1) ≤ n
  · have e : DM.wy n = (DM.dt n).y + 1 := by unfold DM.wy; rw [if_pos c1]
    have b2 := fst_bd2 ((DM.dt n).y + 1) (by omega) (by omega)
    rw [e] at hwi hwb ⊢
    clear e hwn
    go_enter Try.func24, Try.ntmps24
    go_wp2_with (first | (go_at_call 32; refine (first_c _ _ (by omega) (by omega)).mono ?_; rintro e w' ⟨rfl, rfl⟩) | (go_at_call 30; refine (ends_c _).mono ?_; rintro e w' ⟨rfl, rfl⟩) | (go_at_call 18; refine (Date_yes _ _ HB.out).mono ?_; rintro e w' ⟨rfl, rfl⟩))
    go_ret3
    exact ⟨rfl, rfl⟩
  · by_cases c2 : n < DM.fst (DM.dt n).y
    · have e : DM.wy n = (DM.dt n).y - 1 := by unfold DM.wy; rw [if_neg c1, if_pos c2]
      have b2 := fst_bd2 ((DM.dt n).y - 1) (by omega) (by omega)
      rw [e] at hwi hwb ⊢
      clear e hwn
      go_enter Try.func24, Try.ntmps24
      go_wp2_with (first | (go_at_call 32; refine (first_c _ _ (by omega) (by omega)).mono ?_; rintro e w' ⟨rfl, rfl⟩) | (go_at_call 30; refine (ends_c _).mono ?_; rintro e w' ⟨rfl, rfl⟩) | (go_at_call 18; refine (Date_yes _ _ HB.out).mono ?_; rintro e w' ⟨rfl, rfl⟩))
      go_ret3
      exact ⟨rfl, rfl⟩
    · have e : DM.wy n = (DM.dt n).y := by unfold DM.wy; rw [if_neg c1, if_neg c2]
      rw [e] at hwi hwb ⊢
      clear e hwn
      go_enter Try.func24, Try.ntmps24
      go_wp2_with (first | (go_at_call 32; refine (first_c _ _ (by omega) (by omega)).mono ?_; rintro e w' ⟨rfl, rfl⟩) | (go_at_call 30; refine (ends_c _).mono ?_; rintro e w' ⟨rfl, rfl⟩) | (go_at_call 18; refine (Date_yes _ _ HB.out).mono ?_; rintro e w' ⟨rfl, rfl⟩))
      go_ret3
      exact ⟨rfl, rfl⟩

set_option maxHeartbeats 400000 in
theorem rWeek_no (n : Int) (w : World) (h : wnB n = false) :
    Calls Try.prog 25 #[.int .i64 n] w fun e w' => e = .returned (.tuple #[.agg #[.int .i64 0, .int .i64 0, .int .i64 0], .int .i64 2]) ∧ Grown w w' := by
  simp only [wnB, Bool.and_eq_false_iff, decide_eq_false_iff_not] at h
  have e1 := DM.fst1
  have e2 := DM.fstL
  by_cases h1 : n < DM.fst 1
  · clear h e1 e2
    go_enter Try.func25, Try.ntmps25
    go_wp2_with (go_at_call 33; refine (rfirst_c _ _ (by omega) (by omega)).mono ?_; rintro e w' ⟨rfl, rfl⟩)
    exact bodyPost_ret (v := .tuple #[.agg #[.int .i64 0, .int .i64 0, .int .i64 0], .int .i64 2]) (by simp [results, Try.results25, go_sem]) rfl ⟨rfl, (Grown.refl _).alloc _ _⟩
  · have h2 : DM.fst 275761 ≤ n := by omega
    clear h e1 e2
    go_enter Try.func25, Try.ntmps25
    go_wp2_with (go_at_call 33; refine (rfirst_c _ _ (by omega) (by omega)).mono ?_; rintro e w' ⟨rfl, rfl⟩)
    exact bodyPost_ret (v := .tuple #[.agg #[.int .i64 0, .int .i64 0, .int .i64 0], .int .i64 2]) (by simp [results, Try.results25, go_sem]) rfl ⟨rfl, (Grown.refl _).alloc _ _⟩

theorem not_wy (n k : Int) (h : k ≠ DM.wy n) : ¬ (DM.fst k ≤ n ∧ n < DM.fst (k + 1)) := fun ⟨a, b⟩ => h (DM.wy_one k n a b)
set_option maxHeartbeats 1000000 in
theorem rWeek_yes (n : Int) (w : World) (h : wnB n = true) :
    Calls Try.prog 25 #[.int .i64 n] w fun e w' => e = .returned (.tuple #[.agg #[.int .i64 (DM.wy n), .int .i64 ((n - DM.fst (DM.wy n)) / 7 + 1), .int .i64 0], .int .i64 0]) ∧ Grown w w' := by
  simp only [wnB, Bool.and_eq_true, decide_eq_true_eq] at h
  obtain ⟨h1, h2⟩ := h
  have e1 := DM.fst1
  have e2 := DM.fstL
  have e3 := DM.New1'
  have e4 := New2
  have e5 := DM.NewL
  have a1 : ¬ n < DM.fst 1 := by omega
  have a2 : ¬ DM.fst 275761 ≤ n := by omega
  have a3 : DM.NewY 1 ≤ n := by omega
  have a4 : n < DM.NewY 275762 := by omega
  have hy1 := DM.yr_lo n a3
  have hy2 := DM.yr_hi n 275761 (by omega)
  have hwb := DM.wy_bd n (by omega) (by omega)
  have hwn := DM.wy_near n
  have hwi := DM.wy_in n
  have bw := fst_bd2 (DM.wy n) hwb.1 (by omega)
  clear e1 e2 e3 e4 e5
  go_enter Try.func25, Try.ntmps25
  go_wp2_with (first | (go_at_call 33; refine (rfirst_c _ _ (by omega) (by omega)).mono ?_; rintro e w' ⟨rfl, rfl⟩) | (go_at_call 29; refine (New_c _ _ (by omega) (by omega)).mono ?_; rintro e w' ⟨rfl, rfl⟩) | (go_at_call 31; refine (Year_yes _ _ a3 a4).mono ?_; rintro e w' ⟨rfl, rfl⟩))
  go_loop [5] (fun k => ∃ i : Int, (DM.dt n).y - 1 ≤ i ∧ i ≤ DM.wy n ∧ k = .int .i64 i) (fun k => (DM.wy n - intOf k).toNat)
  case atStart => exact ⟨(DM.dt n).y - 1, by omega, by omega, rfl⟩
  case round =>
    obtain ⟨i, hi1, hi2, rfl⟩ := hrel
    by_cases hlt : i = DM.wy n
    · subst hlt
      go_wp2_with (go_at_call 33; refine (rfirst_c _ _ (by omega) (by omega)).mono ?_; rintro e w' ⟨rfl, rfl⟩)
      exact bodyPost_ret (v := .tuple #[.agg #[.int .i64 (DM.wy n), .int .i64 ((n - DM.fst (DM.wy n)) / 7 + 1), .int .i64 0], .int .i64 0]) (by simp [results, Try.results25, go_sem]) rfl ⟨rfl, (Grown.refl _).alloc _ _⟩
    · have hi3 : i < DM.wy n := by omega
      have hn := not_wy n i hlt
      clear hlt
      by_cases hp : 0 < i
      · have hq : n < DM.fst i ∨ DM.fst (i + 1) ≤ n := by omega
        rcases hq with hq | hq
        · clear hn
          go_wp2_with (go_at_call 33; refine (rfirst_c _ _ (by omega) (by omega)).mono ?_; rintro e w' ⟨rfl, rfl⟩)
          go_round
          case rel => exact ⟨i + 1, by omega, by omega, rfl⟩
          case measure => simp [intOf]; omega
        · have hq2 : DM.fst i ≤ n := by have := DM.fst_mono i (i + 1) (by omega); omega
          clear hn
          go_wp2_with (go_at_call 33; refine (rfirst_c _ _ (by omega) (by omega)).mono ?_; rintro e w' ⟨rfl, rfl⟩)
          go_round
          case rel => exact ⟨i + 1, by omega, by omega, rfl⟩
          case measure => simp [intOf]; omega
      · clear hn
        go_wp2_with fail
        go_round
        case rel => exact ⟨i + 1, by omega, by omega, rfl⟩
        case measure => simp [intOf]; omega
end Go.Proofs.Yteehokamajkklaa

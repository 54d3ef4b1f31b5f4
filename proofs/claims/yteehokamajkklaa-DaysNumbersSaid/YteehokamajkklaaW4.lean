/- Contracts of the weeks, of both texts. -/
import Derived.Test.YteehokamajkklaaW3
namespace Go.Proofs.Yteehokamajkklaa
open Go.RowKit

theorem first_c (y : Int) (w : World) (h0 : 1 ≤ y) (h1 : y ≤ 1000000) :
    Calls Try.prog 32 #[.int .i64 y] w fun e w' => e = .returned (.int .i64 (DM.fst y)) ∧ w = w' := by
  have hN := NewY_bd y h0 h1
  have hc : DM.NewY y + DM.cum y 1 + 4 - 1 = DM.NewY y + 3 := by simp [DM.cum]; omega
  have hw : 1 ≤ DM.wd (DM.NewY y + 3) ∧ DM.wd (DM.NewY y + 3) ≤ 7 := by unfold DM.wd; omega
  go_enter Try.func32, Try.ntmps32
  go_wp2_with (first | (go_at_call 28; refine (civil_c _ _ _ _ (by omega) (by omega) (by omega) (by omega) (by omega) (by omega)).mono ?_; rintro e w' ⟨rfl, rfl⟩) | (go_at_call 9; refine (Weekday_c _ _).mono ?_; rintro e w' ⟨rfl, rfl⟩))
  go_ret
  exact ⟨ret_int (by unfold DM.fst DM.wd; omega), rfl⟩

theorem rfirst_c (y : Int) (w : World) (h0 : 1 ≤ y) (h1 : y ≤ 1000000) :
    Calls Try.prog 33 #[.int .i64 y] w fun e w' => e = .returned (.int .i64 (DM.fst y)) ∧ w = w' := by
  have hN := NewY_bd y h0 h1
  have hf := DM.fst_bd y
  go_enter Try.func33, Try.ntmps33
  go_wp2_with (go_at_call 29; refine (New_c _ _ h0 h1).mono ?_; rintro e w' ⟨rfl, rfl⟩)
  go_loop [3] (fun n => ∃ i : Int, DM.fst y ≤ i ∧ i ≤ DM.fst y + 6 ∧ n = .int .i64 i) (fun n => (intOf n - DM.fst y).toNat)
  case atStart => exact ⟨DM.NewY y + 3, by unfold DM.fst; omega, by unfold DM.fst; omega, rfl⟩
  case round =>
    obtain ⟨i, hi1, hi2, rfl⟩ := hrel
    have hm := DM.fst_mod y
    by_cases hlt : i = DM.fst y
    · have hw : (DM.wd i != 1) = false := by rw [hlt]; unfold DM.wd; simp; omega
      have HL := Lib.hid hlt
      clear hlt hm
      go_wp2_with (go_at_call 10; refine (rWeekday_c _ _).mono ?_; rintro e w' ⟨rfl, rfl⟩)
      go_ret
      exact ⟨ret_int HL.out, rfl⟩
    · have hw : (DM.wd i != 1) = true := by unfold DM.wd; simp; omega
      have hi3 : DM.fst y < i := by omega
      clear hlt hm
      go_wp2_with (go_at_call 10; refine (rWeekday_c _ _).mono ?_; rintro e w' ⟨rfl, rfl⟩)
      go_round
      case rel => exact ⟨i - 1, by omega, by omega, rfl⟩
      case measure => simp [intOf]; omega

/-- how many weeks a year has, that may be none -/
def wksG (y : Int) : Int := if 1 ≤ y ∧ y ≤ 275760 then DM.wks y else 0
theorem fst_bd2 (y : Int) (h0 : 1 ≤ y) (h1 : y ≤ 1000000) : -719165 ≤ DM.fst y ∧ DM.fst y ≤ 400000003 := by
  have := NewY_bd y h0 h1
  have := DM.fst_bd y
  omega
theorem wks_bd (y : Int) : 50 ≤ DM.wks y ∧ DM.wks y ≤ 53 := by
  have := DM.fst_succ y
  have := DM.wks_eq y
  have := DM.fst_bd y
  have := DM.fst_bd (y + 1)
  have := DM.NewY_succ y
  have := DM.L01 y
  omega
theorem Weeks_c (y : Int) (w : World) :
    Calls Try.prog 22 #[.int .i64 y] w fun e w' => e = .returned (.int .i64 (wksG y)) ∧ w = w' := by
  by_cases h : 1 ≤ y ∧ y ≤ 275760
  · obtain ⟨h0, h1⟩ := h
    have hs := DM.fst_succ y
    have b1 := fst_bd2 y h0 (by omega)
    have b2 := fst_bd2 (y + 1) (by omega) (by omega)
    go_enter Try.func22, Try.ntmps22
    go_wp2_with (go_at_call 32; refine (first_c _ _ (by omega) (by omega)).mono ?_; rintro e w' ⟨rfl, rfl⟩)
    go_ret
    exact ⟨ret_int (by rw [wksG, if_pos ⟨h0, h1⟩, DM.wks]), rfl⟩
  · have hz : wksG y = 0 := by rw [wksG, if_neg h]
    rw [hz]
    clear hz
    by_cases c1 : y < 1
    · go_enter Try.func22, Try.ntmps22
      go_wp2_with fail
      go_ret
      exact ⟨rfl, rfl⟩
    · have c2 : 275760 < y := by omega
      go_enter Try.func22, Try.ntmps22
      go_wp2_with fail
      go_ret
      exact ⟨rfl, rfl⟩

theorem rWeeks_c (y : Int) (w : World) :
    Calls Try.prog 23 #[.int .i64 y] w fun e w' => e = .returned (.int .i64 (wksG y)) ∧ w = w' := by
  by_cases h : 1 ≤ y ∧ y ≤ 275760
  · obtain ⟨h0, h1⟩ := h
    have hs := DM.fst_succ y
    have b1 := fst_bd2 y h0 (by omega)
    have b2 := fst_bd2 (y + 1) (by omega) (by omega)
    have hb := wks_bd y
    go_enter Try.func23, Try.ntmps23
    go_wp2_with fail
    go_loop [3] (fun n => ∃ i : Int, 0 ≤ i ∧ i ≤ DM.wks y ∧ n = .int .i64 i) (fun n => (DM.wks y - intOf n).toNat)
    case atStart => exact ⟨0, by omega, by omega, rfl⟩
    case round =>
      obtain ⟨i, hi1, hi2, rfl⟩ := hrel
      have hq := DM.wks_eq y
      by_cases hlt : i < DM.wks y
      · have h5 : DM.fst y + 7 * i < DM.fst (y + 1) := by omega
        clear hq
        go_wp2_with (go_at_call 33; refine (rfirst_c _ _ (by omega) (by omega)).mono ?_; rintro e w' ⟨rfl, rfl⟩)
        go_round
        case rel => exact ⟨i + 1, by omega, by omega, rfl⟩
        case measure => simp [intOf]; omega
      · have h5 : ¬ DM.fst y + 7 * i < DM.fst (y + 1) := by omega
        have hi := Lib.hid (show i = DM.wks y by omega)
        clear hq
        go_wp2_with (go_at_call 33; refine (rfirst_c _ _ (by omega) (by omega)).mono ?_; rintro e w' ⟨rfl, rfl⟩)
        go_ret
        exact ⟨ret_int (by rw [wksG, if_pos ⟨h0, h1⟩]; exact hi.out), rfl⟩
  · have hz : wksG y = 0 := by rw [wksG, if_neg h]
    rw [hz]
    clear hz
    by_cases c1 : y < 1
    · go_enter Try.func23, Try.ntmps23
      go_wp2_with fail
      go_ret
      exact ⟨rfl, rfl⟩
    · have c2 : 275760 < y := by omega
      go_enter Try.func23, Try.ntmps23
      go_wp2_with fail
      go_ret
      exact ⟨rfl, rfl⟩
end Go.Proofs.Yteehokamajkklaa

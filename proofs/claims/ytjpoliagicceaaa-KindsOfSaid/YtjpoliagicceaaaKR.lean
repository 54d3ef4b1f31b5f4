/- Contracts of the reference's questions. -/
import Derived.Test.YtjpoliagicceaaaKQ
namespace Go.Proofs.Ytjpoliagicceaaa
open Go.RowKit
theorem rIs_1 (k : Int) (w : World) : Calls Try.prog 16 #[.int .i64 1, .int .i64 k] w fun e w' => e = .returned (.bool (lisB k)) ∧ w = w' := by
  go_enter Try.func16, Try.ntmps16
  go_wp2_with fail
  all_goals
    go_ret
    refine ⟨ret_bool (bool_iff ?_), rfl⟩
    rw [lisB_iff]
    simp_all
    try omega
theorem rIs_2 (k : Int) (w : World) : Calls Try.prog 16 #[.int .i64 2, .int .i64 k] w fun e w' => e = .returned (.bool (subB k)) ∧ w = w' := by
  go_enter Try.func16, Try.ntmps16
  go_wp2_with fail
  all_goals
    go_ret
    refine ⟨ret_bool (bool_iff ?_), rfl⟩
    rw [subB_iff]
    simp_all
    try omega
theorem rIs_3 (k : Int) (w : World) : Calls Try.prog 16 #[.int .i64 3, .int .i64 k] w fun e w' => e = .returned (.bool (resB k)) ∧ w = w' := by
  go_enter Try.func16, Try.ntmps16
  go_wp2_with fail
  all_goals
    go_ret
    refine ⟨ret_bool (bool_iff ?_), rfl⟩
    rw [resB_iff]
    simp_all
    try omega
theorem rIs_4 (k : Int) (w : World) : Calls Try.prog 16 #[.int .i64 4, .int .i64 k] w fun e w' => e = .returned (.bool (labB k)) ∧ w = w' := by
  go_enter Try.func16, Try.ntmps16
  go_wp2_with fail
  all_goals
    go_ret
    refine ⟨ret_bool (bool_iff ?_), rfl⟩
    rw [labB_iff]
    simp_all
    try omega
theorem rIs_5 (k : Int) (w : World) : Calls Try.prog 16 #[.int .i64 5, .int .i64 k] w fun e w' => e = .returned (.bool (firB k)) ∧ w = w' := by
  go_enter Try.func16, Try.ntmps16
  go_wp2_with fail
  all_goals
    go_ret
    refine ⟨ret_bool (bool_iff ?_), rfl⟩
    rw [firB_iff]
    simp_all
    try omega
theorem rIs_6 (k : Int) (w : World) : Calls Try.prog 16 #[.int .i64 6, .int .i64 k] w fun e w' => e = .returned (.bool (blkB k)) ∧ w = w' := by
  go_enter Try.func16, Try.ntmps16
  go_wp2_with fail
  all_goals
    go_ret
    refine ⟨ret_bool (bool_iff ?_), rfl⟩
    rw [blkB_iff]
    simp_all
    try omega
theorem rIs_7 (k : Int) (w : World) : Calls Try.prog 16 #[.int .i64 7, .int .i64 k] w fun e w' => e = .returned (.bool (paiB k)) ∧ w = w' := by
  go_enter Try.func16, Try.ntmps16
  go_wp2_with fail
  all_goals
    go_ret
    refine ⟨ret_bool (bool_iff ?_), rfl⟩
    rw [paiB_iff]
    simp_all
    try omega
end Go.Proofs.Ytjpoliagicceaaa

/- Contracts of the questions on a kind, of both texts. -/
import Derived.Test.YtjpoliagicceaaaProg
import Derived.Test.YtjpoliagicceaaaHeap
namespace Go.Proofs.Ytjpoliagicceaaa
open Go.RowKit
/-- how a kind has its value -/
def modeOf (k : Int) : Int := if 2 ≤ k ∧ k ≤ 15 ∨ k = 24 ∨ k = 28 then 1 else if k = 16 ∨ k = 17 then 3 else if k = 18 then 4 else if 1 ≤ k ∧ k ≤ 22 then 2 else 0
/-- does an attribute apply to a kind? -/
def appB (k : Int) (a : List UInt8) : Bool :=
  if a == [114, 101, 113, 117, 105, 114, 101, 100] then decide (2 ≤ k ∧ k ≤ 13 ∨ 16 ≤ k ∧ k ≤ 18 ∨ k = 23 ∨ k = 24)
  else if a == [114, 101, 97, 100, 111, 110, 108, 121] then decide (2 ≤ k ∧ k ≤ 13 ∨ k = 24)
  else if a == [109, 105, 110, 108, 101, 110, 103, 116, 104] then decide (2 ≤ k ∧ k ≤ 7 ∨ k = 24)
  else if a == [109, 97, 120, 108, 101, 110, 103, 116, 104] then decide (2 ≤ k ∧ k ≤ 7 ∨ k = 24)
  else if a == [112, 97, 116, 116, 101, 114, 110] then decide (2 ≤ k ∧ k ≤ 7)
  else if a == [109, 105, 110] then decide (8 ≤ k ∧ k ≤ 14)
  else if a == [109, 97, 120] then decide (8 ≤ k ∧ k ≤ 14)
  else if a == [115, 116, 101, 112] then decide (8 ≤ k ∧ k ≤ 14)
  else if a == [109, 117, 108, 116, 105, 112, 108, 101] then decide (k = 6 ∨ k = 18 ∨ k = 23)
  else if a == [99, 104, 101, 99, 107, 101, 100] then decide (k = 16 ∨ k = 17)
  else false
def inB (k : Int) : Bool := decide (1 ≤ k ∧ k ≤ 22)
def butB (k : Int) : Bool := decide (25 ≤ k ∧ k ≤ 27)
def blkB (k : Int) : Bool := decide (2 ≤ k ∧ k ≤ 13)
theorem inB_iff {k : Int} : inB k = true ↔ 1 ≤ k ∧ k ≤ 22 := by simp [inB]
theorem butB_iff {k : Int} : butB k = true ↔ 25 ≤ k ∧ k ≤ 27 := by simp [butB]
theorem blkB_iff {k : Int} : blkB k = true ↔ 2 ≤ k ∧ k ≤ 13 := by simp [blkB]
theorem inB_not {k : Int} : inB k = false ↔ ¬ (1 ≤ k ∧ k ≤ 22) := by rw [← inB_iff]; simp
theorem butB_not {k : Int} : butB k = false ↔ ¬ (25 ≤ k ∧ k ≤ 27) := by rw [← butB_iff]; simp
theorem blkB_not {k : Int} : blkB k = false ↔ ¬ (2 ≤ k ∧ k ≤ 13) := by rw [← blkB_iff]; simp
theorem bool_iff {a b : Bool} (h : a = true ↔ b = true) : a = b := by cases a <;> cases b <;> simp_all
theorem input_c (k : Int) (w : World) : Calls Try.prog 30 #[.int .i64 k] w fun e w' => e = .returned (.bool (inB k)) ∧ w = w' := by
  go_enter Try.func30, Try.ntmps30
  go_wp2_with fail
  all_goals
    go_ret
    refine ⟨ret_bool (bool_iff ?_), rfl⟩
    rw [inB_iff]
    simp_all
    try omega
theorem button_c (k : Int) (w : World) : Calls Try.prog 31 #[.int .i64 k] w fun e w' => e = .returned (.bool (butB k)) ∧ w = w' := by
  go_enter Try.func31, Try.ntmps31
  go_wp2_with fail
  all_goals
    go_ret
    refine ⟨ret_bool (bool_iff ?_), rfl⟩
    rw [butB_iff]
    simp_all
    try omega
theorem Blocks_c (k : Int) (w : World) : Calls Try.prog 21 #[.int .i64 k] w fun e w' => e = .returned (.bool (blkB k)) ∧ w = w' := by
  go_enter Try.func21, Try.ntmps21
  go_wp2_with fail
  all_goals
    go_ret
    refine ⟨ret_bool (bool_iff ?_), rfl⟩
    rw [blkB_iff]
    simp_all
    try omega
theorem Mode_c (k : Int) (w : World) : Calls Try.prog 13 #[.int .i64 k] w fun e w' => e = .returned (.int .i64 (modeOf k)) ∧ w = w' := by
  go_enter Try.func13, Try.ntmps13
  go_wp2_with (go_at_call 30; refine (input_c _ _).mono ?_; rintro e w' ⟨rfl, rfl⟩)
  all_goals
    go_ret
    refine ⟨ret_int ?_, rfl⟩
    try (have hi := inB_iff.1 ‹inB k = true›)
    try (have hi := inB_not.1 ‹inB k = false›)
    unfold modeOf
    simp_all
    try omega
set_option maxHeartbeats 400000 in
theorem rMode_c (k : Int) (w : World) : Calls Try.prog 14 #[.int .i64 k] w fun e w' => e = .returned (.int .i64 (modeOf k)) ∧ w = w' := by
  go_enter Try.func14, Try.ntmps14
  go_wp2_with fail
  all_goals
    go_ret
    refine ⟨ret_int ?_, rfl⟩
    unfold modeOf
    simp_all
    try omega
def subB (k : Int) : Bool := decide (1 ≤ k ∧ k ≤ 27)
theorem subB_iff {k : Int} : subB k = true ↔ (1 ≤ k ∧ k ≤ 27) := by simp [subB]
theorem subB_not {k : Int} : subB k = false ↔ ¬ (1 ≤ k ∧ k ≤ 27) := by rw [← subB_iff]; simp
def resB (k : Int) : Bool := decide (1 ≤ k ∧ k ≤ 24 ∨ k = 28)
theorem resB_iff {k : Int} : resB k = true ↔ (1 ≤ k ∧ k ≤ 24 ∨ k = 28) := by simp [resB]
theorem resB_not {k : Int} : resB k = false ↔ ¬ (1 ≤ k ∧ k ≤ 24 ∨ k = 28) := by rw [← resB_iff]; simp
def labB (k : Int) : Bool := decide (2 ≤ k ∧ k ≤ 28)
theorem labB_iff {k : Int} : labB k = true ↔ (2 ≤ k ∧ k ≤ 28) := by simp [labB]
theorem labB_not {k : Int} : labB k = false ↔ ¬ (2 ≤ k ∧ k ≤ 28) := by rw [← labB_iff]; simp
def lisB (k : Int) : Bool := decide (1 ≤ k ∧ k ≤ 19 ∨ 21 ≤ k ∧ k ≤ 29)
theorem lisB_iff {k : Int} : lisB k = true ↔ (1 ≤ k ∧ k ≤ 19 ∨ 21 ≤ k ∧ k ≤ 29) := by simp [lisB]
theorem lisB_not {k : Int} : lisB k = false ↔ ¬ (1 ≤ k ∧ k ≤ 19 ∨ 21 ≤ k ∧ k ≤ 29) := by rw [← lisB_iff]; simp
def firB (k : Int) : Bool := decide (k = 19 ∨ k = 20 ∨ k = 25)
theorem firB_iff {k : Int} : firB k = true ↔ (k = 19 ∨ k = 20 ∨ k = 25) := by simp [firB]
theorem firB_not {k : Int} : firB k = false ↔ ¬ (k = 19 ∨ k = 20 ∨ k = 25) := by rw [← firB_iff]; simp
def paiB (k : Int) : Bool := decide (k = 19 ∨ k = 25)
theorem paiB_iff {k : Int} : paiB k = true ↔ (k = 19 ∨ k = 25) := by simp [paiB]
theorem paiB_not {k : Int} : paiB k = false ↔ ¬ (k = 19 ∨ k = 25) := by rw [← paiB_iff]; simp
theorem Submits_c (k : Int) (w : World) : Calls Try.prog 17 #[.int .i64 k] w fun e w' => e = .returned (.bool (subB k)) ∧ w = w' := by
  cases hb_inB : inB k
  · have hi_inB := inB_not.1 hb_inB
    cases hb_butB : butB k
    · have hi_butB := butB_not.1 hb_butB
      go_enter Try.func17, Try.ntmps17
      go_wp2_with (first | (go_at_call 30; refine (input_c _ _).mono ?_; rintro e w' ⟨rfl, rfl⟩) | (go_at_call 31; refine (button_c _ _).mono ?_; rintro e w' ⟨rfl, rfl⟩))
      all_goals
        go_ret
        refine ⟨ret_bool (bool_iff ?_), rfl⟩
        rw [subB_iff]
        simp_all
        try omega
    · have hi_butB := butB_iff.1 hb_butB
      go_enter Try.func17, Try.ntmps17
      go_wp2_with (first | (go_at_call 30; refine (input_c _ _).mono ?_; rintro e w' ⟨rfl, rfl⟩) | (go_at_call 31; refine (button_c _ _).mono ?_; rintro e w' ⟨rfl, rfl⟩))
      all_goals
        go_ret
        refine ⟨ret_bool (bool_iff ?_), rfl⟩
        rw [subB_iff]
        simp_all
        try omega
  · have hi_inB := inB_iff.1 hb_inB
    cases hb_butB : butB k
    · have hi_butB := butB_not.1 hb_butB
      go_enter Try.func17, Try.ntmps17
      go_wp2_with (first | (go_at_call 30; refine (input_c _ _).mono ?_; rintro e w' ⟨rfl, rfl⟩) | (go_at_call 31; refine (button_c _ _).mono ?_; rintro e w' ⟨rfl, rfl⟩))
      all_goals
        go_ret
        refine ⟨ret_bool (bool_iff ?_), rfl⟩
        rw [subB_iff]
        simp_all
        try omega
    · have hi_butB := butB_iff.1 hb_butB
      go_enter Try.func17, Try.ntmps17
      go_wp2_with (first | (go_at_call 30; refine (input_c _ _).mono ?_; rintro e w' ⟨rfl, rfl⟩) | (go_at_call 31; refine (button_c _ _).mono ?_; rintro e w' ⟨rfl, rfl⟩))
      all_goals
        go_ret
        refine ⟨ret_bool (bool_iff ?_), rfl⟩
        rw [subB_iff]
        simp_all
        try omega
theorem Resets_c (k : Int) (w : World) : Calls Try.prog 18 #[.int .i64 k] w fun e w' => e = .returned (.bool (resB k)) ∧ w = w' := by
  cases hb_inB : inB k
  · have hi_inB := inB_not.1 hb_inB
    go_enter Try.func18, Try.ntmps18
    go_wp2_with (first | (go_at_call 30; refine (input_c _ _).mono ?_; rintro e w' ⟨rfl, rfl⟩))
    all_goals
      go_ret
      refine ⟨ret_bool (bool_iff ?_), rfl⟩
      rw [resB_iff]
      simp_all
      try omega
  · have hi_inB := inB_iff.1 hb_inB
    go_enter Try.func18, Try.ntmps18
    go_wp2_with (first | (go_at_call 30; refine (input_c _ _).mono ?_; rintro e w' ⟨rfl, rfl⟩))
    all_goals
      go_ret
      refine ⟨ret_bool (bool_iff ?_), rfl⟩
      rw [resB_iff]
      simp_all
      try omega
theorem Labels_c (k : Int) (w : World) : Calls Try.prog 19 #[.int .i64 k] w fun e w' => e = .returned (.bool (labB k)) ∧ w = w' := by
  cases hb_subB : subB k
  · have hi_subB := subB_not.1 hb_subB
    go_enter Try.func19, Try.ntmps19
    go_wp2_with (first | (go_at_call 17; refine (Submits_c _ _).mono ?_; rintro e w' ⟨rfl, rfl⟩))
    all_goals
      go_ret
      refine ⟨ret_bool (bool_iff ?_), rfl⟩
      rw [labB_iff]
      simp_all
      try omega
  · have hi_subB := subB_iff.1 hb_subB
    go_enter Try.func19, Try.ntmps19
    go_wp2_with (first | (go_at_call 17; refine (Submits_c _ _).mono ?_; rintro e w' ⟨rfl, rfl⟩))
    all_goals
      go_ret
      refine ⟨ret_bool (bool_iff ?_), rfl⟩
      rw [labB_iff]
      simp_all
      try omega
theorem Listed_c (k : Int) (w : World) : Calls Try.prog 15 #[.int .i64 k] w fun e w' => e = .returned (.bool (lisB k)) ∧ w = w' := by
  cases hb_subB : subB k
  · have hi_subB := subB_not.1 hb_subB
    go_enter Try.func15, Try.ntmps15
    go_wp2_with (first | (go_at_call 17; refine (Submits_c _ _).mono ?_; rintro e w' ⟨rfl, rfl⟩))
    all_goals
      go_ret
      refine ⟨ret_bool (bool_iff ?_), rfl⟩
      rw [lisB_iff]
      simp_all
      try omega
  · have hi_subB := subB_iff.1 hb_subB
    go_enter Try.func15, Try.ntmps15
    go_wp2_with (first | (go_at_call 17; refine (Submits_c _ _).mono ?_; rintro e w' ⟨rfl, rfl⟩))
    all_goals
      go_ret
      refine ⟨ret_bool (bool_iff ?_), rfl⟩
      rw [lisB_iff]
      simp_all
      try omega
theorem Fires_c (k : Int) (w : World) : Calls Try.prog 20 #[.int .i64 k] w fun e w' => e = .returned (.bool (firB k)) ∧ w = w' := by
  go_enter Try.func20, Try.ntmps20
  go_wp2_with fail
  all_goals
    go_ret
    refine ⟨ret_bool (bool_iff ?_), rfl⟩
    rw [firB_iff]
    simp_all
    try omega
theorem Pairs_c (k : Int) (w : World) : Calls Try.prog 22 #[.int .i64 k] w fun e w' => e = .returned (.bool (paiB k)) ∧ w = w' := by
  go_enter Try.func22, Try.ntmps22
  go_wp2_with fail
  all_goals
    go_ret
    refine ⟨ret_bool (bool_iff ?_), rfl⟩
    rw [paiB_iff]
    simp_all
    try omega
end Go.Proofs.Ytjpoliagicceaaa

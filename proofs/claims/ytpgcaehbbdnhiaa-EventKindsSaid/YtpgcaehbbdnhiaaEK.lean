/- EventKinds: contracts of the four functions and the walk of the law: it returns true for every string. No condition. -/
import Derived.Test.YtpgcaehbbdnhiaaProg
import Derived.WalkKit
import Derived.Lib.Hide
namespace Go.Proofs.Ytpgcaehbbdnhiaa
open Go.RowKit
theorem retb {a b : Bool} (h : a = b) : Ending.returned (.bool a) = .returned (.bool b) := by rw [h]
def bubB (l : List UInt8) : Bool := l == [99, 108, 105, 99, 107] || l == [105, 110, 112, 117, 116] || l == [99, 104, 97, 110, 103, 101] || l == [115, 117, 98, 109, 105, 116] || l == [102, 111, 114, 109, 100, 97, 116, 97] || l == [114, 101, 115, 101, 116]
def canB (l : List UInt8) : Bool := l == [99, 108, 105, 99, 107] || l == [105, 110, 118, 97, 108, 105, 100] || l == [115, 117, 98, 109, 105, 116] || l == [114, 101, 115, 101, 116]
theorem Bubbles_c (s : ByteArray) (w : World) :
    Calls Try.prog 15 #[.string s] w fun e w' => e = .returned (.bool (bubB s.toList)) ∧ w = w' := by
  go_enter Try.func15, Try.ntmps15
  go_wp2
  all_goals
    go_ret
    refine ⟨retb ?_, rfl⟩
    unfold bubB
    simp_all
theorem Cancels_c (s : ByteArray) (w : World) :
    Calls Try.prog 16 #[.string s] w fun e w' => e = .returned (.bool (canB s.toList)) ∧ w = w' := by
  go_enter Try.func16, Try.ntmps16
  go_wp2
  all_goals
    go_ret
    refine ⟨retb ?_, rfl⟩
    unfold canB
    simp_all
theorem rBubbles_c (s : ByteArray) (w : World) :
    Calls Try.prog 17 #[.string s] w fun e w' => e = .returned (.bool (bubB s.toList)) ∧ w = w' := by
  go_enter Try.func17, Try.ntmps17
  go_wp2
  all_goals
    go_ret
    refine ⟨retb ?_, rfl⟩
    unfold bubB
    simp_all
theorem rCancels_c (s : ByteArray) (w : World) :
    Calls Try.prog 18 #[.string s] w fun e w' => e = .returned (.bool (canB s.toList)) ∧ w = w' := by
  go_enter Try.func18, Try.ntmps18
  go_wp2
  all_goals
    go_ret
    refine ⟨retb ?_, rfl⟩
    unfold canB
    simp_all
theorem EventKinds_w (s : ByteArray) (w : World) (_hs : s.size ≤ reachBytes) :
    Calls Try.prog 3 #[.string s] w fun e w' => e = .returned (.bool true) ∧ Below w.heap.size w w' := by
  have hb : bubB [99, 108, 105, 99, 107] = true := by decide
  have hc : canB [105, 110, 112, 117, 116] = false := by decide
  go_enter Try.func3, Try.ntmps3
  go_wp2_with (first | (go_at_call 15; refine (Bubbles_c _ _).mono ?_; rintro e w' ⟨rfl, rfl⟩) | (go_at_call 16; refine (Cancels_c _ _).mono ?_; rintro e w' ⟨rfl, rfl⟩) | (go_at_call 17; refine (rBubbles_c _ _).mono ?_; rintro e w' ⟨rfl, rfl⟩) | (go_at_call 18; refine (rCancels_c _ _).mono ?_; rintro e w' ⟨rfl, rfl⟩))
  go_ret
  exact ⟨rfl, Below.refl _ _⟩
end Go.Proofs.Ytpgcaehbbdnhiaa

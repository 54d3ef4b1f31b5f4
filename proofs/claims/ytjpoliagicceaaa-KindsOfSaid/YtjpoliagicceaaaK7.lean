/- The walks of the five laws of kinds. -/
import Derived.Test.YtjpoliagicceaaaK6
import Derived.Test.YtjpoliagicceaaaKR
import Derived.Test.YtjpoliagicceaaaKS
namespace Go.Proofs.Ytjpoliagicceaaa
open Go.RowKit
def wakeA : GAttr := ⟨⟨#[116, 121, 112, 101]⟩, ⟨#[82, 97, 68, 105, 79]⟩⟩
theorem wake_kind : kindOf [105, 110, 112, 117, 116] (lowL (attrV [wakeA] [116, 121, 112, 101])) = 17 := by
  have e : attrV [wakeA] [116, 121, 112, 101] = [82, 97, 68, 105, 79] := by
    unfold attrV wakeA
    simp [ba_list, List.findIdx?_cons]
  rw [e]
  unfold kindOf kInput place tyL
  simp [ba_list, List.findIdx?_cons, lowL, low]
theorem wake_len : ∀ a ∈ [wakeA], a.val.size ≤ reachBytes := by
  intro a ha
  simp only [List.mem_singleton] at ha
  subst ha
  decide
theorem wakes_c (w : World) : Calls Try.prog 8 #[] w fun e w' => e = .returned (.bool true) ∧ Below w.heap.size w w' := by
  have hw : AttrsAt (w.alloc (Obj.cells #[.string ⟨#[116, 121, 112, 101]⟩, .string ⟨#[82, 97, 68, 105, 79]⟩] 35)) (w.heap.size + 1) (some ⟨w.heap.size, 0, none⟩) [wakeA] := by
    intro _
    refine ⟨w.heap.size, 0, rfl, by omega, fun i a hi => ?_⟩
    match i, hi with
    | 0, hi =>
      obtain rfl : wakeA = a := by simpa using hi
      constructor <;> go_simp <;> rfl
  have hk := wake_kind
  have hap : appB 8 [109, 105, 110] = true := rfl
  go_enter Try.func8, Try.ntmps8
  go_wp2_with fail
  refine (Of_c ⟨#[105, 110, 112, 117, 116]⟩ ⟨#[]⟩ (some ⟨w.heap.size, 0, none⟩) 1 [wakeA] 0 none 0 0 _ (w.heap.size + 1) (by simp) (by simp) wake_len hw).mono ?_
  rintro e w1 ⟨rfl, hb1⟩
  rw [show (⟨#[105, 110, 112, 117, 116]⟩ : ByteArray).toList = [105, 110, 112, 117, 116] from ba_list _, hk]
  have hb : Below w.heap.size w w1 := ((Below.refl w.heap.size w).alloc (Nat.le_refl _) _).trans (hb1.mono (by simp))
  clear hb1 hw hk
  go_wp2_with fail
  refine (Applies_c 8 ⟨#[109, 105, 110]⟩ _).mono ?_
  rintro e w2 ⟨rfl, rfl⟩
  rw [show (⟨#[109, 105, 110]⟩ : ByteArray).toList = [109, 105, 110] from ba_list _, hap]
  go_wp2_with fail
  go_ret
  exact ⟨rfl, hb⟩

theorem KindsApplies_w (k : Int) (s : ByteArray) (w : World) (_wk : (Lit.int .i64 k).wf = true) (_hs : s.size ≤ reachBytes) :
    Calls Try.prog 4 #[.int .i64 k, .string s] w fun e w' => e = .returned (.bool true) ∧ Below w.heap.size w w' := by
  go_enter Try.func4, Try.ntmps4
  go_wp2_with (first | (go_at_call 8; refine (wakes_c _).mono ?_; rintro e w1 ⟨rfl, hb⟩) | (go_at_call 11; refine (Applies_c _ _ _).mono ?_; rintro e w2 ⟨rfl, rfl⟩) | (go_at_call 12; refine (rApplies_c _ _ _).mono ?_; rintro e w2 ⟨rfl, rfl⟩))
  go_ret
  exact ⟨rfl, hb⟩
theorem KindsModes_w (k : Int) (w : World) (_wk : (Lit.int .i64 k).wf = true) :
    Calls Try.prog 5 #[.int .i64 k] w fun e w' => e = .returned (.bool true) ∧ Below w.heap.size w w' := by
  have hm : modeOf 18 = 4 := by decide
  go_enter Try.func5, Try.ntmps5
  go_wp2_with (first | (go_at_call 8; refine (wakes_c _).mono ?_; rintro e w1 ⟨rfl, hb⟩) | (go_at_call 13; refine (Mode_c _ _).mono ?_; rintro e w2 ⟨rfl, rfl⟩) | (go_at_call 14; refine (rMode_c _ _).mono ?_; rintro e w2 ⟨rfl, rfl⟩))
  go_ret
  exact ⟨rfl, hb⟩
theorem KindsAsks_w (k : Int) (w : World) (_wk : (Lit.int .i64 k).wf = true) :
    Calls Try.prog 6 #[.int .i64 k] w fun e w' => e = .returned (.bool true) ∧ Below w.heap.size w w' := by
  go_enter Try.func6, Try.ntmps6
  go_wp2_with (first | (go_at_call 8; refine (wakes_c _).mono ?_; rintro e w1 ⟨rfl, hb⟩) | (go_at_call 15; refine (Listed_c _ _).mono ?_; rintro e w2 ⟨rfl, rfl⟩) | (go_at_call 17; refine (Submits_c _ _).mono ?_; rintro e w2 ⟨rfl, rfl⟩) | (go_at_call 18; refine (Resets_c _ _).mono ?_; rintro e w2 ⟨rfl, rfl⟩) | (go_at_call 19; refine (Labels_c _ _).mono ?_; rintro e w2 ⟨rfl, rfl⟩) | (go_at_call 20; refine (Fires_c _ _).mono ?_; rintro e w2 ⟨rfl, rfl⟩) | (go_at_call 21; refine (Blocks_c _ _).mono ?_; rintro e w2 ⟨rfl, rfl⟩) | (go_at_call 22; refine (Pairs_c _ _).mono ?_; rintro e w2 ⟨rfl, rfl⟩) | (go_at_call 16; (with_reducible refine (rIs_1 _ _).mono ?_); rintro e w2 ⟨rfl, rfl⟩) | (go_at_call 16; (with_reducible refine (rIs_2 _ _).mono ?_); rintro e w2 ⟨rfl, rfl⟩) | (go_at_call 16; (with_reducible refine (rIs_3 _ _).mono ?_); rintro e w2 ⟨rfl, rfl⟩) | (go_at_call 16; (with_reducible refine (rIs_4 _ _).mono ?_); rintro e w2 ⟨rfl, rfl⟩) | (go_at_call 16; (with_reducible refine (rIs_5 _ _).mono ?_); rintro e w2 ⟨rfl, rfl⟩) | (go_at_call 16; (with_reducible refine (rIs_6 _ _).mono ?_); rintro e w2 ⟨rfl, rfl⟩) | (go_at_call 16; (with_reducible refine (rIs_7 _ _).mono ?_); rintro e w2 ⟨rfl, rfl⟩) )
  go_ret
  exact ⟨rfl, hb⟩
end Go.Proofs.Ytjpoliagicceaaa

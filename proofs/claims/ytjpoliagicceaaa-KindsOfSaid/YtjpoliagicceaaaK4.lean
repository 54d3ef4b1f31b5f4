/- Contracts of the type of a kind, of both texts. -/
import Derived.Test.YtjpoliagicceaaaK3
namespace Go.Proofs.Ytjpoliagicceaaa
open Go.RowKit

/-- the type of a kind -/
def typeOf (k : Int) : ByteArray :=
  if 1 ≤ k ∧ k ≤ 22 then tn (k - 1).toNat else if k = 23 then ⟨#[115, 101, 108, 101, 99, 116, 45, 111, 110, 101]⟩ else if k = 24 then ⟨#[116, 101, 120, 116, 97, 114, 101, 97]⟩ else if k = 25 then ⟨#[115, 117, 98, 109, 105, 116]⟩ else if k = 26 then ⟨#[114, 101, 115, 101, 116]⟩ else if k = 27 then ⟨#[98, 117, 116, 116, 111, 110]⟩
  else if k = 28 then ⟨#[111, 117, 116, 112, 117, 116]⟩ else if k = 29 then ⟨#[102, 105, 101, 108, 100, 115, 101, 116]⟩ else ⟨#[]⟩
theorem Type_in (i : Nat) (w : World) (h : i < 22) :
    Calls Try.prog 23 #[.int .i64 ((i : Int) + 1)] w fun e w' => e = .returned (.string (tn i)) ∧ Below w.heap.size w w' := by
  have hx := fun w => tyIdx i h w
  have e1 : ((i : Int) + 1 == 23) = false := by simp; omega
  have e2 : ((i : Int) + 1 == 24) = false := by simp; omega
  have e3 : ((i : Int) + 1 == 25) = false := by simp; omega
  have e4 : ((i : Int) + 1 == 26) = false := by simp; omega
  have e5 : ((i : Int) + 1 == 27) = false := by simp; omega
  have e6 : ((i : Int) + 1 == 28) = false := by simp; omega
  have e7 : ((i : Int) + 1 == 29) = false := by simp; omega
  go_enter Try.func23, Try.ntmps23
  go_wp2_with (go_at_call 27; refine (types_c _).mono ?_; rintro e w1 ⟨rfl, hb⟩)
  go_ret
  exact ⟨rfl, hb⟩
theorem Type_out (k : Int) (w : World) (h : ¬ (1 ≤ k ∧ k ≤ 22)) :
    Calls Try.prog 23 #[.int .i64 k] w fun e w' => e = .returned (.string (typeOf k)) ∧ Below w.heap.size w w' := by
  have h' : k < 1 ∨ 22 < k := by omega
  have hz : typeOf k = if k = 23 then ⟨#[115, 101, 108, 101, 99, 116, 45, 111, 110, 101]⟩ else if k = 24 then ⟨#[116, 101, 120, 116, 97, 114, 101, 97]⟩ else if k = 25 then ⟨#[115, 117, 98, 109, 105, 116]⟩ else if k = 26 then ⟨#[114, 101, 115, 101, 116]⟩ else if k = 27 then ⟨#[98, 117, 116, 116, 111, 110]⟩
    else if k = 28 then ⟨#[111, 117, 116, 112, 117, 116]⟩ else if k = 29 then ⟨#[102, 105, 101, 108, 100, 115, 101, 116]⟩ else ⟨#[]⟩ := by unfold typeOf; rw [if_neg h]
  have HZ := Lib.hid hz
  clear hz h
  rcases h' with h' | h'
  all_goals
    go_enter Try.func23, Try.ntmps23
    go_wp2_with fail
    all_goals
      go_ret
      refine ⟨ret_str ?_, Below.refl _ _⟩
      rw [HZ.out]
      simp_all
theorem Type_c (k : Int) (w : World) : Calls Try.prog 23 #[.int .i64 k] w fun e w' => e = .returned (.string (typeOf k)) ∧ Below w.heap.size w w' := by
  by_cases h : 1 ≤ k ∧ k ≤ 22
  · have := Type_in (k - 1).toNat w (by omega)
    rw [show (((k - 1).toNat : Nat) : Int) + 1 = k from by omega] at this
    exact this.mono fun e w' ⟨he, hb⟩ => ⟨by rw [he]; exact ret_str (by rw [typeOf, if_pos h]), hb⟩
  · exact Type_out k w h
set_option maxHeartbeats 800000 in
theorem rType_c (k : Int) (w : World) : Calls Try.prog 24 #[.int .i64 k] w fun e w' => e = .returned (.string (typeOf k)) ∧ w = w' := by
  go_enter Try.func24, Try.ntmps24
  go_wp2_with fail
  all_goals
    go_ret
    refine ⟨ret_str ?_, rfl⟩
    first
      | (obtain rfl : k = _ := by simpa using ‹(k == _) = true›
         rfl)
      | (simp_all [typeOf]; try omega)
end Go.Proofs.Ytjpoliagicceaaa

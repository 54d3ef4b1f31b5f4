/- The law EventPaths, walked. -/
import Derived.Test.YtpgcaehbbdnhiaaE5
import Derived.Test.YtpgcaehbbdnhiaaOpen3
namespace Go.Proofs.Ytpgcaehbbdnhiaa
open Go.RowKit
set_option maxRecDepth 100000 in
set_option maxHeartbeats 1000000 in
theorem EventPaths_w (a : Option Addr × List GNode × Nat) (t : Int) (w : World) (hd : DocIn w a.1 a.2.1) (_wt : (Lit.int .i64 t).wf = true) :
    Calls Try.prog 4 #[.slice a.1 a.2.1.length a.2.2, .int .i64 t] w fun e w' => e = .returned (.bool true) ∧ Below w.heap.size w w' := by
  obtain ⟨A, l, c⟩ := a
  dsimp only at hd ⊢
  obtain ⟨h, -, hs, hln⟩ := hd
  have hll : l.length ≤ 4611686018427387904 := by unfold reachBytes at hln; omega
  have hcur : Below w.heap.size w w := Below.refl _ _
  cases hh : hasB l t with
  | true =>
    have ht : Is l t := (hasB_iff.1 hh).1
    have hr : RightP l := (hasB_iff.1 hh).2
    obtain ⟨⟨_, h400, _⟩, _⟩ := id hr
    have HR := Lib.hid hr
    have HT := Lib.hid ht
    have HPS := Lib.hid (fun L (hp : PathP l t L) => path_size hr ht hp)
    have HSM := Lib.hid (fun L L' (hp : PathP l t L) (hp' : PathP l t L') => path_same hp hp')
    clear hh ht hr
    go_enter Try.func4, Try.ntmps4
    go_wp2_with (first | (go_at_call 19; refine (wakes23_c _).mono ?_; rintro e w1 ⟨rfl, hb1⟩; replace hcur := hcur.trans (hb1.mono hcur.size); clear hb1) | (go_at_call 22; refine (rCopied_c A c l _ w.heap.size hcur.size hs hln (h.below hcur)).mono ?_; rintro e w2 ⟨v, rfl, hdoc, hb2⟩; replace hcur := hcur.trans (hb2.mono hcur.size); clear hb2; obtain ⟨A2, c2, rfl, hn2, -⟩ := hdoc.nodes) | (go_at_call 21; refine (PathOk_c A2 c2 l HR.out t HT.out _ _ (Nat.le_refl _) hs hn2).mono ?_; rintro e w3 ⟨T3, c3, L, rfl, hp, ho3, hb3⟩; replace hcur := hcur.trans (hb3.mono hcur.size); clear hb3; have hi3 := ints_of_owns ho3; clear ho3; have HP := Lib.hid hp; have hLs := HPS.out L hp; clear hp) | (go_at_call 23; refine (rPathOk_c A c l HR.out t HT.out _ w.heap.size hcur.size hs (h.below hcur)).mono ?_; rintro e w4 ⟨v4, L4, rfl, hp4, ho4, hb4⟩; obtain rfl := HSM.out L4 L hp4 HP.out; replace hcur := hcur.trans (hb4.mono hcur.size); replace hi3 := (hi3.below hb4).mono hb4.size; clear hb4; obtain ⟨T4, c4, rfl⟩ := owns_slice ho4; have hi4 := ho4.ints; clear ho4) | (go_at_call 20; refine (SameInts_c T3 c3 L4 T4 c4 L4 _ _ (Nat.le_refl _) (by omega) (by omega) hi3 hi4).mono ?_; rintro e w5 ⟨rfl, hb5⟩; replace hcur := hcur.trans (hb5.mono hcur.size); clear hb5))
    go_ret
    exact ⟨by simp, hcur⟩
  | false =>
    have HN := Lib.hid hh
    have hnil : ∀ w : World, IntsAt w w.heap.size none [] := fun w h => absurd rfl h
    clear hh
    go_enter Try.func4, Try.ntmps4
    go_wp2_with (first | (go_at_call 19; refine (wakes23_c _).mono ?_; rintro e w1 ⟨rfl, hb1⟩; replace hcur := hcur.trans (hb1.mono hcur.size); clear hb1) | (go_at_call 22; refine (rCopied_c A c l _ w.heap.size hcur.size hs hln (h.below hcur)).mono ?_; rintro e w2 ⟨v, rfl, hdoc, hb2⟩; replace hcur := hcur.trans (hb2.mono hcur.size); clear hb2; obtain ⟨A2, c2, rfl, hn2, -⟩ := hdoc.nodes) | (go_at_call 21; refine (PathNo_c A2 c2 l t HN.out _ _ (Nat.le_refl _) hll hs hn2).mono ?_; rintro e w3 ⟨rfl, hb3⟩; replace hcur := hcur.trans (hb3.mono hcur.size); clear hb3) | (go_at_call 23; refine (rPathNo_c A c l t HN.out _ w.heap.size hcur.size hll hs (h.below hcur)).mono ?_; rintro e w4 ⟨rfl, hb4⟩; replace hcur := hcur.trans (hb4.mono hcur.size); clear hb4) | (go_at_call 20; refine (SameInts_c none 0 [] none 0 [] _ _ (Nat.le_refl _) (by decide) (by decide) (hnil _) (hnil _)).mono ?_; rintro e w5 ⟨rfl, hb5⟩; replace hcur := hcur.trans (hb5.mono hcur.size); clear hb5))
    go_ret
    exact ⟨by simp, hcur⟩
end Go.Proofs.Ytpgcaehbbdnhiaa

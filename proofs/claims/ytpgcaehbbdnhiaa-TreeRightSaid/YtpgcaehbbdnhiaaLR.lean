/- The law TreeRight, walked. -/
import Derived.Test.YtpgcaehbbdnhiaaO4
import Derived.Test.YtpgcaehbbdnhiaaOpen3
namespace Go.Proofs.Ytpgcaehbbdnhiaa
open Go.RowKit
set_option maxRecDepth 100000 in
set_option maxHeartbeats 1000000 in
theorem TreeRight_w (a : Option Addr × List GNode × Nat) (w : World) (hd : DocIn w a.1 a.2.1) :
    Calls Try.prog 8 #[.slice a.1 a.2.1.length a.2.2] w fun e w' => e = .returned (.bool true) ∧ Below w.heap.size w w' := by
  obtain ⟨A, l, c⟩ := a
  dsimp only at hd ⊢
  obtain ⟨h, -, hs, hln⟩ := hd
  have hll : l.length ≤ 4611686018427387904 := by unfold reachBytes at hln; omega
  have hcur : Below w.heap.size w w := Below.refl _ _
  go_enter Try.func8, Try.ntmps8
  go_wp2_with (first | (go_at_call 27; refine (wakes_c _).mono ?_; rintro e w1 ⟨rfl, hb1⟩; replace hcur := hcur.trans (hb1.mono hcur.size); clear hb1) | (go_at_call 22; refine (rCopied_c A c l _ w.heap.size hcur.size hs hln (h.below hcur)).mono ?_; rintro e w2 ⟨v, rfl, hdoc, hb2⟩; replace hcur := hcur.trans (hb2.mono hcur.size); clear hb2; obtain ⟨A2, c2, rfl, hn2, -⟩ := hdoc.nodes) | (go_at_call 28; refine (Right_c A2 c2 l _ _ (Nat.le_refl _) hs hll hn2).mono ?_; rintro e w3 ⟨rfl, hb3⟩; replace hcur := hcur.trans (hb3.mono hcur.size); clear hb3) | (go_at_call 29; refine (rRight_c A c l _ w.heap.size hcur.size hs hll (h.below hcur)).mono ?_; rintro e w4 ⟨rfl, hb4⟩; replace hcur := hcur.trans (hb4.mono hcur.size); clear hb4))
  go_ret
  exact ⟨by simp, hcur⟩
end Go.Proofs.Ytpgcaehbbdnhiaa

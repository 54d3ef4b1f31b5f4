/- The law TreeAdds, walked. -/
import Derived.Test.YtpgcaehbbdnhiaaA5
namespace Go.Proofs.Ytpgcaehbbdnhiaa
open Go.RowKit
set_option maxRecDepth 100000 in
set_option maxHeartbeats 2000000 in
theorem TreeAdds_w (a : Option Addr × List GNode × Nat) (name text : ByteArray) (w : World) (hd : DocIn w a.1 a.2.1) (hn : name.size ≤ reachBytes) (ht : text.size ≤ reachBytes) :
    Calls Try.prog 12 #[.slice a.1 a.2.1.length a.2.2, .string name, .string text] w fun e w' => e = .returned (.bool true) ∧ Below w.heap.size w w' := by
  obtain ⟨A, l, c⟩ := a
  dsimp only at hd ⊢
  obtain ⟨h, -, hs, hln⟩ := hd
  have hll : l.length ≤ 4611686018427387904 := by unfold reachBytes at hln; omega
  obtain ⟨E, hE⟩ : ∃ E, E = addE l name text := ⟨_, rfl⟩
  obtain ⟨L, hL⟩ : ∃ L, L = if E = 0 then l ++ [newNode name text] else [] := ⟨_, rfl⟩
  have hsL : ∀ n ∈ L, NodeSmall reachBytes n := by
    rw [hL]
    split
    · exact new_small hs hn ht
    · intro n hm; exact absurd hm List.not_mem_nil
  have hLl : L.length ≤ 4611686018427387904 := by
    rw [hL]
    split
    · rw [List.length_append]; unfold reachBytes at hln; simp; omega
    · simp
  have HLR := Lib.hid (show E = 0 → RightP L from fun e => by rw [hL, if_pos e]; exact new_right (by rw [← hE]; exact e))
  have HE := Lib.hid hE
  have HL := Lib.hid hL
  have HS := Lib.hid hs
  have HSL := Lib.hid hsL
  have HN := Lib.hid hn
  have HT := Lib.hid ht
  have mk1 : True := trivial
  have hcur : Below w.heap.size w w := Below.refl _ _
  clear hE hL hs hsL hn ht
  by_cases hz : E = 0
  · have hrL := rightB_yes (HLR.out hz)
    have hz' : (E != 0) = false := by simpa using hz
    clear hz
    go_enter Try.func12, Try.ntmps12
    go_wp2_with (first | (go_at_call 22; refine (rCopied_c A c l _ w.heap.size hcur.size HS.out hln (h.below hcur)).mono ?_; rintro e w2 ⟨v, rfl, hdoc, hb2⟩; replace hcur := hcur.trans (hb2.mono hcur.size); clear hb2; obtain ⟨A2, c2, rfl, hn2, -⟩ := hdoc.nodes; have hw2 := Below.refl w2.heap.size w2) | (go_at_call 37; refine (Add_c A2 c2 l name text _ _ (Nat.le_refl _) HS.out hln HN.out HT.out hn2 E HE.out).mono ?_; rintro e w3 ⟨va, na, rfl, hna, hda, hba⟩; rw [← HL.out] at hda; have HNA := Lib.hid hna; clear hna; obtain ⟨Aa, ca, rfl, hnaa, -⟩ := hda.nodes; replace hcur := hcur.trans (hba.mono hcur.size); replace hw2 := hw2.trans (hba.mono hw2.size); have hwa := Below.refl w3.heap.size w3) | (go_at_call 38; refine (rAdd_c A c l name text _ w.heap.size hcur.size HS.out hln HN.out HT.out (h.below hcur) E HE.out).mono ?_; rintro e w4 ⟨vb, nb, rfl, hnb, hdb, hbb⟩; rw [← HL.out] at hdb; have hnn : nb = na := hnb.trans HNA.out.symm; clear hnb; subst hnn; obtain ⟨Ab, cb, rfl, hnbb, -⟩ := hdb.nodes; replace hcur := hcur.trans (hbb.mono hcur.size); replace hw2 := hw2.trans (hbb.mono hw2.size); replace hwa := hwa.trans (hbb.mono hwa.size); have hwb := Below.refl w4.heap.size w4) | (go_at_call 27; refine (wakes_c _).mono ?_; rintro e w5 ⟨rfl, hb5⟩; replace hcur := hcur.trans (hb5.mono hcur.size); replace hw2 := hw2.trans (hb5.mono hw2.size); replace hwa := hwa.trans (hb5.mono hwa.size); replace hwb := hwb.trans (hb5.mono hwb.size); clear hb5) | (go_at_call 33; clear mk1; refine (Same_c Aa ca Ab cb L _ _ hLl HSL.out ((hnaa.below hwa).mono hwa.size) ((hnbb.below hwb).mono hwb.size)).mono ?_; rintro e w6 ⟨rfl, hb6⟩; replace hcur := hcur.trans (hb6.mono hcur.size); replace hw2 := hw2.trans (hb6.mono hw2.size); replace hwa := hwa.trans (hb6.mono hwa.size); clear hb6 hwb hnbb) | (go_at_call 33; refine (Same_c A2 c2 A c l _ _ hll HS.out ((hn2.below hw2).mono hw2.size) ((h.below hcur).mono hcur.size)).mono ?_; rintro e w7 ⟨rfl, hb7⟩; replace hcur := hcur.trans (hb7.mono hcur.size); replace hwa := hwa.trans (hb7.mono hwa.size); clear hb7) | (go_at_call 28; refine (Right_c Aa ca L _ _ (Nat.le_refl _) HSL.out hLl ((hnaa.below hwa).mono hwa.size)).mono ?_; rintro e w8 ⟨rfl, hb8⟩; replace hcur := hcur.trans (hb8.mono hcur.size); clear hb8))
    go_ret
    exact ⟨rfl, hcur⟩
  · have hz' : (E != 0) = true := by simpa using hz
    go_enter Try.func12, Try.ntmps12
    go_wp2_with (first | (go_at_call 22; refine (rCopied_c A c l _ w.heap.size hcur.size HS.out hln (h.below hcur)).mono ?_; rintro e w2 ⟨v, rfl, hdoc, hb2⟩; replace hcur := hcur.trans (hb2.mono hcur.size); clear hb2; obtain ⟨A2, c2, rfl, hn2, -⟩ := hdoc.nodes; have hw2 := Below.refl w2.heap.size w2) | (go_at_call 37; refine (Add_c A2 c2 l name text _ _ (Nat.le_refl _) HS.out hln HN.out HT.out hn2 E HE.out).mono ?_; rintro e w3 ⟨va, na, rfl, hna, hda, hba⟩; rw [← HL.out] at hda; have HNA := Lib.hid hna; clear hna; obtain ⟨Aa, ca, rfl, hnaa, -⟩ := hda.nodes; replace hcur := hcur.trans (hba.mono hcur.size); replace hw2 := hw2.trans (hba.mono hw2.size); have hwa := Below.refl w3.heap.size w3) | (go_at_call 38; refine (rAdd_c A c l name text _ w.heap.size hcur.size HS.out hln HN.out HT.out (h.below hcur) E HE.out).mono ?_; rintro e w4 ⟨vb, nb, rfl, hnb, hdb, hbb⟩; rw [← HL.out] at hdb; have hnn : nb = na := hnb.trans HNA.out.symm; clear hnb; subst hnn; obtain ⟨Ab, cb, rfl, hnbb, -⟩ := hdb.nodes; replace hcur := hcur.trans (hbb.mono hcur.size); replace hw2 := hw2.trans (hbb.mono hw2.size); replace hwa := hwa.trans (hbb.mono hwa.size); have hwb := Below.refl w4.heap.size w4) | (go_at_call 27; refine (wakes_c _).mono ?_; rintro e w5 ⟨rfl, hb5⟩; replace hcur := hcur.trans (hb5.mono hcur.size); replace hw2 := hw2.trans (hb5.mono hw2.size); replace hwa := hwa.trans (hb5.mono hwa.size); replace hwb := hwb.trans (hb5.mono hwb.size); clear hb5) | (go_at_call 33; clear mk1; refine (Same_c Aa ca Ab cb L _ _ hLl HSL.out ((hnaa.below hwa).mono hwa.size) ((hnbb.below hwb).mono hwb.size)).mono ?_; rintro e w6 ⟨rfl, hb6⟩; replace hcur := hcur.trans (hb6.mono hcur.size); replace hw2 := hw2.trans (hb6.mono hw2.size); replace hwa := hwa.trans (hb6.mono hwa.size); clear hb6 hwb hnbb) | (go_at_call 33; refine (Same_c A2 c2 A c l _ _ hll HS.out ((hn2.below hw2).mono hw2.size) ((h.below hcur).mono hcur.size)).mono ?_; rintro e w7 ⟨rfl, hb7⟩; replace hcur := hcur.trans (hb7.mono hcur.size); replace hwa := hwa.trans (hb7.mono hwa.size); clear hb7) | (go_at_call 28; refine (Right_c Aa ca L _ _ (Nat.le_refl _) HSL.out hLl ((hnaa.below hwa).mono hwa.size)).mono ?_; rintro e w8 ⟨rfl, hb8⟩; replace hcur := hcur.trans (hb8.mono hcur.size); clear hb8))
    go_ret
    exact ⟨by simp, hcur⟩
end Go.Proofs.Ytpgcaehbbdnhiaa

/- The law TreeRemoves, walked. -/
import Derived.Test.YtpgcaehbbdnhiaaB11
import Derived.Test.YtpgcaehbbdnhiaaA1
import Derived.Test.YtpgcaehbbdnhiaaO4
import Derived.Test.YtpgcaehbbdnhiaaOpen3
namespace Go.Proofs.Ytpgcaehbbdnhiaa
open Go.RowKit
theorem rem_small {l : List GNode} {q pn i : Nat} (c : Cut l q pn i) (hs : ∀ n ∈ l, NodeSmall reachBytes n) : ∀ n ∈ remL l (q : Int), NodeSmall reachBytes n := by
  intro n hn
  obtain ⟨j, hj, rfl⟩ := List.mem_iff_getElem.1 hn
  have hjl : j < l.length := by rw [c.len] at hj; exact hj
  rw [c.get hjl]
  have h0 := hs _ (List.getElem_mem hjl)
  refine ⟨h0.name, h0.text, h0.attrs, h0.each, ?_⟩
  show (if j = pn then filI (kidsOf l (pn : Int)) (q : Int) else l[j].kids).length * 8 ≤ reachBytes
  by_cases e : j = pn
  · subst e
    rw [if_pos rfl]
    have h1 : (filI (kidsOf l (j : Int)) (q : Int)).length ≤ (kidsOf l (j : Int)).length := List.length_filter_le _ _
    rw [kidsOf_at hjl] at h1 ⊢
    have h2 := h0.kids
    omega
  · rw [if_neg e]; exact h0.kids
set_option maxRecDepth 100000 in
set_option maxHeartbeats 2000000 in
theorem TreeRemoves_w (a : Option Addr × List GNode × Nat) (k : Int) (w : World) (hd : DocIn w a.1 a.2.1) (_hkw : (Lit.int .i64 k).wf = true) :
    Calls Try.prog 10 #[.slice a.1 a.2.1.length a.2.2, .int .i64 k] w fun e w' => e = .returned (.bool true) ∧ Below w.heap.size w w' := by
  obtain ⟨A, l, c⟩ := a
  dsimp only at hd ⊢
  obtain ⟨h, -, hs, hln⟩ := hd
  have hll : l.length ≤ 4611686018427387904 := by unfold reachBytes at hln; omega
  obtain ⟨E, hE⟩ : ∃ E, E = remE l k := ⟨_, rfl⟩
  obtain ⟨L, hL⟩ : ∃ L, L = if E = 0 then remL l k else [] := ⟨_, rfl⟩
  have hcur : Below w.heap.size w w := Below.refl _ _
  have HE := Lib.hid hE
  have HL := Lib.hid hL
  have HS := Lib.hid hs
  have mk1 : True := trivial
  have mk2 : True := trivial
  by_cases hz : E = 0
  · have hzE : (E != 0) = false := by simpa using hz
    have hfacts : ∃ q : Nat, k = q ∧ q < l.length ∧ RightP l ∧ 0 ≤ parOf l (q : Int) := by
      have h0 := hE.symm.trans hz
      unfold remE at h0
      by_cases h1 : hasB l k = false
      · rw [if_pos h1] at h0; omega
      rw [if_neg h1] at h0
      obtain ⟨hi, hr⟩ := hasB_iff.1 (by simpa using h1 : hasB l k = true)
      obtain ⟨q, rfl, hq⟩ := is_nat hi
      refine ⟨q, rfl, hq, hr, ?_⟩
      by_cases h2 : parOf l (q : Int) < 0
      · rw [if_pos h2] at h0; omega
      · omega
    obtain ⟨q, rfl, hq, hr, hp0⟩ := hfacts
    obtain ⟨pn, i, cu⟩ := cut_of hr hq hp0
    have hLe : L = remL l (q : Int) := by rw [hL, if_pos hz]
    have hsL : ∀ n ∈ L, NodeSmall reachBytes n := by rw [hLe]; exact rem_small cu hs
    have hLl : L.length ≤ 4611686018427387904 := by rw [hLe, cu.len]; exact hll
    have HSL := Lib.hid hsL
    have HC := Lib.hid cu
    have hpn := cu.hp
    have HPQ := Lib.hid (show l[q].parent = (pn : Int) by rw [← parOf_at hq]; exact cu.par)
    obtain ⟨bb, oo, rfl, hbB, -⟩ := h.at_ hq
    have hpack : ∃ (kd : List Int) (bf : Int), kd = l[pn].kids ∧ kd.length ≤ 400 ∧ (∃ h : i < kd.length, kd[i] = (q : Int)) ∧ (∀ j (h : j < kd.length), j ≠ i → kd[j] ≠ (q : Int)) ∧ bf = nextOf kd i ∧ ((bf = -1 ∧ i = (filI kd (q : Int)).length) ∨ (bf ≠ -1 ∧ bf ≠ (q : Int) ∧ fndI (filI kd (q : Int)) bf = i)) ∧ kd = kidsOf l (pn : Int) :=
      ⟨kidsOf l (pn : Int), _, kidsOf_at hpn, by rw [kidsOf_at hpn]; exact kids_few hr hpn, ⟨cu.hi, cu.at_⟩, cu.once, rfl, cu.pos _ rfl, rfl⟩
    obtain ⟨kd, bf, hke, h400, ⟨hil, hat⟩, hon, hnx, hpos, hkk⟩ := hpack
    have HKE := Lib.hid hke
    have HPOS := Lib.hid hpos
    have HNX := Lib.hid hnx
    have HKK := Lib.hid hkk
    have hp0' : (0 : Int) ≤ (pn : Int) := by omega
    have hq0' : (0 : Int) ≤ (q : Int) := by omega
    have HAT := Lib.hid hat
    have HON := Lib.hid hon
    have HLE := Lib.hid hLe
    clear hz hE hL hs hr hp0 cu hLe hsL hke hat hon hnx hpos hkk
    go_enter Try.func10, Try.ntmps10
    go_wp2_with (first | (go_at_call 22; refine (rCopied_c _ c l _ w.heap.size hcur.size HS.out hln (h.below hcur)).mono ?_; rintro e w2 ⟨v, rfl, hdoc, hb2⟩; replace hcur := hcur.trans (hb2.mono hcur.size); obtain ⟨A2, c2, rfl, hn2, -⟩ := hdoc.nodes; have hw2 := Below.refl w2.heap.size w2) | (go_at_call 31; refine (Remove_c A2 c2 l q _ _ (Nat.le_refl _) HS.out hln hn2 E HE.out).mono ?_; rintro e w3 ⟨va, rfl, hda, hba⟩; rw [← HL.out] at hda; obtain ⟨Aa, ca, rfl, hnaa, -⟩ := hda.nodes; replace hcur := hcur.trans (hba.mono hcur.size); replace hw2 := hw2.trans (hba.mono hw2.size); have hwm := Below.refl w3.heap.size w3) | (go_at_call 32; refine (rRemove_c _ c l q _ w.heap.size hcur.size HS.out hln (h.below hcur) E HE.out).mono ?_; rintro e w4 ⟨vb, rfl, hdb, hbb⟩; rw [← HL.out] at hdb; obtain ⟨Ab, cb, rfl, hnbb, -⟩ := hdb.nodes; replace hcur := hcur.trans (hbb.mono hcur.size); replace hw2 := hw2.trans (hbb.mono hw2.size); replace hwm := hwm.trans (hbb.mono hwm.size); have hwn := Below.refl w4.heap.size w4) | (go_at_call 27; refine (wakes_c _).mono ?_; rintro e w5 ⟨rfl, hb5⟩; replace hcur := hcur.trans (hb5.mono hcur.size); replace hw2 := hw2.trans (hb5.mono hw2.size); replace hwm := hwm.trans (hb5.mono hwm.size); replace hwn := hwn.trans (hb5.mono hwn.size); clear hb5) | (go_at_call 33; clear mk1; refine (Same_c Aa ca Ab cb L _ _ hLl HSL.out ((hnaa.below hwm).mono hwm.size) ((hnbb.below hwn).mono hwn.size)).mono ?_; rintro e w6 ⟨rfl, hb6⟩; replace hcur := hcur.trans (hb6.mono hcur.size); replace hw2 := hw2.trans (hb6.mono hw2.size); replace hwm := hwm.trans (hb6.mono hwm.size); clear hb6 hwn hnbb) | (go_at_call 33; clear mk2; refine (Same_c A2 c2 _ c l _ _ hll HS.out ((hn2.below hw2).mono hw2.size) ((h.below hcur).mono hcur.size)).mono ?_; rintro e w7 ⟨rfl, hb7⟩; replace hcur := hcur.trans (hb7.mono hcur.size); replace hwm := hwm.trans (hb7.mono hwm.size); clear hb7; obtain ⟨Tq, acq, Kq, kcq, -, -, -, x3, -, -, -, -, -⟩ := (h.below hcur).at2 hq; rw [HPQ.out] at x3; obtain ⟨Tk, ack, Kk, kck, -, -, -, -, y4, -, hKk, -, -⟩ := (h.below hcur).at2 hpn; rw [← HKE.out] at y4 hKk))
    have hw5 := hcur
    go_loop [11, 61] (fun bv jv => ∃ j : Nat, j ≤ kd.length ∧ jv = .int .i64 j ∧ bv = .int .i64 (if i < j then bf else -1)) (fun _ jv => kd.length - (intOf jv).toNat)
    case atStart => exact ⟨0, by omega, rfl, by rw [if_neg (by omega)]⟩
    case round =>
      obtain ⟨j, hj, rfl, rfl⟩ := hrel
      by_cases hjl : j < kd.length
      · obtain ⟨gk, ok, rfl, hgk, hck⟩ := hKk.at_ hjl
        have hj0 : (0 : Int) ≤ (j : Int) := by omega
        by_cases hji : j = i
        · subst hji
          have hcq : kd[j] = (q : Int) := HAT.out
          rw [hcq] at hck
          obtain ⟨b0, hb0⟩ : ∃ b0 : Int, b0 = if j < j then bf else -1 := ⟨_, rfl⟩
          have hb0' : b0 = -1 := by rw [hb0, if_neg (by omega)]
          rw [← hb0]
          subst hb0'
          by_cases hl1 : j + 1 < kd.length
          · obtain ⟨gk2, ok2, e2, -, hck2⟩ := hKk.at_ hl1
            cases e2
            have hbfe : kd[j + 1] = bf := by
              have := HNX.out
              unfold nextOf at this
              rw [List.getElem?_eq_getElem hl1] at this
              exact this.symm
            rw [hbfe] at hck2
            have hck3 := hck2
            rw [← Nat.add_assoc] at hck3
            have hj1 : ((j : Int) + 1).toNat = j + 1 := by omega
            have hl1' : (j : Int) + 1 < (kd.length : Int) := by omega
            have HBE := Lib.hid hbfe
            clear hbfe hb0
            go_wp2
            go_round
            case rel => exact ⟨j + 1, by omega, by go_num, by rw [if_pos (by omega)]⟩
            case measure => simp [intOf]; omega
          · have hl1' : decide ((j : Int) + 1 < (kd.length : Int)) = false := decide_eq_false (by omega)
            have hbf1 : bf = -1 := by
              have := HNX.out
              unfold nextOf at this
              rw [List.getElem?_eq_none (by omega)] at this
              exact this
            have HB1 := Lib.hid hbf1
            clear hbf1 hb0 hl1
            go_wp2
            go_round
            case rel => exact ⟨j + 1, by omega, by go_num, by rw [if_pos (by omega), HB1.out]⟩
            case measure => simp [intOf]; omega
        · have hne := HON.out j hjl hji
          obtain ⟨b0, hb0⟩ : ∃ b0 : Int, b0 = if i < j then bf else -1 := ⟨_, rfl⟩
          rw [← hb0]
          have HB0 := Lib.hid (show b0 = if i < j + 1 then bf else -1 by
            rw [hb0]
            by_cases h1 : i < j
            · rw [if_pos h1, if_pos (by omega)]
            · rw [if_neg h1, if_neg (by omega)])
          generalize kd[j] = y at hck hne
          have hne' : (y == (q : Int)) = false := by simpa using hne
          clear hb0 hne
          go_wp2
          go_round
          case rel => exact ⟨j + 1, by omega, by go_num, by rw [HB0.out]⟩
          case measure => simp [intOf]; omega
      · obtain rfl : j = kd.length := by omega
        rw [if_pos hil]
        have hcl := HC.out.len
        have hqL : q < L.length := by rw [HLE.out, hcl]; exact hq
        have hpL : pn < L.length := by rw [HLE.out, hcl]; exact hpn
        have hLp : L[pn] = ⟨l[pn].name, l[pn].text, l[pn].attrs, if pn = q then -1 else l[pn].parent, filI (kidsOf l (pn : Int)) (q : Int)⟩ := by
          have := HC.out.get hpn
          simp only [HLE.out]
          rw [this]
          simp
        have hInv := InsertOk_c Aa ca L pn q bf i (by rw [HLE.out]; exact HC.out.right_) hpL hqL (by rw [hLp]; exact HC.out.name) HC.out.nzero (by rw [HLE.out]; exact HC.out.inside) (by rw [HLE.out, HC.out.parOf_, if_pos (by omega)]; omega) (by rw [hLp]; show (bf = -1 ∧ i = (filI (kidsOf l (pn : Int)) (q : Int)).length) ∨ (bf ≠ -1 ∧ bf ≠ (q : Int) ∧ fndI (filI (kidsOf l (pn : Int)) (q : Int)) bf = i); rw [← HKK.out]; exact HPOS.out) _ _ hwm.size HSL.out (hnaa.below hwm)
        have hbk : insL L pn q i = l := by rw [HLE.out]; exact HC.out.back
        rw [hbk] at hInv
        have HINV := Lib.hid hInv
        clear hInv hLp hbk hcl hqL hpL
        go_wp2_with (first | (go_at_call 34; refine HINV.out.mono ?_; rintro e w8 ⟨v8, rfl, hd8, hb8⟩; obtain ⟨A8, c8, rfl, hn8, -⟩ := hd8.nodes; replace hcur := hcur.trans (hb8.mono hcur.size)) | (go_at_call 33; refine (Same_c A8 c8 _ c l _ _ hll HS.out hn8 ((h.below hcur).mono hcur.size)).mono ?_; rintro e w9 ⟨rfl, hb9⟩; replace hcur := hcur.trans (hb9.mono hcur.size)))
        go_ret
        exact ⟨rfl, hcur⟩
  · have hzE : (E != 0) = true := by simpa using hz
    have hLe : L = [] := by rw [hL, if_neg hz]
    have hsL : ∀ n ∈ L, NodeSmall reachBytes n := by rw [hLe]; intro n hn; exact absurd hn List.not_mem_nil
    have hLl : L.length ≤ 4611686018427387904 := by rw [hLe]; simp
    have HSL := Lib.hid hsL
    clear hz hE hL hs hLe hsL
    go_enter Try.func10, Try.ntmps10
    go_wp2_with (first | (go_at_call 22; refine (rCopied_c _ c l _ w.heap.size hcur.size HS.out hln (h.below hcur)).mono ?_; rintro e w2 ⟨v, rfl, hdoc, hb2⟩; replace hcur := hcur.trans (hb2.mono hcur.size); obtain ⟨A2, c2, rfl, hn2, -⟩ := hdoc.nodes; have hw2 := Below.refl w2.heap.size w2) | (go_at_call 31; refine (Remove_c A2 c2 l k _ _ (Nat.le_refl _) HS.out hln hn2 E HE.out).mono ?_; rintro e w3 ⟨va, rfl, hda, hba⟩; rw [← HL.out] at hda; obtain ⟨Aa, ca, rfl, hnaa, -⟩ := hda.nodes; replace hcur := hcur.trans (hba.mono hcur.size); replace hw2 := hw2.trans (hba.mono hw2.size); have hwm := Below.refl w3.heap.size w3) | (go_at_call 32; refine (rRemove_c _ c l k _ w.heap.size hcur.size HS.out hln (h.below hcur) E HE.out).mono ?_; rintro e w4 ⟨vb, rfl, hdb, hbb⟩; rw [← HL.out] at hdb; obtain ⟨Ab, cb, rfl, hnbb, -⟩ := hdb.nodes; replace hcur := hcur.trans (hbb.mono hcur.size); replace hw2 := hw2.trans (hbb.mono hw2.size); replace hwm := hwm.trans (hbb.mono hwm.size); have hwn := Below.refl w4.heap.size w4) | (go_at_call 27; refine (wakes_c _).mono ?_; rintro e w5 ⟨rfl, hb5⟩; replace hcur := hcur.trans (hb5.mono hcur.size); replace hw2 := hw2.trans (hb5.mono hw2.size); replace hwm := hwm.trans (hb5.mono hwm.size); replace hwn := hwn.trans (hb5.mono hwn.size); clear hb5) | (go_at_call 33; clear mk1; refine (Same_c Aa ca Ab cb L _ _ hLl HSL.out ((hnaa.below hwm).mono hwm.size) ((hnbb.below hwn).mono hwn.size)).mono ?_; rintro e w6 ⟨rfl, hb6⟩; replace hcur := hcur.trans (hb6.mono hcur.size); replace hw2 := hw2.trans (hb6.mono hw2.size); replace hwm := hwm.trans (hb6.mono hwm.size); clear hb6 hwn hnbb) | (go_at_call 33; clear mk2; refine (Same_c A2 c2 _ c l _ _ hll HS.out ((hn2.below hw2).mono hw2.size) ((h.below hcur).mono hcur.size)).mono ?_; rintro e w7 ⟨rfl, hb7⟩; replace hcur := hcur.trans (hb7.mono hcur.size); replace hwm := hwm.trans (hb7.mono hwm.size); clear hb7))
    go_ret
    exact ⟨rfl, hcur⟩
end Go.Proofs.Ytpgcaehbbdnhiaa

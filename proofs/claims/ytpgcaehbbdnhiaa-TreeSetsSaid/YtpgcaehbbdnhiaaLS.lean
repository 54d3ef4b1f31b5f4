/- The law TreeSets, walked. -/
import Derived.Test.YtpgcaehbbdnhiaaB5
import Derived.Test.YtpgcaehbbdnhiaaA1
import Derived.Test.YtpgcaehbbdnhiaaO4
import Derived.Test.YtpgcaehbbdnhiaaOpen3
namespace Go.Proofs.Ytpgcaehbbdnhiaa
open Go.RowKit Go.ChangeShapes Go.WideShapes
section
set_option maxRecDepth 100000
variable {H : Type} {enc : TypeId × Value → H} {w : World} {base : Nat} {spare : Nat → Bool} {held : Bool}
theorem open_attr {b0 : Nat} {v : Value} {d : DataW H} {p : List MemPlace} (hv : Value.okWide Try.prog w .any b0 68 v) (h : DataW.Trod enc Try.prog w base spare held 68 v d p)
    (hw : ∀ x ∈ d.weights Try.prog 68, x ≤ reachBytes) :
    ∃ a : GAttr, v = .agg #[.string a.name, .string a.val] ∧ (a.name.size ≤ reachBytes ∧ a.val.size ≤ reachBytes) := by
  obtain ⟨cs, rfl, _⟩ := okWide_struct Try.underlying68 hv
  obtain ⟨cl⟩ := cs
  obtain ⟨fuel, hf⟩ := h
  have e := attr_of hf
  refine ⟨attrD d, ?_, ?_⟩
  · have e' : cl = [.string (attrD d).name, .string (attrD d).val] := e
    rw [e']
  · cases d with
    | agg pl => exact ⟨weight_str (weight_part Try.underlying68 hw (i := 0) rfl), weight_str (weight_part Try.underlying68 hw (i := 1) rfl)⟩
    | _ => exact ⟨Nat.zero_le _, Nat.zero_le _⟩
end
theorem put_small {l : List GNode} (hs : ∀ n ∈ l, NodeSmall reachBytes n) {q : Nat} (hq : q < l.length) {az : List GAttr} (hl : az.length * 32 ≤ reachBytes) (he : ∀ a ∈ az, a.name.size ≤ reachBytes ∧ a.val.size ≤ reachBytes) : ∀ n ∈ putAttrs l q az, NodeSmall reachBytes n := by
  intro n hn
  rw [putAttrs_at hq] at hn
  rcases List.mem_or_eq_of_mem_set hn with h1 | h1
  · exact hs n h1
  · subst h1
    have h0 := hs _ (List.getElem_mem hq)
    exact ⟨h0.name, h0.text, hl, he, h0.kids⟩
theorem set_facts {l : List GNode} {k : Int} {nm vl : ByteArray} (hs : ∀ n ∈ l, NodeSmall reachBytes n) (hn : nm.size ≤ reachBytes) (hv : vl.size ≤ reachBytes) (h : setE l k nm vl = 0) :
    unE l k = 0 ∧ hasB (setL l k nm vl) k = true ∧ aVal (attrsOf (setL l k nm vl) k) nm.toList = some vl ∧ ∀ n ∈ setL l k nm vl, NodeSmall reachBytes n := by
  unfold setE at h
  by_cases h1 : hasB l k = false
  · rw [if_pos h1] at h; omega
  rw [if_neg h1] at h
  by_cases h2 : (nameOf l k).isEmpty = true
  · rw [if_pos h2] at h; omega
  rw [if_neg h2] at h
  by_cases h3 : nameB nm.toList = false
  · rw [if_pos h3] at h; omega
  rw [if_neg h3] at h
  by_cases h4 : 4000 < vl.size
  · rw [if_pos h4] at h; omega
  rw [if_neg h4] at h
  by_cases h5 : fnd (attrsOf l k) nm.toList < 0 ∧ (attrsOf l k).length = 40
  · rw [if_pos h5] at h; omega
  have hh : hasB l k = true := by simpa using h1
  obtain ⟨hi, hr⟩ := hasB_iff.1 hh
  obtain ⟨q, rfl, hq⟩ := is_nat hi
  have hnm : l[q].name.toList.isEmpty = false := by rw [nameOf_at hq] at h2; simpa using h2
  obtain ⟨hP, hl40⟩ := one_attrs hr hq hnm
  rw [attrsOf_at hq] at h5
  have hlen := setA_len (vl := vl) hl40 h5
  have hP' := setA_P hP (by simpa using h3 : nameB nm.toList = true) (by omega : vl.size ≤ 4000)
  have hL : setL l q nm vl = putAttrs l q (setA l[q].attrs nm vl) := by unfold setL; rw [attrsOf_at hq, Int.toNat_natCast]
  rw [hL]
  refine ⟨?_, hasB_yes ⟨by omega, by rw [putAttrs_len]; omega⟩ (right_attrs hr hq hnm hP' hlen), by rw [attrsOf_put hq]; exact setA_val, put_small hs hq (by unfold reachBytes; omega) fun a ha => ?_⟩
  · unfold unE
    rw [if_neg h1, if_neg h2]
  · have hold := (hs _ (List.getElem_mem hq)).each
    by_cases h0 : fnd l[q].attrs nm.toList < 0
    · rw [setA_new h0] at ha
      rcases List.mem_append.1 ha with h6 | h6
      · exact hold a h6
      · rw [List.mem_singleton] at h6; subst h6; exact ⟨hn, hv⟩
    · obtain ⟨j, hj⟩ := Int.eq_ofNat_of_zero_le (Int.not_lt.1 h0)
      obtain ⟨hjl, _⟩ := fnd_is hj
      rw [setA_at hj hjl] at ha
      rcases List.mem_or_eq_of_mem_set ha with h6 | h6
      · exact hold a h6
      · subst h6; exact ⟨(hold _ (List.getElem_mem hjl)).1, hv⟩
theorem un_facts {l : List GNode} {k : Int} {nm : ByteArray} (hs : ∀ n ∈ l, NodeSmall reachBytes n) (h : unE l k = 0) :
    hasB (unL l k nm) k = true ∧ aVal (attrsOf (unL l k nm) k) nm.toList = none ∧ ∀ n ∈ unL l k nm, NodeSmall reachBytes n := by
  unfold unE at h
  by_cases h1 : hasB l k = false
  · rw [if_pos h1] at h; omega
  rw [if_neg h1] at h
  by_cases h2 : (nameOf l k).isEmpty = true
  · rw [if_pos h2] at h; omega
  have hh : hasB l k = true := by simpa using h1
  obtain ⟨hi, hr⟩ := hasB_iff.1 hh
  obtain ⟨q, rfl, hq⟩ := is_nat hi
  have hnm : l[q].name.toList.isEmpty = false := by rw [nameOf_at hq] at h2; simpa using h2
  obtain ⟨hP, hl40⟩ := one_attrs hr hq hnm
  have hlen : (filA l[q].attrs nm.toList).length ≤ l[q].attrs.length := List.length_filter_le _ _
  have hL : unL l q nm = putAttrs l q (filA l[q].attrs nm.toList) := by unfold unL; rw [attrsOf_at hq, Int.toNat_natCast]
  rw [hL]
  exact ⟨hasB_yes ⟨by omega, by rw [putAttrs_len]; omega⟩ (right_attrs hr hq hnm (filA_P hP) (by omega)), by rw [attrsOf_put hq]; exact filA_val, put_small hs hq (by unfold reachBytes; omega) fun a ha => (hs _ (List.getElem_mem hq)).each a (List.mem_filter.1 ha).1⟩
set_option maxRecDepth 100000 in
set_option maxHeartbeats 2000000 in
theorem TreeSets_w (a : Option Addr × List GNode × Nat) (k : Int) (at_ : GAttr) (w : World) (hd : DocIn w a.1 a.2.1) (_hkw : (Lit.int .i64 k).wf = true) (hat : at_.name.size ≤ reachBytes ∧ at_.val.size ≤ reachBytes) :
    Calls Try.prog 14 #[.slice a.1 a.2.1.length a.2.2, .int .i64 k, .agg #[.string at_.name, .string at_.val]] w fun e w' => e = .returned (.bool true) ∧ Below w.heap.size w w' := by
  obtain ⟨A, l, c⟩ := a
  obtain ⟨nm, vl⟩ := at_
  dsimp only at hd hat ⊢
  obtain ⟨hn, hv⟩ := hat
  obtain ⟨h, -, hs, hln⟩ := hd
  have hll : l.length ≤ 4611686018427387904 := by unfold reachBytes at hln; omega
  obtain ⟨E, hE⟩ : ∃ E, E = setE l k nm vl := ⟨_, rfl⟩
  obtain ⟨G, hG⟩ : ∃ G, G = unE l k := ⟨_, rfl⟩
  obtain ⟨L, hL⟩ : ∃ L, L = if E = 0 then setL l k nm vl else [] := ⟨_, rfl⟩
  obtain ⟨M, hM⟩ : ∃ M, M = if G = 0 then unL l k nm else [] := ⟨_, rfl⟩
  have hsL : ∀ n ∈ L, NodeSmall reachBytes n := by
    rw [hL]
    split
    · rename_i e; exact (set_facts hs hn hv (by rw [← hE]; exact e)).2.2.2
    · intro n hm; exact absurd hm List.not_mem_nil
  have hsM : ∀ n ∈ M, NodeSmall reachBytes n := by
    rw [hM]
    split
    · rename_i e; exact (un_facts hs (by rw [← hG]; exact e)).2.2
    · intro n hm; exact absurd hm List.not_mem_nil
  have hLl : L.length ≤ 4611686018427387904 := by
    rw [hL]
    split
    · unfold setL; rw [putAttrs_len]; exact hll
    · simp
  have hMl : M.length ≤ 4611686018427387904 := by
    rw [hM]
    split
    · unfold unL; rw [putAttrs_len]; exact hll
    · simp
  have HE := Lib.hid hE
  have HG := Lib.hid hG
  have HL := Lib.hid hL
  have HM := Lib.hid hM
  have HS := Lib.hid hs
  have HSL := Lib.hid hsL
  have HSM := Lib.hid hsM
  have HN := Lib.hid hn
  have HV := Lib.hid hv
  have hcur : Below w.heap.size w (w.alloc (Obj.cells #[.string nm, .string vl] 68)) := (Below.refl _ _).alloc (Nat.le_refl _) _
  have hbx : ∀ W : World, Below (w.heap.size + 1) (w.alloc (Obj.cells #[.string nm, .string vl] 68)) W → W.cell? ⟨w.heap.size, 0, none⟩ = some (.string nm) ∧ W.cell? ⟨w.heap.size, 1, none⟩ = some (.string vl) := fun W hb => ⟨(hb.cell (p := ⟨w.heap.size, 0, none⟩) (by simp)).trans (by go_simp), (hb.cell (p := ⟨w.heap.size, 1, none⟩) (by simp)).trans (by go_simp)⟩
  have HBX := Lib.hid hbx
  have HBS := Lib.hid (show ∀ W : World, Below (w.heap.size + 1) (w.alloc (Obj.cells #[.string nm, .string vl] 68)) W → w.heap.size + 1 ≤ W.heap.size from fun W hb => Nat.le_trans (by simp) hb.size)
  have hbw : Below (w.heap.size + 1) (w.alloc (Obj.cells #[.string nm, .string vl] 68)) (w.alloc (Obj.cells #[.string nm, .string vl] 68)) := Below.refl _ _
  have mk1 : True := trivial
  have mk2 : True := trivial
  clear hE hG hL hM hs hsL hsM hn hv hbx
  by_cases hz : E = 0
  · have hzE : (E != 0) = false := by simpa using hz
    obtain ⟨q1, q2, q3, -⟩ := set_facts HS.out HN.out HV.out (by rw [← HE.out]; exact hz)
    have hgz : G = 0 := by rw [HG.out]; exact q1
    have hzG : (G != 0) = false := by simpa using hgz
    obtain ⟨p1, p2, -⟩ := un_facts (nm := nm) HS.out q1
    have HA1 := Lib.hid (show (if hasB L k = true then aVal (attrsOf L k) nm.toList else none) = some vl by rw [HL.out, if_pos hz, if_pos q2]; exact q3)
    have HA2 := Lib.hid (show (if hasB M k = true then aVal (attrsOf M k) nm.toList else none) = none by rw [HM.out, if_pos hgz, if_pos p1]; exact p2)
    have mk3 : True := trivial
    clear hz q1 q2 q3 hgz p1 p2
    go_enter Try.func14, Try.ntmps14
    go_wp2_with (first | (go_at_call 22; refine (rCopied_c A c l _ w.heap.size hcur.size HS.out hln (h.below hcur)).mono ?_; rintro e w2 ⟨v, rfl, hdoc, hb2⟩; replace hbw := hbw.trans (hb2.mono (HBS.out _ hbw)); replace hcur := hcur.trans (hb2.mono hcur.size); have hx01 := HBX.out _ hbw; obtain ⟨hx0, hx1⟩ := hx01; obtain ⟨A2, c2, rfl, hn2, -⟩ := hdoc.nodes; have hw2 := Below.refl w2.heap.size w2) | (go_at_call 49; refine (Set_c A2 c2 l k nm vl _ _ (Nat.le_refl _) HS.out hln HN.out HV.out hn2 E HE.out).mono ?_; rintro e w3 ⟨va, rfl, hda, hba⟩; rw [← HL.out] at hda; obtain ⟨Aa, ca, rfl, hnaa, -⟩ := hda.nodes; replace hbw := hbw.trans (hba.mono (HBS.out _ hbw)); replace hcur := hcur.trans (hba.mono hcur.size); replace hw2 := hw2.trans (hba.mono hw2.size); have hx01 := HBX.out _ hbw; obtain ⟨hx0, hx1⟩ := hx01; have hwm := Below.refl w3.heap.size w3) | (go_at_call 50; refine (rSet_c A c l k nm vl _ w.heap.size hcur.size HS.out hln HN.out HV.out (h.below hcur) E HE.out).mono ?_; rintro e w4 ⟨vb, rfl, hdb, hbb⟩; rw [← HL.out] at hdb; obtain ⟨Ab, cb, rfl, hnbb, -⟩ := hdb.nodes; replace hbw := hbw.trans (hbb.mono (HBS.out _ hbw)); replace hcur := hcur.trans (hbb.mono hcur.size); replace hw2 := hw2.trans (hbb.mono hw2.size); replace hwm := hwm.trans (hbb.mono hwm.size); have hx01 := HBX.out _ hbw; obtain ⟨hx0, hx1⟩ := hx01; have hwn := Below.refl w4.heap.size w4) | (go_at_call 27; refine (wakes_c _).mono ?_; rintro e w5 ⟨rfl, hb5⟩; replace hbw := hbw.trans (hb5.mono (HBS.out _ hbw)); replace hcur := hcur.trans (hb5.mono hcur.size); replace hw2 := hw2.trans (hb5.mono hw2.size); replace hwm := hwm.trans (hb5.mono hwm.size); replace hwn := hwn.trans (hb5.mono hwn.size); have hx01 := HBX.out _ hbw; obtain ⟨hx0, hx1⟩ := hx01; clear hb5) | (go_at_call 33; clear mk1; refine (Same_c Aa ca Ab cb L _ _ hLl HSL.out ((hnaa.below hwm).mono hwm.size) ((hnbb.below hwn).mono hwn.size)).mono ?_; rintro e w6 ⟨rfl, hb6⟩; replace hbw := hbw.trans (hb6.mono (HBS.out _ hbw)); replace hcur := hcur.trans (hb6.mono hcur.size); replace hw2 := hw2.trans (hb6.mono hw2.size); replace hwm := hwm.trans (hb6.mono hwm.size); have hx01 := HBX.out _ hbw; obtain ⟨hx0, hx1⟩ := hx01; clear hb6 hwn hnbb) | (go_at_call 33; clear mk2; refine (Same_c A2 c2 A c l _ _ hll HS.out ((hn2.below hw2).mono hw2.size) ((h.below hcur).mono hcur.size)).mono ?_; rintro e w7 ⟨rfl, hb7⟩; replace hbw := hbw.trans (hb7.mono (HBS.out _ hbw)); replace hcur := hcur.trans (hb7.mono hcur.size); replace hw2 := hw2.trans (hb7.mono hw2.size); replace hwm := hwm.trans (hb7.mono hwm.size); have hx01 := HBX.out _ hbw; obtain ⟨hx0, hx1⟩ := hx01; clear hb7) | (go_at_call 51; refine (Unset_c A2 c2 l k nm _ _ hw2.size HS.out hln (hn2.below hw2) G HG.out).mono ?_; rintro e w8 ⟨vx, rfl, hdx, hbx8⟩; rw [← HM.out] at hdx; obtain ⟨Ax, cx, rfl, hnx, -⟩ := hdx.nodes; replace hbw := hbw.trans (hbx8.mono (HBS.out _ hbw)); replace hcur := hcur.trans (hbx8.mono hcur.size); replace hwm := hwm.trans (hbx8.mono hwm.size); have hx01 := HBX.out _ hbw; obtain ⟨hx0, hx1⟩ := hx01; have hwx := Below.refl w8.heap.size w8) | (go_at_call 52; refine (rUnset_c A c l k nm _ w.heap.size hcur.size HS.out hln (h.below hcur) G HG.out).mono ?_; rintro e w9 ⟨vy, rfl, hdy, hby⟩; rw [← HM.out] at hdy; obtain ⟨Ay, cy, rfl, hny, -⟩ := hdy.nodes; replace hbw := hbw.trans (hby.mono (HBS.out _ hbw)); replace hcur := hcur.trans (hby.mono hcur.size); replace hwm := hwm.trans (hby.mono hwm.size); replace hwx := hwx.trans (hby.mono hwx.size); have hx01 := HBX.out _ hbw; obtain ⟨hx0, hx1⟩ := hx01; have hwy := Below.refl w9.heap.size w9) | (go_at_call 33; refine (Same_c Ax cx Ay cy M _ _ hMl HSM.out ((hnx.below hwx).mono hwx.size) ((hny.below hwy).mono hwy.size)).mono ?_; rintro e w10 ⟨rfl, hb10⟩; replace hbw := hbw.trans (hb10.mono (HBS.out _ hbw)); replace hcur := hcur.trans (hb10.mono hcur.size); replace hwm := hwm.trans (hb10.mono hwm.size); replace hwx := hwx.trans (hb10.mono hwx.size); have hx01 := HBX.out _ hbw; obtain ⟨hx0, hx1⟩ := hx01; clear hb10 hwy) | (go_at_call 39; clear mk3; refine (Attr_c Aa ca L k nm _ _ hwm.size HSL.out hLl (hnaa.below hwm)).mono ?_; rw [HA1.out, show aStr (some vl) = vl from rfl, show (some vl).isSome = true from rfl]; rintro e w11 ⟨rfl, hb11⟩; replace hbw := hbw.trans (hb11.mono (HBS.out _ hbw)); replace hcur := hcur.trans (hb11.mono hcur.size); replace hwx := hwx.trans (hb11.mono hwx.size); have hx01 := HBX.out _ hbw; obtain ⟨hx0, hx1⟩ := hx01; clear hb11) | (go_at_call 39; refine (Attr_c Ax cx M k nm _ _ hwx.size HSM.out hMl (hnx.below hwx)).mono ?_; rw [HA2.out, show aStr none = ⟨#[]⟩ from rfl, show (none : Option ByteArray).isSome = false from rfl]; rintro e w12 ⟨rfl, hb12⟩; replace hbw := hbw.trans (hb12.mono (HBS.out _ hbw)); replace hcur := hcur.trans (hb12.mono hcur.size); have hx01 := HBX.out _ hbw; obtain ⟨hx0, hx1⟩ := hx01; clear hb12))
    go_ret
    exact ⟨rfl, hcur⟩
  · have hzE : (E != 0) = true := by simpa using hz
    clear hz
    go_enter Try.func14, Try.ntmps14
    go_wp2_with (first | (go_at_call 22; refine (rCopied_c A c l _ w.heap.size hcur.size HS.out hln (h.below hcur)).mono ?_; rintro e w2 ⟨v, rfl, hdoc, hb2⟩; replace hbw := hbw.trans (hb2.mono (HBS.out _ hbw)); replace hcur := hcur.trans (hb2.mono hcur.size); have hx01 := HBX.out _ hbw; obtain ⟨hx0, hx1⟩ := hx01; obtain ⟨A2, c2, rfl, hn2, -⟩ := hdoc.nodes; have hw2 := Below.refl w2.heap.size w2) | (go_at_call 49; refine (Set_c A2 c2 l k nm vl _ _ (Nat.le_refl _) HS.out hln HN.out HV.out hn2 E HE.out).mono ?_; rintro e w3 ⟨va, rfl, hda, hba⟩; rw [← HL.out] at hda; obtain ⟨Aa, ca, rfl, hnaa, -⟩ := hda.nodes; replace hbw := hbw.trans (hba.mono (HBS.out _ hbw)); replace hcur := hcur.trans (hba.mono hcur.size); replace hw2 := hw2.trans (hba.mono hw2.size); have hx01 := HBX.out _ hbw; obtain ⟨hx0, hx1⟩ := hx01; have hwm := Below.refl w3.heap.size w3) | (go_at_call 50; refine (rSet_c A c l k nm vl _ w.heap.size hcur.size HS.out hln HN.out HV.out (h.below hcur) E HE.out).mono ?_; rintro e w4 ⟨vb, rfl, hdb, hbb⟩; rw [← HL.out] at hdb; obtain ⟨Ab, cb, rfl, hnbb, -⟩ := hdb.nodes; replace hbw := hbw.trans (hbb.mono (HBS.out _ hbw)); replace hcur := hcur.trans (hbb.mono hcur.size); replace hw2 := hw2.trans (hbb.mono hw2.size); replace hwm := hwm.trans (hbb.mono hwm.size); have hx01 := HBX.out _ hbw; obtain ⟨hx0, hx1⟩ := hx01; have hwn := Below.refl w4.heap.size w4) | (go_at_call 27; refine (wakes_c _).mono ?_; rintro e w5 ⟨rfl, hb5⟩; replace hbw := hbw.trans (hb5.mono (HBS.out _ hbw)); replace hcur := hcur.trans (hb5.mono hcur.size); replace hw2 := hw2.trans (hb5.mono hw2.size); replace hwm := hwm.trans (hb5.mono hwm.size); replace hwn := hwn.trans (hb5.mono hwn.size); have hx01 := HBX.out _ hbw; obtain ⟨hx0, hx1⟩ := hx01; clear hb5) | (go_at_call 33; clear mk1; refine (Same_c Aa ca Ab cb L _ _ hLl HSL.out ((hnaa.below hwm).mono hwm.size) ((hnbb.below hwn).mono hwn.size)).mono ?_; rintro e w6 ⟨rfl, hb6⟩; replace hbw := hbw.trans (hb6.mono (HBS.out _ hbw)); replace hcur := hcur.trans (hb6.mono hcur.size); replace hw2 := hw2.trans (hb6.mono hw2.size); replace hwm := hwm.trans (hb6.mono hwm.size); have hx01 := HBX.out _ hbw; obtain ⟨hx0, hx1⟩ := hx01; clear hb6 hwn hnbb) | (go_at_call 33; clear mk2; refine (Same_c A2 c2 A c l _ _ hll HS.out ((hn2.below hw2).mono hw2.size) ((h.below hcur).mono hcur.size)).mono ?_; rintro e w7 ⟨rfl, hb7⟩; replace hbw := hbw.trans (hb7.mono (HBS.out _ hbw)); replace hcur := hcur.trans (hb7.mono hcur.size); replace hw2 := hw2.trans (hb7.mono hw2.size); replace hwm := hwm.trans (hb7.mono hwm.size); have hx01 := HBX.out _ hbw; obtain ⟨hx0, hx1⟩ := hx01; clear hb7) | (go_at_call 51; refine (Unset_c A2 c2 l k nm _ _ hw2.size HS.out hln (hn2.below hw2) G HG.out).mono ?_; rintro e w8 ⟨vx, rfl, hdx, hbx8⟩; rw [← HM.out] at hdx; obtain ⟨Ax, cx, rfl, hnx, -⟩ := hdx.nodes; replace hbw := hbw.trans (hbx8.mono (HBS.out _ hbw)); replace hcur := hcur.trans (hbx8.mono hcur.size); replace hwm := hwm.trans (hbx8.mono hwm.size); have hx01 := HBX.out _ hbw; obtain ⟨hx0, hx1⟩ := hx01; have hwx := Below.refl w8.heap.size w8) | (go_at_call 52; refine (rUnset_c A c l k nm _ w.heap.size hcur.size HS.out hln (h.below hcur) G HG.out).mono ?_; rintro e w9 ⟨vy, rfl, hdy, hby⟩; rw [← HM.out] at hdy; obtain ⟨Ay, cy, rfl, hny, -⟩ := hdy.nodes; replace hbw := hbw.trans (hby.mono (HBS.out _ hbw)); replace hcur := hcur.trans (hby.mono hcur.size); replace hwm := hwm.trans (hby.mono hwm.size); replace hwx := hwx.trans (hby.mono hwx.size); have hx01 := HBX.out _ hbw; obtain ⟨hx0, hx1⟩ := hx01; have hwy := Below.refl w9.heap.size w9) | (go_at_call 33; refine (Same_c Ax cx Ay cy M _ _ hMl HSM.out ((hnx.below hwx).mono hwx.size) ((hny.below hwy).mono hwy.size)).mono ?_; rintro e w10 ⟨rfl, hb10⟩; replace hbw := hbw.trans (hb10.mono (HBS.out _ hbw)); replace hcur := hcur.trans (hb10.mono hcur.size); replace hwm := hwm.trans (hb10.mono hwm.size); replace hwx := hwx.trans (hb10.mono hwx.size); have hx01 := HBX.out _ hbw; obtain ⟨hx0, hx1⟩ := hx01; clear hb10 hwy))
    go_ret
    exact ⟨rfl, hcur⟩
end Go.Proofs.Ytpgcaehbbdnhiaa

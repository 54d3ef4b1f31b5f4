/- Contract of the reference's kind of a node; and of the laws' example. -/
import Derived.Test.YtjpoliagicceaaaK5
import Derived.Deep.DeepCutAuto
namespace Go.Proofs.Ytjpoliagicceaaa
open Go.RowKit
theorem typeOf_tn (k : Nat) (h : k < 22) : typeOf ((k : Int) + 1) = tn k := by
  unfold typeOf
  rw [if_pos (by omega)]
  congr 1
  omega
theorem kOut_is (nm : List UInt8) : kOut nm = if nm == [111, 117, 116, 112, 117, 116] then 28 else if nm == [102, 105, 101, 108, 100, 115, 101, 116] then 29 else if nm == [102, 111, 114, 109] then 30 else if nm == [108, 97, 98, 101, 108] then 31 else if nm == [111, 112, 116, 105, 111, 110] then 32 else if nm == [111, 112, 116, 103, 114, 111, 117, 112] then 33 else if nm == [108, 101, 103, 101, 110, 100] then 34 else if nm == [100, 97, 116, 97, 108, 105, 115, 116] then 35 else 0 := by
  have e : ∀ l : List UInt8, (l == nm) = (nm == l) := fun l => by rw [Bool.eq_iff_iff, beq_iff_eq, beq_iff_eq]; exact ⟨Eq.symm, Eq.symm⟩
  unfold kOut place outL
  simp only [List.findIdx?_cons, List.findIdx?_nil, ba_list, e]
  clear e
  repeat' split
  all_goals simp_all
  all_goals omega

set_option maxHeartbeats 1000000 in
theorem rOf_c (n t : ByteArray) (A : Option Addr) (c : Nat) (l : List GAttr) (p : Int) (K : Option Addr) (kn kc : Nat) (w : World) (B : Nat) (hB : B ≤ w.heap.size) (hl : l.length ≤ 4611686018427387904) (hv : ∀ a ∈ l, a.val.size ≤ reachBytes) (h : AttrsAt w B A l) :
    Calls Try.prog 10 #[.agg #[.string n, .string t, .slice A l.length c, .int .i64 p, .slice K kn kc]] w
      fun e w' => e = .returned (.int .i64 (kindOf n.toList (lowL (attrV l [116, 121, 112, 101])))) ∧ Below w.heap.size w w' := by
  have hw2 : AttrsAt (w.alloc (Obj.cells #[.string n, .string t, .slice A l.length c, .int .i64 p, .slice K kn kc] 25)) B A l :=
    h.below (((Below.refl w.heap.size w).alloc (Nat.le_refl _) _).mono hB)
  have hbel : Below w.heap.size w (w.alloc (Obj.cells #[.string n, .string t, .slice A l.length c, .int .i64 p, .slice K kn kc] 25)) :=
    (Below.refl w.heap.size w).alloc (Nat.le_refl _) _
  have hcm : (w.alloc (Obj.cells #[.string n, .string t, .slice A l.length c, .int .i64 p, .slice K kn kc] 25)).cell? ⟨w.heap.size, 0, none⟩ = some (.string n) := by go_simp
  have hcs : (w.alloc (Obj.cells #[.string n, .string t, .slice A l.length c, .int .i64 p, .slice K kn kc] 25)).cell? ⟨w.heap.size, 2, none⟩ = some (.slice A l.length c) := by go_simp
  have hsz : w.heap.size < (w.alloc (Obj.cells #[.string n, .string t, .slice A l.length c, .int .i64 p, .slice K kn kc] 25)).heap.size := by simp
  go_enter Try.func10, Try.ntmps10
  go_wp2_with fail
  refine (rFind_c A c l ⟨#[116, 121, 112, 101]⟩ _ B hl hw2).mono ?_
  rintro e w' ⟨rfl, rfl⟩
  rw [show (⟨#[116, 121, 112, 101]⟩ : ByteArray).toList = [116, 121, 112, 101] from ba_list _]
  have hbd := fnd_bd l [116, 121, 112, 101]
  have hbd0 := hbd.1
  have hbd1 := hbd.2
  generalize hf : fnd l [116, 121, 112, 101] = f at hbd0 hbd1 ⊢
  have HFN := Lib.hid hf
  clear hbd hf
  go_upto_if 10 with (fail)
  go_cut [4] (fun v wx => ∃ r : ByteArray, v = .string r ∧ r.toList = lowL (attrV l [116, 121, 112, 101]) ∧ Below w.heap.size w wx ∧ w.heap.size < wx.heap.size ∧ wx.cell? ⟨w.heap.size, 0, none⟩ = some (.string n))
  case first =>
    by_cases h0 : f < 0
    · have hr : (⟨#[]⟩ : ByteArray).toList = lowL (attrV l [116, 121, 112, 101]) := by rw [attrV_none (by rw [HFN.out]; exact h0), ba_nil]; rfl
      have HR := Lib.hid hr
      clear hr
      go_wp2_with fail
      go_meet
      exact ⟨_, rfl, HR.out, hbel, hsz, hcm⟩
    · obtain ⟨k, rfl⟩ := Int.eq_ofNat_of_zero_le (Int.not_lt.1 h0)
      obtain ⟨hkl, hvk⟩ := attrV_at HFN.out
      obtain ⟨b, o, rfl, hb, hc1, hc2⟩ := hw2.at_ hkl
      have hle := hv _ (List.getElem_mem hkl)
      have HV := Lib.hid hvk
      clear hvk
      go_wp2_with (go_at_call 29; refine (rLower_c _ _ hle).mono ?_; rintro e w2 ⟨⟨r, rfl, hr⟩, hb2⟩)
      go_meet
      exact ⟨_, rfl, by rw [hr, HV.out], hbel.trans (hb2.mono (Nat.le_of_lt hsz)), Nat.lt_of_lt_of_le hsz hb2.size, (hb2.cell (p := ⟨w.heap.size, 0, none⟩) hsz).trans hcm⟩
  case rest =>
    obtain ⟨r, rfl, hr, hbw2, hs2, hc2⟩ := hcut
    clear hw2 hbel hcm hcs hsz
    have hfin : kindOf n.toList (lowL (attrV l [116, 121, 112, 101])) = kindOf n.toList r.toList := by rw [hr]
    have HF := Lib.hid hfin
    clear hr hfin
    by_cases n1 : (n.toList == [105, 110, 112, 117, 116]) = true
    · have HK := Lib.hid (show kindOf n.toList r.toList = kInput r.toList by unfold kindOf; rw [if_pos n1])
      go_wp2_with fail
      go_loop [5] (fun i => ∃ k : Nat, k ≤ 22 ∧ i = .int .i64 ((k : Int) + 1) ∧ ∀ j, j < k → ((tn j).toList == r.toList) = false) (fun i => 23 - (intOf i).toNat)
      case atStart => exact ⟨0, by omega, rfl, fun j hj => by omega⟩
      case round =>
        obtain ⟨k, hk, rfl, hn⟩ := hrel
        have HN := Lib.hid hn
        clear hn
        by_cases hlt : k < 22
        · have HT := Lib.hid (typeOf_tn k hlt)
          by_cases hm : ((tn k).toList == r.toList) = true
          · have HV := Lib.hid (kInput_at hlt HN.out hm)
            go_wp2_with (go_at_call 24; refine (rType_c _ _).mono ?_; rintro e w' ⟨rfl, rfl⟩; rw [HT.out])
            go_ret
            exact ⟨ret_int (by rw [HF.out, HK.out, HV.out]), hbw2⟩
          · have hm' : ((tn k).toList == r.toList) = false := by simpa using hm
            clear hm
            have HM := Lib.hid hm'
            go_wp2_with (go_at_call 24; refine (rType_c _ _).mono ?_; rintro e w' ⟨rfl, rfl⟩; rw [HT.out])
            go_round
            case rel => exact ⟨k + 1, by omega, by go_num, fun j hj => by
              by_cases e : j = k
              · subst e; exact HM.out
              · exact HN.out j (by omega)⟩
            case measure => simp [intOf]; omega
        · obtain rfl : k = 22 := by omega
          have HV := Lib.hid (kInput_none HN.out)
          go_wp2_with fail
          go_ret
          exact ⟨ret_int (by rw [HF.out, HK.out, HV.out]), hbw2⟩
    · have n1' : (n.toList == [105, 110, 112, 117, 116]) = false := by simpa using n1
      by_cases n2 : (n.toList == [98, 117, 116, 116, 111, 110]) = true
      · have HK := Lib.hid (show kindOf n.toList r.toList = kButton r.toList by unfold kindOf; rw [if_neg n1, if_pos n2])
        clear n1
        go_wp2_with fail
        all_goals
          go_ret
          refine ⟨ret_int ?_, hbw2⟩
          rw [HF.out, HK.out]
          simp_all [kButton]
      · have n2' : (n.toList == [98, 117, 116, 116, 111, 110]) = false := by simpa using n2
        clear n1 n2
        go_wp2_with fail
        all_goals
          go_ret
          refine ⟨ret_int ?_, hbw2⟩
          rw [HF.out]
          unfold kindOf
          rw [kOut_is]
          simp_all

end Go.Proofs.Ytjpoliagicceaaa

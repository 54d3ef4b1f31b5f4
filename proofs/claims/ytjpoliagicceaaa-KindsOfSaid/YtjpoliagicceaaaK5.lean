/- Contracts of the kind of a node, of both texts. -/
import Derived.Test.YtjpoliagicceaaaK4
namespace Go.Proofs.Ytjpoliagicceaaa
open Go.RowKit

theorem attrV_len {l : List GAttr} {m : List UInt8} (hv : ∀ a ∈ l, a.val.size ≤ reachBytes) : (attrV l m).length ≤ reachBytes := by
  unfold attrV
  split
  · rename_i i e
    obtain ⟨hi, _⟩ := List.findIdx?_eq_some_iff_getElem.1 e
    simp only [List.getElem?_eq_getElem hi, Option.map_some, Option.getD_some]
    rw [ba_len]
    exact hv _ (List.getElem_mem hi)
  · simp
theorem kInput_at {ty : List UInt8} {k : Nat} (hk : k < 22) (h : ∀ j, j < k → ((tn j).toList == ty) = false) (hm : ((tn k).toList == ty) = true) : kInput ty = (k : Int) + 1 := by
  unfold kInput; rw [place_some (l := tyL) hk h hm]
theorem kInput_none {ty : List UInt8} (h : ∀ j, j < 22 → ((tn j).toList == ty) = false) : kInput ty = 2 := by
  unfold kInput; rw [place_none (l := tyL) h]
theorem kOut_at {nm : List UInt8} {k : Nat} (hk : k < 8) (h : ∀ j, j < k → ((on j).toList == nm) = false) (hm : ((on k).toList == nm) = true) : kOut nm = 28 + (k : Int) := by
  unfold kOut; rw [place_some (l := outL) hk h hm]
theorem kOut_none {nm : List UInt8} (h : ∀ j, j < 8 → ((on j).toList == nm) = false) : kOut nm = 0 := by
  unfold kOut; rw [place_none (l := outL) h]

set_option maxHeartbeats 1000000 in
theorem Of_c (n t : ByteArray) (A : Option Addr) (c : Nat) (l : List GAttr) (p : Int) (K : Option Addr) (kn kc : Nat) (w : World) (B : Nat) (hB : B ≤ w.heap.size) (hl : l.length ≤ 4611686018427387904) (hv : ∀ a ∈ l, a.val.size ≤ reachBytes) (h : AttrsAt w B A l) :
    Calls Try.prog 9 #[.agg #[.string n, .string t, .slice A l.length c, .int .i64 p, .slice K kn kc]] w
      fun e w' => e = .returned (.int .i64 (kindOf n.toList (lowL (attrV l [116, 121, 112, 101])))) ∧ Below w.heap.size w w' := by
  have hw2 : AttrsAt (w.alloc (Obj.cells #[.string n, .string t, .slice A l.length c, .int .i64 p, .slice K kn kc] 25)) B A l :=
    h.below (((Below.refl w.heap.size w).alloc (Nat.le_refl _) _).mono hB)
  have hbel : Below w.heap.size w (w.alloc (Obj.cells #[.string n, .string t, .slice A l.length c, .int .i64 p, .slice K kn kc] 25)) :=
    (Below.refl w.heap.size w).alloc (Nat.le_refl _) _
  have hcm : (w.alloc (Obj.cells #[.string n, .string t, .slice A l.length c, .int .i64 p, .slice K kn kc] 25)).cell? ⟨w.heap.size, 0, none⟩ = some (.string n) := by go_simp
  have hsz : w.heap.size < (w.alloc (Obj.cells #[.string n, .string t, .slice A l.length c, .int .i64 p, .slice K kn kc] 25)).heap.size := by simp
  go_enter Try.func9, Try.ntmps9
  go_wp2_with fail
  refine (attr_c n t ⟨#[116, 121, 112, 101]⟩ A c l p K kn kc _ B (by simp; omega) hl hw2).mono ?_
  rintro e w1 ⟨⟨s, rfl, hs⟩, hb1⟩
  have hc1 := (hb1.cell (p := ⟨w.heap.size, 0, none⟩) hsz).trans hcm
  have hbw1 := hbel.trans (hb1.mono (Nat.le_of_lt hsz))
  have hsl : s.size ≤ reachBytes := by rw [← ba_len, hs]; exact attrV_len hv
  have hs1 : w.heap.size < w1.heap.size := Nat.lt_of_lt_of_le hsz hb1.size
  have HS := Lib.hid hs
  clear hw2 hbel hcm hsz hb1 hs h
  go_wp2_with fail
  refine (Lower_c s _ hsl).mono ?_
  rintro e w2 ⟨⟨r, rfl, hr⟩, hb2⟩
  have hc2 := (hb2.cell (p := ⟨w.heap.size, 0, none⟩) hs1).trans hc1
  have hbw2 := hbw1.trans (hb2.mono (Nat.le_of_lt hs1))
  have hs2 : w.heap.size < w2.heap.size := Nat.lt_of_lt_of_le hs1 hb2.size
  have hfin : kindOf n.toList (lowL (attrV l [116, 121, 112, 101])) = kindOf n.toList r.toList := by rw [hr, HS.out, ba_list ⟨#[116, 121, 112, 101]⟩]
  have HF := Lib.hid hfin
  clear hc1 hbw1 hsl hs1 HS hr hb2 hfin
  by_cases n1 : (n.toList == [105, 110, 112, 117, 116]) = true
  · have HK := Lib.hid (show kindOf n.toList r.toList = kInput r.toList by unfold kindOf; rw [if_pos n1])
    go_wp2_with (go_at_call 27; refine (types_c _).mono ?_; rintro e w3 ⟨rfl, hb3⟩)
    have hbw3 := hbw2.trans (hb3.mono (Nat.le_of_lt hs2))
    go_loop [16] (fun i => ∃ k : Nat, k ≤ 22 ∧ i = .int .i64 k ∧ ∀ j, j < k → ((tn j).toList == r.toList) = false) (fun i => 22 - (intOf i).toNat)
    case atStart => exact ⟨0, by omega, rfl, fun j hj => by omega⟩
    case round =>
      obtain ⟨k, hk, rfl, hn⟩ := hrel
      have HN := Lib.hid hn
      clear hn
      by_cases hlt : k < 22
      · have hx := fun w => tyIdx k hlt w
        by_cases hm : ((tn k).toList == r.toList) = true
        · have HV := Lib.hid (kInput_at hlt HN.out hm)
          go_wp2_with fail
          go_ret
          exact ⟨ret_int (by rw [HF.out, HK.out, HV.out]), hbw3⟩
        · have hm' : ((tn k).toList == r.toList) = false := by simpa using hm
          clear hm
          have HM := Lib.hid hm'
          go_wp2_with fail
          go_round
          case rel => exact ⟨k + 1, by omega, by go_num, fun j hj => by
            by_cases e : j = k
            · subst e; exact HM.out
            · exact HN.out j (by omega)⟩
          case measure => simp [intOf]; omega
      · obtain rfl : k = 22 := by omega
        have HV := Lib.hid (kInput_none HN.out)
        go_wp2_with fail
        go_ret
        exact ⟨ret_int (by rw [HF.out, HK.out, HV.out]), hbw3⟩
  · have n1' : (n.toList == [105, 110, 112, 117, 116]) = false := by simpa using n1
    by_cases n2 : (n.toList == [98, 117, 116, 116, 111, 110]) = true
    · have HK := Lib.hid (show kindOf n.toList r.toList = kButton r.toList by unfold kindOf; rw [if_neg n1, if_pos n2])
      clear n1
      go_wp2_with fail
      all_goals
        go_ret
        refine ⟨ret_int ?_, hbw2⟩
        rw [HF.out, HK.out]
        simp_all [kButton]
    · have n2' : (n.toList == [98, 117, 116, 116, 111, 110]) = false := by simpa using n2
      by_cases n3 : (n.toList == [115, 101, 108, 101, 99, 116]) = true
      · have HK := Lib.hid (show kindOf n.toList r.toList = 23 by unfold kindOf; rw [if_neg n1, if_neg n2, if_pos n3])
        clear n1 n2
        go_wp2_with fail
        go_ret
        exact ⟨ret_int (by rw [HF.out, HK.out]), hbw2⟩
      · have n3' : (n.toList == [115, 101, 108, 101, 99, 116]) = false := by simpa using n3
        by_cases n4 : (n.toList == [116, 101, 120, 116, 97, 114, 101, 97]) = true
        · have HK := Lib.hid (show kindOf n.toList r.toList = 24 by unfold kindOf; rw [if_neg n1, if_neg n2, if_neg n3, if_pos n4])
          clear n1 n2 n3
          go_wp2_with fail
          go_ret
          exact ⟨ret_int (by rw [HF.out, HK.out]), hbw2⟩
        · have n4' : (n.toList == [116, 101, 120, 116, 97, 114, 101, 97]) = false := by simpa using n4
          have HK := Lib.hid (show kindOf n.toList r.toList = kOut n.toList by unfold kindOf; rw [if_neg n1, if_neg n2, if_neg n3, if_neg n4])
          clear n1 n2 n3 n4
          go_wp2_with fail
          go_loop [38] (fun i => ∃ k : Nat, k ≤ 8 ∧ i = .int .i64 k ∧ ∀ j, j < k → ((on j).toList == n.toList) = false) (fun i => 8 - (intOf i).toNat)
          case atStart => exact ⟨0, by omega, rfl, fun j hj => by omega⟩
          case round =>
            obtain ⟨k, hk, rfl, hn⟩ := hrel
            have HN := Lib.hid hn
            clear hn
            by_cases hlt : k < 8
            · have hx := fun w => outIdx k hlt w
              by_cases hm : ((on k).toList == n.toList) = true
              · have HV := Lib.hid (kOut_at hlt HN.out hm)
                go_wp2_with fail
                go_ret
                exact ⟨ret_int (by rw [HF.out, HK.out, HV.out]), hbw2⟩
              · have hm' : ((on k).toList == n.toList) = false := by simpa using hm
                clear hm
                have HM := Lib.hid hm'
                go_wp2_with fail
                go_round
                case rel => exact ⟨k + 1, by omega, by go_num, fun j hj => by
                  by_cases e : j = k
                  · subst e; exact HM.out
                  · exact HN.out j (by omega)⟩
                case measure => simp [intOf]; omega
            · obtain rfl : k = 8 := by omega
              have HV := Lib.hid (kOut_none HN.out)
              go_wp2_with fail
              go_ret
              exact ⟨ret_int (by rw [HF.out, HK.out, HV.out]), hbw2⟩
end Go.Proofs.Ytjpoliagicceaaa

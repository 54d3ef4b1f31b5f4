/- A node by itself: alone of the document. -/
import Derived.Test.YtpgcaehbbdnhiaaT3
namespace Go.Proofs.Ytpgcaehbbdnhiaa
open Go.RowKit
set_option maxHeartbeats 2000000 in
theorem alone_c (n : GNode) (A : Option Addr) (ac : Nat) (K : Option Addr) (kc : Nat) (w : World) (B : Nat) (hB : B ≤ w.heap.size) (hs : NodeSmall reachBytes n) (hA : AttrsAt w B A n.attrs) (_hac : n.attrs.length ≤ ac) :
    Calls Try.prog 60 #[.agg #[.string n.name, .string n.text, .slice A n.attrs.length ac, .int .i64 n.parent, .slice K n.kids.length kc]] w fun e w' => e = .returned (.bool (oneB n)) ∧ Below w.heap.size w w' := by
  have hl : n.attrs.length ≤ 4611686018427387904 := by have := hs.attrs; unfold reachBytes at this; omega
  have hkl : n.kids.length ≤ 4611686018427387904 := by have := hs.kids; unfold reachBytes at this; omega
  have htl : n.text.size ≤ 4611686018427387904 := by have := hs.text; unfold reachBytes at this; omega
  have hvl : ∀ i (_ : i < n.attrs.length), n.attrs[i].val.size ≤ 4611686018427387904 := fun i hi => by have := (hs.each _ (List.getElem_mem hi)).2; unfold reachBytes at this; omega
  have hnl : n.name.size ≤ reachBytes := hs.name
  have hnl' : n.name.size ≤ 4611686018427387904 := by have := hnl; unfold reachBytes at this; omega
  have hnms : ∀ i (_ : i < n.attrs.length), n.attrs[i].name.size ≤ reachBytes := fun i hi => (hs.each _ (List.getElem_mem hi)).1
  have hO : OneP n ↔ OneP n := Iff.rfl
  conv at hO => rhs; unfold OneP
  have HO := Lib.hid hO
  clear hO hs
  by_cases he : n.name.toList.isEmpty = true
  · have HE := Lib.hid he
    have hn0 : n.name.size = 0 := (ba_empty _).1 he
    clear he
    by_cases h1 : n.attrs.length = 0
    · by_cases h2 : n.kids.length = 0
      · by_cases h3 : n.text.size ≤ 4000
        · have HR := Lib.hid (oneB_yes (HO.out.2 (by rw [if_pos HE.out]; exact ⟨h1, h2, h3⟩)))
          have h3' : (n.text.size : Int) ≤ 4000 := by omega
          go_enter Try.func60, Try.ntmps60
          go_wp2_with fail
          go_ret
          exact ⟨ret_bool HR.out.symm, (Below.refl _ _).alloc (Nat.le_refl _) _⟩
        · have HR := Lib.hid (oneB_no fun h => by have := HO.out.1 h; rw [if_pos HE.out] at this; omega)
          have h3' : decide ((n.text.size : Int) ≤ 4000) = false := decide_eq_false (by omega)
          go_enter Try.func60, Try.ntmps60
          go_wp2_with fail
          go_ret
          exact ⟨ret_bool HR.out.symm, (Below.refl _ _).alloc (Nat.le_refl _) _⟩
      · have HR := Lib.hid (oneB_no fun h => by have := HO.out.1 h; rw [if_pos HE.out] at this; exact h2 this.2.1)
        have h2' : ((n.kids.length : Int) == 0) = false := by rw [beq_eq_false_iff_ne]; omega
        go_enter Try.func60, Try.ntmps60
        go_wp2_with fail
        go_ret
        exact ⟨ret_bool HR.out.symm, (Below.refl _ _).alloc (Nat.le_refl _) _⟩
    · have HR := Lib.hid (oneB_no fun h => by have := HO.out.1 h; rw [if_pos HE.out] at this; exact h1 this.1)
      have h1' : ((n.attrs.length : Int) == 0) = false := by rw [beq_eq_false_iff_ne]; omega
      go_enter Try.func60, Try.ntmps60
      go_wp2_with fail
      go_ret
      exact ⟨ret_bool HR.out.symm, (Below.refl _ _).alloc (Nat.le_refl _) _⟩
  · have he' : n.name.toList.isEmpty = false := by simpa using he
    have HE := Lib.hid he
    have hn0 : ((n.name.size : Int) == 0) = false := by rw [beq_eq_false_iff_ne]; intro e; exact he ((ba_empty _).2 (by omega))
    clear he he'
    by_cases h1 : nameB n.name.toList = true
    · by_cases h2 : n.text.size = 0
      · by_cases h3 : n.attrs.length ≤ 40
        · have h3' : decide (40 < (n.attrs.length : Int)) = false := decide_eq_false (by omega)
          have HH := Lib.hid (And.intro h1 (And.intro h2 h3))
          go_enter Try.func60, Try.ntmps60
          go_wp2_with (go_at_call 74; refine (rName_c n.name _ hnl).mono ?_; rintro e w' ⟨rfl, rfl⟩)
          go_loopw [3] (fun i wr => Below (w.heap.size + 1) (w.alloc (Obj.cells #[.string n.name, .string n.text, .slice A n.attrs.length ac, .int .i64 n.parent, .slice K n.kids.length kc] 46)) wr ∧ ∃ k : Nat, k ≤ n.attrs.length ∧ i = .int .i64 k ∧ ∀ j, j < k → AttrOk n.attrs j) (fun i _ => n.attrs.length - (intOf i).toNat)
          case atStart => exact ⟨Below.refl _ _, 0, by omega, rfl, fun j hj => by omega⟩
          case round =>
            obtain ⟨hbel, k, hk, rfl, hn⟩ := hrel
            have hbw : Below w.heap.size w wr := ((Below.refl w.heap.size w).alloc (Nat.le_refl _) _).trans (hbel.mono (by omega))
            have hx2 : wr.cell? ⟨w.heap.size, 2, none⟩ = some (.slice A n.attrs.length ac) := (hbel.cell (p := ⟨w.heap.size, 2, none⟩) (by simp)).trans (by go_simp)
            have hz : w.heap.size < wr.heap.size := Nat.lt_of_lt_of_le (by simp) hbel.size
            have HN := Lib.hid hn
            clear hn
            by_cases hlt : k < n.attrs.length
            · have hAr := (hA.below (hbw.mono hB))
              have hAr2 := hAr
              obtain ⟨ab, o, rfl, hab, hc1, hc2⟩ := hAr2.at_ hlt
              have hv := hvl k hlt
              have hnm := hnms k hlt
              have HF := Lib.hid (fnd_first hlt)
              generalize hva : n.attrs[k].val = v at hc2 hv
              generalize hna : n.attrs[k].name = nm at hc1 HF hnm
              have HV := Lib.hid hva
              have HM := Lib.hid hna
              clear hva hna
              by_cases g1 : nameB nm.toList = true
              · by_cases g2 : v.size ≤ 4000
                · have g2' : decide (4000 < (v.size : Int)) = false := decide_eq_false (by omega)
                  by_cases g3 : fnd n.attrs nm.toList = k
                  · have g3' : (fnd n.attrs nm.toList != (k : Int)) = false := by rw [g3]; simp
                    have HR := Lib.hid (show AttrOk n.attrs k from ⟨hlt, by rw [HM.out]; exact g1, by rw [HV.out]; exact g2, by rw [HM.out]; exact HF.out.1 g3⟩)
                    clear g3
                    go_wp2_with fail
                    go_quiet (first | (go_at_call 74; exact quiet_of_eq (rName_c _ _ hnm)) | (go_at_call 75; exact quiet_of_eq (rFind_c _ _ n.attrs nm _ B hl (hAr.below (Below.drewN_ (Below.refl _ _) _)))))
                    go_wp2_with fail
                    go_roundw
                    case rel => exact ⟨Below.drewN_ hbel _, k + 1, by omega, by go_num, fun j hj => by
                        by_cases e : j = k
                        · subst e; exact HR.out
                        · exact HN.out j (by omega)⟩
                    case measure => simp [intOf]; omega
                  · have g3' : (fnd n.attrs nm.toList != (k : Int)) = true := by simp; exact g3
                    have HR := Lib.hid (oneB_no fun h => by have := HO.out.1 h; rw [if_neg HE.out] at this; obtain ⟨h', a, b, c⟩ := this.2.2.2 k hlt; rw [HM.out] at c; exact g3 (HF.out.2 c))
                    clear g3
                    go_wp2_with fail
                    go_quiet (first | (go_at_call 74; exact quiet_of_eq (rName_c _ _ hnm)) | (go_at_call 75; exact quiet_of_eq (rFind_c _ _ n.attrs nm _ B hl (hAr.below (Below.drewN_ (Below.refl _ _) _)))))
                    go_wp2_with fail
                    go_ret
                    exact ⟨ret_bool HR.out.symm, Below.drewN_ hbw _⟩
                · have g2' : (4000 : Int) < (v.size : Int) := by omega
                  have HR := Lib.hid (oneB_no fun h => by have := HO.out.1 h; rw [if_neg HE.out] at this; obtain ⟨h', a, b, c⟩ := this.2.2.2 k hlt; rw [HV.out] at b; exact g2 b)
                  clear g2
                  go_wp2_with fail
                  go_quiet ((go_at_call 74; exact quiet_of_eq (rName_c _ _ hnm)))
                  go_wp2_with fail
                  go_ret
                  exact ⟨ret_bool HR.out.symm, Below.drewN_ hbw _⟩
              · have g1' : nameB nm.toList = false := by simpa using g1
                have HR := Lib.hid (oneB_no fun h => by have := HO.out.1 h; rw [if_neg HE.out] at this; obtain ⟨h', a, b, c⟩ := this.2.2.2 k hlt; rw [HM.out] at a; exact g1 a)
                clear g1
                go_wp2_with fail
                go_quiet ((go_at_call 74; exact quiet_of_eq (rName_c _ _ hnm)))
                go_wp2_with fail
                go_ret
                exact ⟨ret_bool HR.out.symm, Below.drewN_ hbw _⟩
            · have HR := Lib.hid (oneB_yes (HO.out.2 (by rw [if_neg HE.out]; exact ⟨HH.out.1, HH.out.2.1, HH.out.2.2, fun j hj => HN.out j (by omega)⟩)))
              go_wp2_with fail
              go_ret
              exact ⟨ret_bool HR.out.symm, hbw⟩
        · have h3' : (40 : Int) < (n.attrs.length : Int) := by omega
          have HR := Lib.hid (oneB_no fun h => by have := HO.out.1 h; rw [if_neg HE.out] at this; exact h3 this.2.2.1)
          go_enter Try.func60, Try.ntmps60
          go_wp2_with (go_at_call 74; refine (rName_c n.name _ hnl).mono ?_; rintro e w' ⟨rfl, rfl⟩)
          go_ret
          exact ⟨ret_bool HR.out.symm, (Below.refl _ _).alloc (Nat.le_refl _) _⟩
      · have h2' : ¬ n.text = ByteArray.empty := by intro e; rw [e] at h2; exact h2 rfl
        have h2'' : (0 : Int) < (n.text.size : Int) := by omega
        have HR := Lib.hid (oneB_no fun h => by have := HO.out.1 h; rw [if_neg HE.out] at this; exact h2 this.2.1)
        clear h2
        go_enter Try.func60, Try.ntmps60
        go_wp2_with (go_at_call 74; refine (rName_c n.name _ hnl).mono ?_; rintro e w' ⟨rfl, rfl⟩)
        go_ret
        exact ⟨ret_bool HR.out.symm, (Below.refl _ _).alloc (Nat.le_refl _) _⟩
    · have h1' : nameB n.name.toList = false := by simpa using h1
      have HR := Lib.hid (oneB_no fun h => by have := HO.out.1 h; rw [if_neg HE.out] at this; exact h1 this.1)
      clear h1
      go_enter Try.func60, Try.ntmps60
      go_wp2_with (go_at_call 74; refine (rName_c n.name _ hnl).mono ?_; rintro e w' ⟨rfl, rfl⟩)
      go_ret
      exact ⟨ret_bool HR.out.symm, (Below.refl _ _).alloc (Nat.le_refl _) _⟩
end Go.Proofs.Ytpgcaehbbdnhiaa

/- The document's Right. -/
import Derived.Test.YtpgcaehbbdnhiaaT4
import Derived.Test.YtpgcaehbbdnhiaaT5
namespace Go.Proofs.Ytpgcaehbbdnhiaa
open Go.RowKit
set_option maxRecDepth 100000 in
set_option maxHeartbeats 2000000 in
theorem rRight_c (A : Option Addr) (c : Nat) (l : List GNode) (w : World) (B : Nat) (hB : B ≤ w.heap.size) (hs : ∀ n ∈ l, NodeSmall reachBytes n) (hll : l.length ≤ 4611686018427387904) (h : NodesAt w B A l) :
    Calls Try.prog 29 #[.slice A l.length c] w fun e w' => e = .returned (.bool (rightB l)) ∧ Below w.heap.size w w' := by
  by_cases h0 : l.length < 1
  · have HR := Lib.hid (rightB_no (l := l) fun hr => by obtain ⟨⟨a, _⟩, _⟩ := hr; omega)
    have h0' : (l.length : Int) < 1 := by omega
    clear h0
    go_enter Try.func29, Try.ntmps29
    go_wp2_with fail
    go_ret
    exact ⟨ret_bool HR.out.symm, Below.refl _ _⟩
  by_cases h4 : 400 < l.length
  · have HR := Lib.hid (rightB_no (l := l) fun hr => by obtain ⟨⟨_, a, _⟩, _⟩ := hr; omega)
    have d0 : decide ((l.length : Int) < 1) = false := decide_eq_false (by omega)
    have h4' : (400 : Int) < (l.length : Int) := by omega
    clear h0 h4
    go_enter Try.func29, Try.ntmps29
    go_wp2_with fail
    go_ret
    exact ⟨ret_bool HR.out.symm, Below.refl _ _⟩
  have hpos : 0 < l.length := by omega
  have d0 : decide ((l.length : Int) < 1) = false := decide_eq_false (by omega)
  have d4 : decide (400 < (l.length : Int)) = false := decide_eq_false (by omega)
  have h4' : l.length ≤ 400 := by omega
  clear h0 h4
  obtain ⟨b, o, rfl, hb, hn0⟩ := h.at_ hpos
  have hn0c := hn0
  obtain ⟨T0, ac0, K0, kc0, x0, x1, x2, x3, x4, -⟩ := hn0c
  simp only [Nat.zero_mul, Nat.add_zero] at x0 x1 x2 x3 x4
  have hsz0 : l[0].name.size ≤ reachBytes := (hs _ (List.getElem_mem hpos)).name
  unfold reachBytes at hsz0
  have HE := Lib.hid (ba_empty l[0].name)
  generalize hnm : l[0].name = nm0 at x0 hsz0 HE
  generalize hpa : l[0].parent = p0 at x3
  have HM := Lib.hid hnm
  have HP := Lib.hid hpa
  clear hnm hpa
  by_cases e0 : nm0.size = 0
  · have HR := Lib.hid (rightB_no (l := l) fun hr => by obtain ⟨⟨_, _, a, _⟩, _⟩ := hr; rw [HM.out, HE.out.2 e0] at a; exact absurd a (by simp))
    go_enter Try.func29, Try.ntmps29
    go_wp2_with fail
    go_ret
    exact ⟨ret_bool HR.out.symm, Below.refl _ _⟩
  have e0' : ((nm0.size : Int) == 0) = false := by rw [beq_eq_false_iff_ne]; omega
  by_cases e1 : p0 = -1
  case neg =>
    have HR := Lib.hid (rightB_no (l := l) fun hr => by obtain ⟨⟨_, _, _, a⟩, _⟩ := hr; rw [HP.out] at a; exact e1 a)
    have e1' : (p0 != -1) = true := by simpa using e1
    clear e1 e0
    go_enter Try.func29, Try.ntmps29
    go_wp2_with fail
    go_ret
    exact ⟨ret_bool HR.out.symm, Below.refl _ _⟩
  have HRoot := Lib.hid (show ∃ h : 0 < l.length, l.length ≤ 400 ∧ l[0].name.toList.isEmpty = false ∧ l[0].parent = -1 from ⟨hpos, h4', by
    rw [HM.out]
    cases hh : nm0.toList.isEmpty with
    | false => rfl
    | true => exact absurd (HE.out.1 hh) e0, by rw [HP.out]; exact e1⟩)
  subst e1
  clear e0
  go_enter Try.func29, Try.ntmps29
  go_wp2_with fail
  clear x0 x1 x2 x3 x4 d0 d4 e0' hsz0
  go_loopw [3] (fun i wr => Below w.heap.size w wr ∧ ∃ k : Nat, k ≤ l.length ∧ i = .int .i64 k ∧ ∀ j, j < k → NodeOk l j) (fun i _ => l.length - (intOf i).toNat)
  case atStart => exact ⟨Below.refl _ _, 0, by omega, rfl, fun j hj => by omega⟩
  case round =>
    obtain ⟨hbw, k, hk, rfl, hn⟩ := hrel
    have HN := Lib.hid hn
    clear hn
    have hr := h.below (hbw.mono hB)
    by_cases hlt : k < l.length
    · obtain ⟨T, ac, K, kc, x0, x1, x2, x3, x4, hT, hK, hac, hkc⟩ := hr.at2 hlt
      have hsm := hs _ (List.getElem_mem hlt)
      have hkl : l[k].kids.length ≤ 4611686018427387904 := by have := hsm.kids; unfold reachBytes at this; omega
      have HO := Lib.hid (show NodeOk l k ↔ OneP l[k] ∧ -1 ≤ l[k].parent ∧ l[k].parent < l.length ∧ (0 ≤ l[k].parent → cnt (kidsOf l l[k].parent) k = 1) ∧ ∀ j (_ : j < l[k].kids.length), KidOk l k l[k].kids[j] from ⟨fun ⟨_, a⟩ => a, fun a => ⟨hlt, a⟩⟩)
      generalize hnd : l[k] = nd at x0 x1 x2 x3 x4 hT hK hac hkc hsm hkl HO
      obtain ⟨nm, tx, atl, p, kd⟩ := nd
      have HND := Lib.hid hnd
      clear hnd
      dsimp only at x0 x1 x2 x3 x4 hT hK hac hkc hsm hkl HO
      have hal := alone_c ⟨nm, tx, atl, p, kd⟩ T ac K kc wr B (by have := hbw.size; omega) hsm hT hac
      dsimp only at hal
      by_cases g1 : oneB ⟨nm, tx, atl, p, kd⟩ = true
      case neg =>
        have g1' : oneB ⟨nm, tx, atl, p, kd⟩ = false := by simpa using g1
        have HR := Lib.hid (rightB_no (l := l) fun hr => g1 (oneB_yes (HO.out.1 (hr.2.1 k hlt)).1))
        clear g1
        go_wp2_with (go_at_call 60; refine hal.mono ?_; rintro e w1 ⟨rfl, hb1⟩)
        go_ret
        exact ⟨ret_bool HR.out.symm, hbw.trans (hb1.mono hbw.size)⟩
      by_cases g2 : p < -1
      · have HR := Lib.hid (rightB_no (l := l) fun hr => by have := (HO.out.1 (hr.2.1 k hlt)).2.1; omega)
        go_wp2_with (go_at_call 60; refine hal.mono ?_; rintro e w1 ⟨rfl, hb1⟩)
        go_ret
        exact ⟨ret_bool HR.out.symm, hbw.trans (hb1.mono hbw.size)⟩
      have g2' : decide (p < -1) = false := decide_eq_false g2
      by_cases g3 : (l.length : Int) ≤ p
      · have HR := Lib.hid (rightB_no (l := l) fun hr => by have := (HO.out.1 (hr.2.1 k hlt)).2.2.1; omega)
        clear g2
        go_wp2_with (go_at_call 60; refine hal.mono ?_; rintro e w1 ⟨rfl, hb1⟩)
        go_ret
        exact ⟨ret_bool HR.out.symm, hbw.trans (hb1.mono hbw.size)⟩
      have g3' : decide ((l.length : Int) ≤ p) = false := decide_eq_false g3
      have HI := Lib.hid (show OneP ⟨nm, tx, atl, p, kd⟩ ∧ -1 ≤ p ∧ p < l.length from ⟨oneB_iff.1 g1, by omega, by omega⟩)
      by_cases g4 : 0 ≤ p
      · obtain ⟨q, rfl⟩ : ∃ q : Nat, p = q := ⟨p.toNat, by omega⟩
        have hq : q < l.length := by omega
        have hqs := (hs _ (List.getElem_mem hq)).kids
        have hqk : l[q].kids.length ≤ 4611686018427387904 := by unfold reachBytes at hqs; omega
        have HQ := Lib.hid (kidsOf_at hq)
        have hq0 : (0 : Int) ≤ (q : Int) := by omega
        clear g2 g3 g4
        by_cases g5 : cnt l[q].kids k = 1
        · have HC := Lib.hid (show (0 : Int) ≤ (q : Int) → cnt (kidsOf l q) k = 1 from fun _ => by rw [HQ.out]; exact g5)
          have g5' : (cnt l[q].kids k != 1) = false := by rw [g5]; rfl
          clear g5
          go_wp2_with (first | (go_at_call 60; refine hal.mono ?_; rintro e w1 ⟨rfl, hb1⟩; have hbx := hbw.trans (hb1.mono hbw.size); have hrx := h.below (hbx.mono hB); obtain ⟨T1, ac1, K1, kc1, -, -, -, -, y4, -, hK1, -, -⟩ := hrx.at2 hq) | (go_at_call 61; refine (count_c K1 kc1 l[q].kids k _ B hqk hK1).mono ?_; rintro e w2 ⟨rfl, rfl⟩))
          clear x0 x1 x2 x3 x4 hT hK hal hr hac hkc
          have hkx := hrx.at2 hlt
          rw [HND.out] at hkx
          obtain ⟨T2, ac2, K2, kc2, -, -, -, -, z4, -, hK2, -, -⟩ := hkx
          dsimp only at z4 hK2
          have HK2 := Lib.hid hK2
          clear hK2
          go_loop [5] (fun i => ∃ j : Nat, j ≤ kd.length ∧ i = .int .i64 j ∧ ∀ j' (_ : j' < kd.length), j' < j → KidOk l k kd[j']) (fun i => kd.length - (intOf i).toNat)
          case atStart => exact ⟨0, by omega, rfl, fun j' _ hj => by omega⟩
          case round =>
            obtain ⟨j, hj, rfl, hjn⟩ := hrel
            have HJ := Lib.hid hjn
            clear hjn
            by_cases hjl : j < kd.length
            · obtain ⟨bk, ok, rfl, hbk, hck⟩ := HK2.out.at_ hjl
              generalize hkk : kd[j] = kk at hck
              have HKK := Lib.hid hkk
              clear hkk
              by_cases f1 : kk < 0
              · have HR := Lib.hid (rightB_no (l := l) fun hr => by have := ((HO.out.1 (hr.2.1 k hlt)).2.2.2.2 j hjl).1; rw [HKK.out] at this; omega)
                go_wp2
                go_ret
                exact ⟨ret_bool HR.out.symm, hbx⟩
              have f1' : decide (kk < 0) = false := decide_eq_false f1
              by_cases f2 : (l.length : Int) ≤ kk
              · have HR := Lib.hid (rightB_no (l := l) fun hr => by have := ((HO.out.1 (hr.2.1 k hlt)).2.2.2.2 j hjl).2.1; rw [HKK.out] at this; omega)
                clear f1
                go_wp2
                go_ret
                exact ⟨ret_bool HR.out.symm, hbx⟩
              have f2' : decide ((l.length : Int) ≤ kk) = false := decide_eq_false f2
              obtain ⟨m, rfl⟩ : ∃ m : Nat, kk = m := ⟨kk.toNat, by omega⟩
              have hm : m < l.length := by omega
              have HM2 := Lib.hid (parOf_at hm)
              obtain ⟨T3, ac3, K3, kc3, -, -, -, v3, -, -, -, -, -⟩ := hrx.at2 hm
              generalize l[m].parent = pm at v3 HM2
              clear f1 f2
              by_cases f3 : pm = (k : Int)
              · have HY := Lib.hid (show KidOk l k (m : Int) from ⟨by omega, by omega, by rw [HM2.out]; exact f3⟩)
                subst f3
                go_wp2
                go_round
                case rel => exact ⟨j + 1, by omega, by go_num, fun j' h1 h2 => by
                  by_cases e : j' = j
                  · subst e; rw [HKK.out]; exact HY.out
                  · exact HJ.out j' h1 (by omega)⟩
                case measure => simp [intOf]; omega
              · have HR := Lib.hid (rightB_no (l := l) fun hr => by have := ((HO.out.1 (hr.2.1 k hlt)).2.2.2.2 j hjl).2.2; rw [HKK.out, HM2.out] at this; exact f3 this)
                have f3' : (pm != (k : Int)) = true := by simpa using f3
                clear f3
                go_wp2
                go_ret
                exact ⟨ret_bool HR.out.symm, hbx⟩
            · have HY := Lib.hid (show NodeOk l k from HO.out.2 ⟨HI.out.1, HI.out.2.1, HI.out.2.2, HC.out, fun j' hj' => HJ.out j' hj' (by omega)⟩)
              go_wp2
              go_roundw
              case rel => exact ⟨hbx, k + 1, by omega, by go_num, fun j' h1 => by
                  by_cases e : j' = k
                  · subst e; exact HY.out
                  · exact HN.out j' (by omega)⟩
              case measure => simp [intOf]; omega
        · have HR := Lib.hid (rightB_no (l := l) fun hr => g5 (by rw [← HQ.out]; exact (HO.out.1 (hr.2.1 k hlt)).2.2.2.1 hq0))
          have g5' : (cnt l[q].kids k != 1) = true := by simpa using g5
          clear g5
          go_wp2_with (first | (go_at_call 60; refine hal.mono ?_; rintro e w1 ⟨rfl, hb1⟩; have hbx := hbw.trans (hb1.mono hbw.size); have hrx := h.below (hbx.mono hB); obtain ⟨T1, ac1, K1, kc1, -, -, -, -, y4, -, hK1, -, -⟩ := hrx.at2 hq) | (go_at_call 61; refine (count_c K1 kc1 l[q].kids k _ B hqk hK1).mono ?_; rintro e w2 ⟨rfl, rfl⟩))
          go_ret
          exact ⟨ret_bool HR.out.symm, hbx⟩
      · obtain rfl : p = -1 := by omega
        have HC := Lib.hid (show (0 : Int) ≤ -1 → cnt (kidsOf l (-1)) k = 1 from fun h => absurd h (by omega))
        clear g2 g3 g4 g2' g3'
        · have g3' : decide ((l.length : Int) ≤ -1) = false := decide_eq_false (by omega)
          go_wp2_with (go_at_call 60; refine hal.mono ?_; rintro e w1 ⟨rfl, hb1⟩; have hbx := hbw.trans (hb1.mono hbw.size); have hrx := h.below (hbx.mono hB))
          clear x0 x1 x2 x3 x4 hT hK hal hr hac hkc
          have hkx := hrx.at2 hlt
          rw [HND.out] at hkx
          obtain ⟨T2, ac2, K2, kc2, -, -, -, -, z4, -, hK2, -, -⟩ := hkx
          dsimp only at z4 hK2
          have HK2 := Lib.hid hK2
          clear hK2
          go_loop [5] (fun i => ∃ j : Nat, j ≤ kd.length ∧ i = .int .i64 j ∧ ∀ j' (_ : j' < kd.length), j' < j → KidOk l k kd[j']) (fun i => kd.length - (intOf i).toNat)
          case atStart => exact ⟨0, by omega, rfl, fun j' _ hj => by omega⟩
          case round =>
            obtain ⟨j, hj, rfl, hjn⟩ := hrel
            have HJ := Lib.hid hjn
            clear hjn
            by_cases hjl : j < kd.length
            · obtain ⟨bk, ok, rfl, hbk, hck⟩ := HK2.out.at_ hjl
              generalize hkk : kd[j] = kk at hck
              have HKK := Lib.hid hkk
              clear hkk
              by_cases f1 : kk < 0
              · have HR := Lib.hid (rightB_no (l := l) fun hr => by have := ((HO.out.1 (hr.2.1 k hlt)).2.2.2.2 j hjl).1; rw [HKK.out] at this; omega)
                go_wp2
                go_ret
                exact ⟨ret_bool HR.out.symm, hbx⟩
              have f1' : decide (kk < 0) = false := decide_eq_false f1
              by_cases f2 : (l.length : Int) ≤ kk
              · have HR := Lib.hid (rightB_no (l := l) fun hr => by have := ((HO.out.1 (hr.2.1 k hlt)).2.2.2.2 j hjl).2.1; rw [HKK.out] at this; omega)
                clear f1
                go_wp2
                go_ret
                exact ⟨ret_bool HR.out.symm, hbx⟩
              have f2' : decide ((l.length : Int) ≤ kk) = false := decide_eq_false f2
              obtain ⟨m, rfl⟩ : ∃ m : Nat, kk = m := ⟨kk.toNat, by omega⟩
              have hm : m < l.length := by omega
              have HM2 := Lib.hid (parOf_at hm)
              obtain ⟨T3, ac3, K3, kc3, -, -, -, v3, -, -, -, -, -⟩ := hrx.at2 hm
              generalize l[m].parent = pm at v3 HM2
              clear f1 f2
              by_cases f3 : pm = (k : Int)
              · have HY := Lib.hid (show KidOk l k (m : Int) from ⟨by omega, by omega, by rw [HM2.out]; exact f3⟩)
                subst f3
                go_wp2
                go_round
                case rel => exact ⟨j + 1, by omega, by go_num, fun j' h1 h2 => by
                  by_cases e : j' = j
                  · subst e; rw [HKK.out]; exact HY.out
                  · exact HJ.out j' h1 (by omega)⟩
                case measure => simp [intOf]; omega
              · have HR := Lib.hid (rightB_no (l := l) fun hr => by have := ((HO.out.1 (hr.2.1 k hlt)).2.2.2.2 j hjl).2.2; rw [HKK.out, HM2.out] at this; exact f3 this)
                have f3' : (pm != (k : Int)) = true := by simpa using f3
                clear f3
                go_wp2
                go_ret
                exact ⟨ret_bool HR.out.symm, hbx⟩
            · have HY := Lib.hid (show NodeOk l k from HO.out.2 ⟨HI.out.1, HI.out.2.1, HI.out.2.2, HC.out, fun j' hj' => HJ.out j' hj' (by omega)⟩)
              go_wp2
              go_roundw
              case rel => exact ⟨hbx, k + 1, by omega, by go_num, fun j' h1 => by
                  by_cases e : j' = k
                  · subst e; exact HY.out
                  · exact HN.out j' (by omega)⟩
              case measure => simp [intOf]; omega
    · have hall : ∀ j, j < l.length → NodeOk l j := fun j hj => HN.out j (by omega)
      have HA := Lib.hid hall
      clear HN
      go_wp2_with fail
      go_loop [7] (fun i => ∃ k : Nat, k ≤ l.length ∧ i = .int .i64 k ∧ ∀ j, j < k → climb l (l.length + 1) j < 0) (fun i => l.length - (intOf i).toNat)
      case atStart => exact ⟨0, by omega, rfl, fun j hj => by omega⟩
      case round =>
        obtain ⟨i, hi, rfl, hn⟩ := hrel
        have HN := Lib.hid hn
        clear hn
        by_cases hil : i < l.length
        · go_wp2
          go_loop [8, 9] (fun x n => ∃ m : Nat, m ≤ l.length + 1 ∧ n = .int .i64 m ∧ x = .int .i64 (climb l m i)) (fun _ n => l.length + 1 - (intOf n).toNat)
          case atStart => exact ⟨0, by omega, rfl, rfl⟩
          case round =>
            obtain ⟨m, hm, rfl, rfl⟩ := hrel
            have hcl := in_range hil hall m
            have HS := Lib.hid (climb_succ (l := l) (m := m) (k := i))
            have HL := Lib.hid (climb_le (l := l) (m := m) (m' := l.length + 1) (k := i))
            have HC := Lib.hid (show climb l m i = climb l m i from rfl)
            generalize hx : climb l m i = x at hcl HS HL HC
            have HX := Lib.hid hx
            clear hx
            by_cases hneg : x < 0
            · have hneg' : decide (0 ≤ x) = false := decide_eq_false (by omega)
              go_wp2
              go_round
              case rel => exact ⟨i + 1, by omega, by go_num, fun j h1 => by
                  by_cases e : j = i
                  · subst e; exact HL.out hneg hm
                  · exact HN.out j (by omega)⟩
              case measure => simp [intOf]; omega
            · obtain ⟨q, rfl⟩ : ∃ q : Nat, x = q := ⟨x.toNat, by omega⟩
              have hq : q < l.length := by omega
              have hq0 : (0 : Int) ≤ (q : Int) := by omega
              clear hneg
              by_cases hml : m ≤ l.length
              · have HP := Lib.hid (parOf_at hq)
                obtain ⟨T3, ac3, K3, kc3, -, -, -, v3, -, -, -, -, -⟩ := hr.at2 hq
                have hml' : (m : Int) ≤ (l.length : Int) := by omega
                go_wp2
                go_round
                case rel => exact ⟨m + 1, by omega, by go_num, by rw [HS.out (by omega), HP.out]⟩
                case measure => simp [intOf]; omega
              · have hml' : decide ((m : Int) ≤ (l.length : Int)) = false := decide_eq_false (by omega)
                have HR := Lib.hid (rightB_no (l := l) fun hr => by
                  have := hr.2.2 i hil
                  rw [show l.length + 1 = m by omega, HX.out] at this
                  omega)
                have hml'' : (l.length : Int) < (m : Int) := by omega
                clear hml
                go_wp2
                go_ret
                exact ⟨ret_bool HR.out.symm, hbw⟩
        · have HR := Lib.hid (rightB_yes (l := l) ⟨HRoot.out, HA.out, fun j hj => HN.out j (by omega)⟩)
          go_wp2
          go_ret
          exact ⟨ret_bool HR.out.symm, hbw⟩
end Go.Proofs.Ytpgcaehbbdnhiaa

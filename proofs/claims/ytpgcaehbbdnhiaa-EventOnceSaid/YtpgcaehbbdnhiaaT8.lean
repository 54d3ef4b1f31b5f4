/- The program's Right. -/
import Derived.Test.YtpgcaehbbdnhiaaT4
import Derived.Test.YtpgcaehbbdnhiaaT7
import Derived.Deep.OwnRows
namespace Go.Proofs.Ytpgcaehbbdnhiaa
open Go.RowKit
theorem info_bool : (Try.prog.info? 4).map (fun i => (i.zero, i.size, i.bytes)) = some (some (.bool false), 1, 1) := by kernel_rfl
/-- a row of truth values -/
def BoolsAt (w : World) (b n : Nat) (up : Nat → Bool) : Prop := ∀ k, k < n → w.cell? ⟨b, k, none⟩ = some (.bool (up k)) ∧ w.frozen? ⟨b, k, none⟩ = false
theorem BoolsAt.below {w w' : World} {B b n : Nat} {up : Nat → Bool} (h : BoolsAt w b n up) (hb : Below B w w') (hB : b < B) : BoolsAt w' b n up :=
  fun k hk => ⟨(hb.cell (p := ⟨b, k, none⟩) hB).trans (h k hk).1, (hb.frozen (p := ⟨b, k, none⟩) hB).trans (h k hk).2⟩
theorem BoolsAt.mark {w : World} {b n m : Nat} {up : Nat → Bool} (h : BoolsAt w b n up) (hm : m < n) : BoolsAt (w.setCell ⟨b, m, none⟩ (.bool true)) b n (mark m up) := by
  intro k hk
  refine ⟨?_, by rw [World.frozen?_setCell]; exact (h k hk).2⟩
  by_cases e : k = m
  · subst e
    rw [World.cell?_setCell_same _ _ _ (h k hk).1, mark_self]
  · rw [World.cell?_setCell_other _ _ _ _ (by intro e'; cases e'; exact e rfl), (h k hk).1, mark_ne up e]
theorem BoolsAt.made (w : World) (n : Nat) : BoolsAt (w.alloc (.cells (madeCells #[.bool false] n) 4)) w.heap.size n (fun _ => false) := by
  intro k hk
  refine ⟨?_, by go_simp⟩
  exact (World.rowIs_made w (.bool false) n 4).cell hk

set_option maxRecDepth 100000 in
set_option maxHeartbeats 4000000 in
theorem Right_c (A : Option Addr) (c : Nat) (l : List GNode) (w : World) (B : Nat) (hB : B ≤ w.heap.size) (hs : ∀ n ∈ l, NodeSmall reachBytes n) (hll : l.length ≤ 4611686018427387904) (h : NodesAt w B A l) :
    Calls Try.prog 28 #[.slice A l.length c] w fun e w' => e = .returned (.bool (rightB l)) ∧ Below w.heap.size w w' := by
  by_cases h0 : l.length = 0
  · have HR := Lib.hid (rightB_no (l := l) fun hr => by obtain ⟨⟨a, _⟩, _⟩ := hr; omega)
    go_enter Try.func28, Try.ntmps28
    go_wp2_with fail
    go_ret
    exact ⟨ret_bool HR.out.symm, Below.refl _ _⟩
  have d0 : ((l.length : Int) == 0) = false := by rw [beq_eq_false_iff_ne]; omega
  have hpos : 0 < l.length := by omega
  by_cases h4 : 400 < l.length
  · have HR := Lib.hid (rightB_no (l := l) fun hr => by obtain ⟨⟨_, a, _⟩, _⟩ := hr; omega)
    have h4' : (400 : Int) < (l.length : Int) := by omega
    clear h0 h4
    go_enter Try.func28, Try.ntmps28
    go_wp2_with fail
    go_ret
    exact ⟨ret_bool HR.out.symm, Below.refl _ _⟩
  have d4 : decide (400 < (l.length : Int)) = false := decide_eq_false (by omega)
  have h4' : l.length ≤ 400 := by omega
  clear h0 h4
  obtain ⟨b, o, rfl, hb, hn0⟩ := h.at_ hpos
  obtain ⟨T0, ac0, K0, kc0, x0, x1, x2, x3, x4, -⟩ := hn0
  simp only [Nat.zero_mul, Nat.add_zero] at x0 x1 x2 x3 x4
  have hsz0 : l[0].name.size ≤ reachBytes := (hs _ (List.getElem_mem hpos)).name
  unfold reachBytes at hsz0
  generalize hnm : l[0].name = nm0 at x0 hsz0
  generalize hpa : l[0].parent = p0 at x3
  have HM := Lib.hid hnm
  have HP := Lib.hid hpa
  clear hnm hpa
  by_cases e0 : nm0.toList.isEmpty = true
  · have HR := Lib.hid (rightB_no (l := l) fun hr => by obtain ⟨⟨_, _, a, _⟩, _⟩ := hr; rw [HM.out, e0] at a; exact absurd a (by simp))
    go_enter Try.func28, Try.ntmps28
    go_wp2_with fail
    go_ret
    exact ⟨ret_bool HR.out.symm, Below.refl _ _⟩
  have e0' : nm0.toList.isEmpty = false := by simpa using e0
  clear e0
  by_cases e1 : p0 = -1
  case neg =>
    have HR := Lib.hid (rightB_no (l := l) fun hr => by obtain ⟨⟨_, _, _, a⟩, _⟩ := hr; rw [HP.out] at a; exact e1 a)
    have e1' : (p0 != -1) = true := by simpa using e1
    clear e1
    go_enter Try.func28, Try.ntmps28
    go_wp2_with fail
    go_ret
    exact ⟨ret_bool HR.out.symm, Below.refl _ _⟩
  have HRoot := Lib.hid (show ∃ h : 0 < l.length, l.length ≤ 400 ∧ l[0].name.toList.isEmpty = false ∧ l[0].parent = -1 from ⟨hpos, h4', by
    rw [HM.out]; exact e0', by rw [HP.out]; exact e1⟩)
  subst e1
  have hmk := run_make_row' (P := Try.prog) 37 4 (.bool false) 1 Try.underlying37 info_bool rfl .i64 .i64 l.length (by omega) (by omega)
  go_enter Try.func28, Try.ntmps28
  go_wp2_with fail
  clear x0 x1 x2 x3 x4 d0 d4 e0' hsz0 hmk
  go_loopw [3, 39] (fun mt i wr => Below w.heap.size w wr ∧ w.heap.size < wr.heap.size ∧ ∃ (k : Nat) (up : Nat → Bool), k ≤ l.length ∧ i = .int .i64 k ∧ mt = .int .i64 ((nPar l k : Int) - nUp up l.length) ∧ (∀ j, j < k → PartOk l j) ∧ UpInv l k 0 up ∧ BoolsAt wr w.heap.size l.length up) (fun _ i _ => l.length - (intOf i).toNat)
  case atStart => exact ⟨(Below.refl _ _).alloc (Nat.le_refl _) _, by simp, 0, fun _ => false, by omega, rfl, by rw [nUp_zero]; rfl, fun j hj => by omega, UpInv.start l, BoolsAt.made w l.length⟩
  case round =>
    obtain ⟨hbw, hz, k, up, hk, rfl, rfl, hn, hu, hbo⟩ := hrel
    have HN := Lib.hid hn
    have HU := Lib.hid hu
    have HBO := Lib.hid hbo
    clear hn hu hbo
    have hr := h.below (hbw.mono hB)
    have hnp := nPar_le l k
    have hnu := nUp_le up l.length
    have hmx : ∃ mx : Int, mx = (nPar l k : Int) - nUp up l.length := ⟨_, rfl⟩
    obtain ⟨mx, hmx⟩ := hmx
    rw [← hmx]
    have hmx1 : -400 ≤ mx := by omega
    have hmx2 : mx ≤ 400 := by omega
    have HMX := Lib.hid hmx
    clear hmx hnp hnu
    by_cases hlt : k < l.length
    · obtain ⟨T, ac, K, kc, x0, x1, x2, x3, x4, hT, hK, hac, hkc⟩ := hr.at2 hlt
      have hsm := hs _ (List.getElem_mem hlt)
      have hkl : l[k].kids.length ≤ 4611686018427387904 := by have := hsm.kids; unfold reachBytes at this; omega
      have HO := Lib.hid (show PartOk l k ↔ OneP l[k] ∧ -1 ≤ l[k].parent ∧ l[k].parent < l.length ∧ ∀ j (_ : j < l[k].kids.length), KidOk l k l[k].kids[j] from ⟨fun ⟨_, a⟩ => a, fun a => ⟨hlt, a⟩⟩)
      have HPK := Lib.hid (parOf_at hlt)
      generalize hnd : l[k] = nd at x0 x1 x2 x3 x4 hT hK hac hkc hsm hkl HO HPK
      obtain ⟨nm, tx, atl, p, kd⟩ := nd
      have HND := Lib.hid hnd
      clear hnd
      dsimp only at x0 x1 x2 x3 x4 hT hK hac hkc hsm hkl HO HPK
      have hBr : B ≤ wr.heap.size := by have := hbw.size; omega
      have hal := one_c ⟨nm, tx, atl, p, kd⟩ T ac K kc (wr.alloc (Obj.cells #[.string nm, .string tx, .slice T atl.length ac, .int .i64 p, .slice K kd.length kc] 46)) B (by simp; omega) hsm (hT.below ((Below.refl B wr).alloc hBr _)) hac
      dsimp only at hal
      by_cases g1 : oneB ⟨nm, tx, atl, p, kd⟩ = true
      case neg =>
        have g1' : oneB ⟨nm, tx, atl, p, kd⟩ = false := by simpa using g1
        have HR := Lib.hid (rightB_no (l := l) fun hr => g1 (oneB_yes (HO.out.1 (PartOk.of (hr.2.1 k hlt))).1))
        clear g1
        go_wp2_with (go_at_call 59; refine hal.mono ?_; rintro e w1 ⟨rfl, hb1⟩; have hb1r : Below wr.heap.size wr w1 := ((Below.refl wr.heap.size wr).alloc (Nat.le_refl _) _).trans (hb1.mono (by simp)); have hbx := hbw.trans (hb1r.mono hbw.size); have y3 : w1.cell? ⟨wr.heap.size, 3, none⟩ = some (.int .i64 p) := (hb1.cell (p := ⟨wr.heap.size, 3, none⟩) (by simp)).trans (by go_simp); have y4 : w1.cell? ⟨wr.heap.size, 4, none⟩ = some (.slice K kd.length kc) := (hb1.cell (p := ⟨wr.heap.size, 4, none⟩) (by simp)).trans (by go_simp))
        go_ret
        exact ⟨ret_bool HR.out.symm, hbx⟩
      by_cases g2 : p < -1
      · have HR := Lib.hid (rightB_no (l := l) fun hr => by have := (HO.out.1 (PartOk.of (hr.2.1 k hlt))).2.1; omega)
        go_wp2_with (go_at_call 59; refine hal.mono ?_; rintro e w1 ⟨rfl, hb1⟩; have hb1r : Below wr.heap.size wr w1 := ((Below.refl wr.heap.size wr).alloc (Nat.le_refl _) _).trans (hb1.mono (by simp)); have hbx := hbw.trans (hb1r.mono hbw.size); have y3 : w1.cell? ⟨wr.heap.size, 3, none⟩ = some (.int .i64 p) := (hb1.cell (p := ⟨wr.heap.size, 3, none⟩) (by simp)).trans (by go_simp); have y4 : w1.cell? ⟨wr.heap.size, 4, none⟩ = some (.slice K kd.length kc) := (hb1.cell (p := ⟨wr.heap.size, 4, none⟩) (by simp)).trans (by go_simp))
        go_ret
        exact ⟨ret_bool HR.out.symm, hbx⟩
      have g2' : decide (p < -1) = false := decide_eq_false g2
      by_cases g3 : (l.length : Int) ≤ p
      · have HR := Lib.hid (rightB_no (l := l) fun hr => by have := (HO.out.1 (PartOk.of (hr.2.1 k hlt))).2.2.1; omega)
        clear g2
        go_wp2_with (go_at_call 59; refine hal.mono ?_; rintro e w1 ⟨rfl, hb1⟩; have hb1r : Below wr.heap.size wr w1 := ((Below.refl wr.heap.size wr).alloc (Nat.le_refl _) _).trans (hb1.mono (by simp)); have hbx := hbw.trans (hb1r.mono hbw.size); have y3 : w1.cell? ⟨wr.heap.size, 3, none⟩ = some (.int .i64 p) := (hb1.cell (p := ⟨wr.heap.size, 3, none⟩) (by simp)).trans (by go_simp); have y4 : w1.cell? ⟨wr.heap.size, 4, none⟩ = some (.slice K kd.length kc) := (hb1.cell (p := ⟨wr.heap.size, 4, none⟩) (by simp)).trans (by go_simp))
        go_ret
        exact ⟨ret_bool HR.out.symm, hbx⟩
      have g3' : decide ((l.length : Int) ≤ p) = false := decide_eq_false g3
      have HI := Lib.hid (show OneP ⟨nm, tx, atl, p, kd⟩ ∧ -1 ≤ p ∧ p < l.length from ⟨oneB_iff.1 g1, by omega, by omega⟩)
      by_cases g4 : 0 ≤ p
      · have hcm := nPar_succ l k
        rw [HPK.out, if_pos g4] at hcm
        have HCM := Lib.hid (show Value.int .i64 (mx + 1) = Value.int .i64 ((nPar l (k + 1) : Int) - nUp up l.length) by have := HMX.out; congr 1; omega)
        clear g2 g3
        go_wp2_with (go_at_call 59; refine hal.mono ?_; rintro e w1 ⟨rfl, hb1⟩; have hb1r : Below wr.heap.size wr w1 := ((Below.refl wr.heap.size wr).alloc (Nat.le_refl _) _).trans (hb1.mono (by simp)); have hbx := hbw.trans (hb1r.mono hbw.size); have y3 : w1.cell? ⟨wr.heap.size, 3, none⟩ = some (.int .i64 p) := (hb1.cell (p := ⟨wr.heap.size, 3, none⟩) (by simp)).trans (by go_simp); have y4 : w1.cell? ⟨wr.heap.size, 4, none⟩ = some (.slice K kd.length kc) := (hb1.cell (p := ⟨wr.heap.size, 4, none⟩) (by simp)).trans (by go_simp))
        have HB1 := Lib.hid (HBO.out.below hb1r hz)
        have hz1 : wr.heap.size ≤ w1.heap.size := hb1r.size
        have HK2 := Lib.hid hK
        clear x0 x1 x2 x3 x4 hT hK hal hr hac hkc y3 y4 hb1 hcm
        go_loopw [3, 67] (fun mt i w3 => Below w.heap.size wr w3 ∧ w.heap.size < w3.heap.size ∧ ∃ (j : Nat) (up3 : Nat → Bool), j ≤ kd.length ∧ i = .int .i64 j ∧ mt = .int .i64 ((nPar l (k + 1) : Int) - nUp up3 l.length) ∧ (∀ j' (_ : j' < kd.length), j' < j → KidOk l k kd[j']) ∧ UpInv l k j up3 ∧ BoolsAt w3 w.heap.size l.length up3) (fun _ i _ => kd.length - (intOf i).toNat)
        case atStart => exact ⟨hb1r.mono hbw.size, Nat.lt_of_lt_of_le hz hz1, 0, up, by omega, rfl, HCM.out, fun j' _ hj => by omega, HU.out, HB1.out⟩
        case round =>
          obtain ⟨hb3, hz3, j, up3, hj, rfl, hmt, hjn, hu3, hbo3⟩ := hrel
          have HJ := Lib.hid hjn
          have HU3 := Lib.hid hu3
          have HB3 := Lib.hid hbo3
          have hnp3 := nPar_le l (k + 1)
          have hnu3 := nUp_le up3 l.length
          generalize hm3 : ((nPar l (k + 1) : Int) - nUp up3 l.length) = m3 at hmt
          have hm31 : -401 ≤ m3 := by omega
          have hm32 : m3 ≤ 401 := by omega
          have HM3 := Lib.hid hm3
          subst hmt
          clear hjn hu3 hbo3 hnp3 hnu3 hm3
          by_cases hjl : j < kd.length
          · obtain ⟨bk, ok, rfl, hbk, hck⟩ := (HK2.out.below (hb3.mono hB)).at_ hjl
            generalize hkk : kd[j] = kk at hck
            have HKK := Lib.hid hkk
            clear hkk
            by_cases f1 : kk < 0
            · have HR := Lib.hid (rightB_no (l := l) fun hr => by have := ((HO.out.1 (PartOk.of (hr.2.1 k hlt))).2.2.2 j hjl).1; rw [HKK.out] at this; omega)
              go_wp2
              go_ret
              exact ⟨ret_bool HR.out.symm, hbw.trans hb3⟩
            have f1' : decide (kk < 0) = false := decide_eq_false f1
            by_cases f2 : (l.length : Int) ≤ kk
            · have HR := Lib.hid (rightB_no (l := l) fun hr => by have := ((HO.out.1 (PartOk.of (hr.2.1 k hlt))).2.2.2 j hjl).2.1; rw [HKK.out] at this; omega)
              clear f1
              go_wp2
              go_ret
              exact ⟨ret_bool HR.out.symm, hbw.trans hb3⟩
            have f2' : decide ((l.length : Int) ≤ kk) = false := decide_eq_false f2
            obtain ⟨m, rfl⟩ : ∃ m : Nat, kk = m := ⟨kk.toNat, by omega⟩
            have hm : m < l.length := by omega
            clear f1 f2
            obtain ⟨c1, c2⟩ := HB3.out m hm
            have HKM := Lib.hid (show ∃ h : j < (kidsOf l k).length, (kidsOf l k)[j] = (m : Int) from by
              have e : kidsOf l k = kd := by rw [kidsOf_get hlt, HND.out]
              refine ⟨by rw [e]; exact hjl, ?_⟩
              simp only [e]
              exact HKK.out)
            by_cases f4 : up3 m = true
            · have HR := Lib.hid (rightB_no (l := l) (by obtain ⟨q1, q2⟩ := HKM.out; exact up_twice HU3.out hlt q1 q2 hm f4))
              rw [f4] at c1
              clear f4
              go_wp2
              go_ret
              exact ⟨ret_bool HR.out.symm, hbw.trans hb3⟩
            have f4' : up3 m = false := by simpa using f4
            rw [f4'] at c1
            have HF4 := Lib.hid f4'
            clear f4 f4'
            have HM2 := Lib.hid (parOf_at hm)
            obtain ⟨T3, ac3, K3, kc3, -, -, -, v3, -, -, -, -, -⟩ := (h.below ((hbw.trans hb3).mono hB)).at2 hm
            generalize l[m].parent = pm at v3 HM2
            by_cases f3 : pm = (k : Int)
            · have HY := Lib.hid (show KidOk l k (m : Int) from ⟨by omega, by omega, by rw [HM2.out]; exact f3⟩)
              subst f3
              go_wp2
              go_roundw
              case rel => exact ⟨hb3.setCell (Nat.le_refl _) _, by simpa [World.setCell] using hz3, j + 1, mark m up3, by omega, by go_num, by
                  have e := HM3.out
                  have e2 := nUp_set HF4.out l.length
                  rw [if_pos hm] at e2
                  rw [← e, e2]
                  congr 1
                  omega, fun j' h1 h2 => by
                  by_cases e : j' = j
                  · subst e; rw [HKK.out]; exact HY.out
                  · exact HJ.out j' h1 (by omega), by obtain ⟨q1, q2⟩ := HKM.out; exact HU3.out.next q1 q2 HF4.out HM2.out, HB3.out.mark hm⟩
              case measure => simp [intOf]; omega
            · have HR := Lib.hid (rightB_no (l := l) fun hr => by have := ((HO.out.1 (PartOk.of (hr.2.1 k hlt))).2.2.2 j hjl).2.2; rw [HKK.out, HM2.out] at this; exact f3 this)
              have f3' : (pm != (k : Int)) = true := by simpa using f3
              clear f3
              go_wp2
              go_ret
              exact ⟨ret_bool HR.out.symm, hbw.trans hb3⟩
          · have HY := Lib.hid (show PartOk l k from HO.out.2 ⟨HI.out.1, HI.out.2.1, HI.out.2.2, fun j' hj' => HJ.out j' hj' (by omega)⟩)
            go_wp2
            go_roundw
            case rel => exact ⟨hbw.trans hb3, hz3, k + 1, up3, by omega, by go_num, by rw [HM3.out], fun j' h1 => by
                by_cases e : j' = k
                · subst e; exact HY.out
                · exact HN.out j' (by omega), by
                  refine UpInv.row ?_
                  have e : (kidsOf l k).length = j := by rw [kidsOf_get hlt, HND.out]; dsimp only; omega
                  rw [e]; exact HU3.out, HB3.out⟩
            case measure => simp [intOf]; omega
      · have hcm := nPar_succ l k
        rw [HPK.out, if_neg g4] at hcm
        have HCM := Lib.hid (show Value.int .i64 mx = Value.int .i64 ((nPar l (k + 1) : Int) - nUp up l.length) by have := HMX.out; congr 1; omega)
        have g4' : decide (0 ≤ p) = false := decide_eq_false g4
        have g4'' : p < 0 := by omega
        clear g2 g3 g4
        go_wp2_with (go_at_call 59; refine hal.mono ?_; rintro e w1 ⟨rfl, hb1⟩; have hb1r : Below wr.heap.size wr w1 := ((Below.refl wr.heap.size wr).alloc (Nat.le_refl _) _).trans (hb1.mono (by simp)); have hbx := hbw.trans (hb1r.mono hbw.size); have y3 : w1.cell? ⟨wr.heap.size, 3, none⟩ = some (.int .i64 p) := (hb1.cell (p := ⟨wr.heap.size, 3, none⟩) (by simp)).trans (by go_simp); have y4 : w1.cell? ⟨wr.heap.size, 4, none⟩ = some (.slice K kd.length kc) := (hb1.cell (p := ⟨wr.heap.size, 4, none⟩) (by simp)).trans (by go_simp))
        have HB1 := Lib.hid (HBO.out.below hb1r hz)
        have hz1 : wr.heap.size ≤ w1.heap.size := hb1r.size
        have HK2 := Lib.hid hK
        clear x0 x1 x2 x3 x4 hT hK hal hr hac hkc y3 y4 hb1 hcm
        go_loopw [3, 67] (fun mt i w3 => Below w.heap.size wr w3 ∧ w.heap.size < w3.heap.size ∧ ∃ (j : Nat) (up3 : Nat → Bool), j ≤ kd.length ∧ i = .int .i64 j ∧ mt = .int .i64 ((nPar l (k + 1) : Int) - nUp up3 l.length) ∧ (∀ j' (_ : j' < kd.length), j' < j → KidOk l k kd[j']) ∧ UpInv l k j up3 ∧ BoolsAt w3 w.heap.size l.length up3) (fun _ i _ => kd.length - (intOf i).toNat)
        case atStart => exact ⟨hb1r.mono hbw.size, Nat.lt_of_lt_of_le hz hz1, 0, up, by omega, rfl, HCM.out, fun j' _ hj => by omega, HU.out, HB1.out⟩
        case round =>
          obtain ⟨hb3, hz3, j, up3, hj, rfl, hmt, hjn, hu3, hbo3⟩ := hrel
          have HJ := Lib.hid hjn
          have HU3 := Lib.hid hu3
          have HB3 := Lib.hid hbo3
          have hnp3 := nPar_le l (k + 1)
          have hnu3 := nUp_le up3 l.length
          generalize hm3 : ((nPar l (k + 1) : Int) - nUp up3 l.length) = m3 at hmt
          have hm31 : -401 ≤ m3 := by omega
          have hm32 : m3 ≤ 401 := by omega
          have HM3 := Lib.hid hm3
          subst hmt
          clear hjn hu3 hbo3 hnp3 hnu3 hm3
          by_cases hjl : j < kd.length
          · obtain ⟨bk, ok, rfl, hbk, hck⟩ := (HK2.out.below (hb3.mono hB)).at_ hjl
            generalize hkk : kd[j] = kk at hck
            have HKK := Lib.hid hkk
            clear hkk
            by_cases f1 : kk < 0
            · have HR := Lib.hid (rightB_no (l := l) fun hr => by have := ((HO.out.1 (PartOk.of (hr.2.1 k hlt))).2.2.2 j hjl).1; rw [HKK.out] at this; omega)
              go_wp2
              go_ret
              exact ⟨ret_bool HR.out.symm, hbw.trans hb3⟩
            have f1' : decide (kk < 0) = false := decide_eq_false f1
            by_cases f2 : (l.length : Int) ≤ kk
            · have HR := Lib.hid (rightB_no (l := l) fun hr => by have := ((HO.out.1 (PartOk.of (hr.2.1 k hlt))).2.2.2 j hjl).2.1; rw [HKK.out] at this; omega)
              clear f1
              go_wp2
              go_ret
              exact ⟨ret_bool HR.out.symm, hbw.trans hb3⟩
            have f2' : decide ((l.length : Int) ≤ kk) = false := decide_eq_false f2
            obtain ⟨m, rfl⟩ : ∃ m : Nat, kk = m := ⟨kk.toNat, by omega⟩
            have hm : m < l.length := by omega
            clear f1 f2
            obtain ⟨c1, c2⟩ := HB3.out m hm
            have HKM := Lib.hid (show ∃ h : j < (kidsOf l k).length, (kidsOf l k)[j] = (m : Int) from by
              have e : kidsOf l k = kd := by rw [kidsOf_get hlt, HND.out]
              refine ⟨by rw [e]; exact hjl, ?_⟩
              simp only [e]
              exact HKK.out)
            by_cases f4 : up3 m = true
            · have HR := Lib.hid (rightB_no (l := l) (by obtain ⟨q1, q2⟩ := HKM.out; exact up_twice HU3.out hlt q1 q2 hm f4))
              rw [f4] at c1
              clear f4
              go_wp2
              go_ret
              exact ⟨ret_bool HR.out.symm, hbw.trans hb3⟩
            have f4' : up3 m = false := by simpa using f4
            rw [f4'] at c1
            have HF4 := Lib.hid f4'
            clear f4 f4'
            have HM2 := Lib.hid (parOf_at hm)
            obtain ⟨T3, ac3, K3, kc3, -, -, -, v3, -, -, -, -, -⟩ := (h.below ((hbw.trans hb3).mono hB)).at2 hm
            generalize l[m].parent = pm at v3 HM2
            by_cases f3 : pm = (k : Int)
            · have HY := Lib.hid (show KidOk l k (m : Int) from ⟨by omega, by omega, by rw [HM2.out]; exact f3⟩)
              subst f3
              go_wp2
              go_roundw
              case rel => exact ⟨hb3.setCell (Nat.le_refl _) _, by simpa [World.setCell] using hz3, j + 1, mark m up3, by omega, by go_num, by
                  have e := HM3.out
                  have e2 := nUp_set HF4.out l.length
                  rw [if_pos hm] at e2
                  rw [← e, e2]
                  congr 1
                  omega, fun j' h1 h2 => by
                  by_cases e : j' = j
                  · subst e; rw [HKK.out]; exact HY.out
                  · exact HJ.out j' h1 (by omega), by obtain ⟨q1, q2⟩ := HKM.out; exact HU3.out.next q1 q2 HF4.out HM2.out, HB3.out.mark hm⟩
              case measure => simp [intOf]; omega
            · have HR := Lib.hid (rightB_no (l := l) fun hr => by have := ((HO.out.1 (PartOk.of (hr.2.1 k hlt))).2.2.2 j hjl).2.2; rw [HKK.out, HM2.out] at this; exact f3 this)
              have f3' : (pm != (k : Int)) = true := by simpa using f3
              clear f3
              go_wp2
              go_ret
              exact ⟨ret_bool HR.out.symm, hbw.trans hb3⟩
          · have HY := Lib.hid (show PartOk l k from HO.out.2 ⟨HI.out.1, HI.out.2.1, HI.out.2.2, fun j' hj' => HJ.out j' hj' (by omega)⟩)
            go_wp2
            go_roundw
            case rel => exact ⟨hbw.trans hb3, hz3, k + 1, up3, by omega, by go_num, by rw [HM3.out], fun j' h1 => by
                by_cases e : j' = k
                · subst e; exact HY.out
                · exact HN.out j' (by omega), by
                  refine UpInv.row ?_
                  have e : (kidsOf l k).length = j := by rw [kidsOf_get hlt, HND.out]; dsimp only; omega
                  rw [e]; exact HU3.out, HB3.out⟩
            case measure => simp [intOf]; omega
    · obtain rfl : k = l.length := by omega
      have hme := right_met HN.out HU.out
      by_cases hz0 : mx = 0
      · have HA := Lib.hid (hme.2.1 (by have := HMX.out; omega))
        clear hme
        subst hz0
        go_wp2_with fail
        go_loop [105] (fun i => ∃ k : Nat, k ≤ l.length ∧ i = .int .i64 k ∧ ∀ j, j < k → climb l (l.length + 1) j < 0) (fun i => l.length - (intOf i).toNat)
        case atStart => exact ⟨0, by omega, rfl, fun j hj => by omega⟩
        case round =>
          obtain ⟨i, hi, rfl, hn⟩ := hrel
          have HN := Lib.hid hn
          clear hn
          by_cases hil : i < l.length
          · go_wp2
            go_loop [10, 11] (fun x n => ∃ m : Nat, m ≤ l.length + 1 ∧ n = .int .i64 m ∧ x = .int .i64 (climb l m i)) (fun _ n => l.length + 2 - (intOf n).toNat)
            case atStart => exact ⟨0, by omega, rfl, rfl⟩
            case round =>
              obtain ⟨m, hm, rfl, rfl⟩ := hrel
              have hcl := in_range hil HA.out m
              have HS := Lib.hid (climb_succ (l := l) (m := m) (k := i))
              have HL := Lib.hid (climb_le (l := l) (m := m) (m' := l.length + 1) (k := i))
              generalize hx : climb l m i = x at hcl HS HL
              have HX := Lib.hid hx
              clear hx
              by_cases hneg : x < 0
              · have hneg' : decide (0 ≤ x) = false := decide_eq_false (by omega)
                go_wp2
                go_round
                case rel => exact ⟨i + 1, by omega, by go_num, fun j h1 => by
                    by_cases e : j = i
                    · subst e; exact HL.out hneg hm
                    · exact HN.out j (by omega)⟩
                case measure => simp [intOf]; omega
              · obtain ⟨q, rfl⟩ : ∃ q : Nat, x = q := ⟨x.toNat, by omega⟩
                have hq : q < l.length := by omega
                have hq0 : (0 : Int) ≤ (q : Int) := by omega
                clear hneg
                by_cases hml : m ≤ l.length
                · have HP := Lib.hid (parOf_at hq)
                  obtain ⟨T3, ac3, K3, kc3, -, -, -, v3, -, -, -, -, -⟩ := hr.at2 hq
                  have hml' : decide ((l.length : Int) < (m : Int)) = false := decide_eq_false (by omega)
                  go_wp2
                  go_round
                  case rel => exact ⟨m + 1, by omega, by go_num, by rw [HS.out (by omega), HP.out]⟩
                  case measure => simp [intOf]; omega
                · have hml' : (l.length : Int) < (m : Int) := by omega
                  have HR := Lib.hid (rightB_no (l := l) fun hr => by
                    have := hr.2.2 i hil
                    rw [show l.length + 1 = m by omega, HX.out] at this
                    omega)
                  clear hml
                  go_wp2
                  go_ret
                  exact ⟨ret_bool HR.out.symm, hbw⟩
          · have HR := Lib.hid (rightB_yes (l := l) ⟨HRoot.out, HA.out, fun j hj => HN.out j (by omega)⟩)
            go_wp2
            go_ret
            exact ⟨ret_bool HR.out.symm, hbw⟩
      · have HR := Lib.hid (rightB_no (l := l) fun hr => hz0 (by have := hme.2.2 hr.2.1; have := HMX.out; omega))
        have hz0' : (mx != 0) = true := by simpa using hz0
        clear hz0 hme
        go_wp2_with fail
        go_ret
        exact ⟨ret_bool HR.out.symm, hbw⟩
end Go.Proofs.Ytpgcaehbbdnhiaa

/- Named, ByID; the laws TreeNamed and TreeAsks, walked. -/
import Derived.Test.YtpgcaehbbdnhiaaN3
import Derived.Test.YtpgcaehbbdnhiaaOpen3
namespace Go.Proofs.Ytpgcaehbbdnhiaa
open Go.RowKit
def hit (l : List GNode) (id : List UInt8) (k : Int) : Bool := match aVal (attrsOf l k) (⟨#[105, 100]⟩ : ByteArray).toList with | some v => v.toList == id | none => false
def nam (l : List GNode) (id : List UInt8) : Int := ((ordL l 0).find? (hit l id)).getD (-1)
theorem nam_at {l : List GNode} {id : List UInt8} {j : Nat} (hj : j < (ordL l 0).length) (h : hit l id (ordL l 0)[j] = true) (hb : ∀ j' (h : j' < (ordL l 0).length), j' < j → hit l id (ordL l 0)[j'] = false) : nam l id = (ordL l 0)[j] := by
  unfold nam
  rw [List.find?_eq_some_iff_getElem.2 ⟨h, j, hj, rfl, fun j' h' => by rw [hb j' (by omega) h']; rfl⟩]
  rfl
theorem nam_none {l : List GNode} {id : List UInt8} (hb : ∀ j (h : j < (ordL l 0).length), hit l id (ordL l 0)[j] = false) : nam l id = -1 := by
  unfold nam
  rw [List.find?_eq_none.2 fun x hx => by
    obtain ⟨j, hj, rfl⟩ := List.mem_iff_getElem.1 hx
    rw [hb j hj]; simp]
  rfl
theorem hit_none {l : List GNode} {id : List UInt8} {k : Int} (h : aVal (attrsOf l k) (⟨#[105, 100]⟩ : ByteArray).toList = none) : hit l id k = false := by unfold hit; rw [h]
theorem hit_some {l : List GNode} {id : List UInt8} {k : Int} {v : ByteArray} (h : aVal (attrsOf l k) (⟨#[105, 100]⟩ : ByteArray).toList = some v) : hit l id k = (v.toList == id) := by unfold hit; rw [h]
set_option maxRecDepth 100000 in
set_option maxHeartbeats 4000000 in
theorem Named_c (A : Option Addr) (c : Nat) (l : List GNode) (id : ByteArray) (w : World) (B : Nat) (hB : B ≤ w.heap.size) (hs : ∀ n ∈ l, NodeSmall reachBytes n) (hll : l.length ≤ 4611686018427387904) (h : NodesAt w B A l) (rv : Int) (hrv : rv = if rightB l = true ∧ id.toList.isEmpty = false then nam l id.toList else -1) :
    Calls Try.prog 35 #[.slice A l.length c, .string id] w fun e w' => e = .returned (.int .i64 rv) ∧ Below w.heap.size w w' := by
  have HRV := Lib.hid hrv
  clear hrv
  by_cases hid : id.toList.isEmpty = true
  · have HR := Lib.hid (show rv = -1 by rw [HRV.out]; exact if_neg (fun e => by rw [hid] at e; exact absurd e.2 (by simp)))
    go_enter Try.func35, Try.ntmps35
    go_wp2_with fail
    go_ret
    exact ⟨ret_int HR.out.symm, Below.refl _ _⟩
  have hid' : id.toList.isEmpty = false := by simpa using hid
  by_cases hr : RightP l
  case neg =>
    have hrb := rightB_no hr
    have HR := Lib.hid (show rv = -1 by rw [HRV.out]; exact if_neg (fun e => by rw [hrb] at e; exact absurd e.1 (by simp)))
    clear hr hid
    go_enter Try.func35, Try.ntmps35
    go_wp2_with (go_at_call 28; refine (Right_c A c l w B hB hs hll h).mono ?_; rintro e w1 ⟨rfl, hb1⟩)
    go_ret
    exact ⟨ret_int HR.out.symm, hb1⟩
  have hrb := rightB_yes hr
  have HR := Lib.hid (show rv = nam l id.toList by rw [HRV.out]; exact if_pos ⟨hrb, hid'⟩)
  obtain ⟨⟨hpos, h400, _⟩, _⟩ := _root_.id hr
  obtain ⟨b, o, rfl, hbB, -⟩ := h.at_ hpos
  have hi0 : Is l 0 := ⟨by omega, by omega⟩
  have hol := ord_length hr hi0
  clear hid
  go_enter Try.func35, Try.ntmps35
  go_wp2_with (first | (go_at_call 28; refine (Right_c _ c l w B hB hs hll h).mono ?_; rintro e w1 ⟨rfl, hb1⟩; have hz1 : B ≤ w1.heap.size := (by have := hb1.size; omega)) | (go_at_call 63; refine (order_c _ c l hr B 0 hi0 w1 hz1 (h.below (hb1.mono hB))).mono ?_; rintro e w6 ⟨v6, rfl, ho6, hb6⟩; obtain ⟨T6, c6, rfl⟩ := owns_slice ho6; have hb16 := hb1.trans (hb6.mono hb1.size)))
  have HI := Lib.hid ho6.ints
  clear ho6 hrb hb6
  go_loopw [18] (fun i wr => Below w6.heap.size w6 wr ∧ ∃ j : Nat, j ≤ (ordL l 0).length ∧ i = .int .i64 j ∧ ∀ j' (h : j' < (ordL l 0).length), j' < j → hit l id.toList (ordL l 0)[j'] = false) (fun i _ => (ordL l 0).length - (intOf i).toNat)
  case atStart => exact ⟨Below.refl _ _, 0, by omega, rfl, fun j' _ h => by omega⟩
  case round =>
    obtain ⟨hbw, j, hj, rfl, hn⟩ := hrel
    have HN := Lib.hid hn
    clear hn
    have hbww := hb16.trans (hbw.mono hb16.size)
    by_cases hjl : j < (ordL l 0).length
    · obtain ⟨bk, ok, rfl, hbk, hck⟩ := (HI.out.below hbw).at_ hjl
      have hix := (ord_mem hr hi0 _ (List.getElem_mem hjl)).1
      have HHT := Lib.hid (nam_at (id := id.toList) hjl)
      generalize hx : (ordL l 0)[j] = x at hck hix HHT
      have HX := Lib.hid hx
      clear hx
      obtain ⟨q, rfl, hq⟩ := is_nat hix
      have hal := small_attrs hs hq
      obtain ⟨T3, ac3, K3, kc3, -, -, v2, -, -, hT, -, hac, -⟩ := (h.below (hbww.mono hB)).at2 hq
      have hzr : B ≤ wr.heap.size := by have := hbww.size; omega
      by_cases h0 : fnd l[q].attrs (⟨#[105, 100]⟩ : ByteArray).toList < 0
      · have HNO := Lib.hid (show hit l id.toList (q : Int) = false from hit_none (by rw [attrsOf_at hq]; exact aVal_none h0))
        obtain ⟨f, hf⟩ : ∃ f, fnd l[q].attrs (⟨#[105, 100]⟩ : ByteArray).toList = f := ⟨_, rfl⟩
        rw [hf] at h0
        have h0' : decide (0 ≤ f) = false := decide_eq_false (by omega)
        go_wp2_with (go_at_call 72; refine (find_c T3 ac3 _ l[q].attrs _ _ B hzr rfl hal hT).mono ?_; rw [hf]; rintro e w2 ⟨rfl, hb2⟩)
        go_roundw
        case rel => exact ⟨hbw.trans (hb2.mono hbw.size), j + 1, by omega, by go_num, fun j' h1 h2 => by
          by_cases e : j' = j
          · subst e; rw [HX.out]; exact HNO.out
          · exact HN.out j' h1 (by omega)⟩
        case measure => simp [intOf]; omega
      · obtain ⟨m, hm⟩ := Int.eq_ofNat_of_zero_le (Int.not_lt.1 h0)
        have hml := (fnd_bd l[q].attrs (⟨#[105, 100]⟩ : ByteArray).toList).2
        rw [hm] at hml
        have hml' : m < l[q].attrs.length := by omega
        have HV := Lib.hid (show hit l id.toList (q : Int) = (l[q].attrs[m].val.toList == id.toList) from hit_some (by rw [attrsOf_at hq]; exact aVal_at hm hml'))
        have hm0 : (0 : Int) ≤ (m : Int) := by omega
        clear h0
        by_cases he : (l[q].attrs[m].val.toList == id.toList) = true
        · go_wp2_with (go_at_call 72; refine (find_c T3 ac3 _ l[q].attrs _ _ B hzr rfl hal hT).mono ?_; rw [hm]; rintro e w2 ⟨rfl, hb2⟩; obtain ⟨T4, ac4, K4, kc4, -, -, x2, -, -, hT4, -, -, -⟩ := (h.below ((hbww.trans (hb2.mono hbww.size)).mono hB)).at2 hq; obtain ⟨b', o', rfl, hb', hc1, hc2⟩ := hT4.at_ hml')
          go_ret
          exact ⟨ret_int (by rw [HR.out, HHT.out (by rw [HV.out]; exact he) HN.out]), hbww.trans (hb2.mono hbww.size)⟩
        · have he' : (l[q].attrs[m].val.toList == id.toList) = false := by simpa using he
          clear he
          go_wp2_with (go_at_call 72; refine (find_c T3 ac3 _ l[q].attrs _ _ B hzr rfl hal hT).mono ?_; rw [hm]; rintro e w2 ⟨rfl, hb2⟩; obtain ⟨T4, ac4, K4, kc4, -, -, x2, -, -, hT4, -, -, -⟩ := (h.below ((hbww.trans (hb2.mono hbww.size)).mono hB)).at2 hq; obtain ⟨b', o', rfl, hb', hc1, hc2⟩ := hT4.at_ hml')
          go_roundw
          case rel => exact ⟨hbw.trans (hb2.mono hbw.size), j + 1, by omega, by go_num, fun j' h1 h2 => by
            by_cases e : j' = j
            · subst e; rw [HX.out, HV.out]; exact he'
            · exact HN.out j' h1 (by omega)⟩
          case measure => simp [intOf]; omega
    · have HR2 := Lib.hid (nam_none (l := l) (id := id.toList) fun j' h' => HN.out j' h' (by omega))
      go_wp2_with fail
      go_ret
      exact ⟨ret_int (by rw [HR.out, HR2.out]), hbww⟩
set_option maxRecDepth 100000 in
set_option maxHeartbeats 4000000 in
theorem ByID_c (A : Option Addr) (c : Nat) (l : List GNode) (hr : RightP l) (id : ByteArray) (w : World) (B : Nat) (hB : B ≤ w.heap.size) (hs : ∀ n ∈ l, NodeSmall reachBytes n) (hids : id.size ≤ 4611686018427387904) (h : NodesAt w B A l) (rv : Int) (hrv : rv = if id.toList.isEmpty = false then nam l id.toList else -1) :
    Calls Try.prog 36 #[.slice A l.length c, .string id] w fun e w' => e = .returned (.int .i64 rv) ∧ Below w.heap.size w w' := by
  have HRV := Lib.hid hrv
  clear hrv
  obtain ⟨⟨hpos, h400, _⟩, _⟩ := _root_.id hr
  obtain ⟨b, o, rfl, hbB, -⟩ := h.at_ hpos
  have hi0 : Is l 0 := ⟨by omega, by omega⟩
  have hol := ord_length hr hi0
  have HE := Lib.hid (ba_empty id)
  go_enter Try.func36, Try.ntmps36
  go_wp2_with (go_at_call 45; refine (rOrder_c _ c l hr 0 hi0 w B hB h).mono ?_; rintro e w6 ⟨v6, rfl, ho6, hb6⟩; obtain ⟨T6, c6, rfl⟩ := owns_slice ho6)
  have hi6 := ho6.ints
  have HI := Lib.hid hi6
  have hw6 := h.below (hb6.mono hB)
  clear ho6 hi6
  go_loop [6] (fun i => ∃ j : Nat, j ≤ (ordL l 0).length ∧ i = .int .i64 j ∧ (id.toList.isEmpty = false → ∀ j' (h : j' < (ordL l 0).length), j' < j → hit l id.toList (ordL l 0)[j'] = false)) (fun i => (ordL l 0).length - (intOf i).toNat)
  case atStart => exact ⟨0, by omega, rfl, fun _ j' _ h => by omega⟩
  case round =>
    obtain ⟨j, hj, rfl, hn⟩ := hrel
    have HN := Lib.hid hn
    clear hn
    by_cases hjl : j < (ordL l 0).length
    · obtain ⟨bk, ok, rfl, hbk, hck⟩ := HI.out.at_ hjl
      have hix := (ord_mem hr hi0 _ (List.getElem_mem hjl)).1
      have HHT := Lib.hid (nam_at (id := id.toList) hjl)
      generalize hx : (ordL l 0)[j] = x at hck hix HHT
      have HX := Lib.hid hx
      clear hx
      have hat := rAttr_c _ c l x hix ⟨#[105, 100]⟩ w6 B hs hw6
      have HN0 := Lib.hid (hit_none (l := l) (id := id.toList) (k := x))
      have HN1 := Lib.hid (fun v => hit_some (l := l) (id := id.toList) (k := x) (v := v))
      generalize aVal (attrsOf l x) (⟨#[105, 100]⟩ : ByteArray).toList = av at hat HN0 HN1
      cases av with
      | none =>
        have HNO := Lib.hid (HN0.out rfl)
        simp only [aStr, Option.getD, Option.isSome] at hat
        go_wp2_with (go_at_call 44; refine hat.mono ?_; rintro e w2 ⟨rfl, rfl⟩)
        go_round
        case rel => exact ⟨j + 1, by omega, by go_num, fun h0 j' h1 h2 => by
          by_cases e : j' = j
          · subst e; rw [HX.out]; exact HNO.out
          · exact HN.out h0 j' h1 (by omega)⟩
        case measure => simp [intOf]; omega
      | some v =>
        have HV := Lib.hid (HN1.out v rfl)
        simp only [aStr, Option.getD, Option.isSome] at hat
        by_cases he : (v.toList == id.toList) = true
        · by_cases hz : id.size = 0
          · have HZ := Lib.hid (show ¬ id.toList.isEmpty = false from fun e => by rw [HE.out.2 hz] at e; exact absurd e (by simp))
            have hz' : decide ((0 : Int) < (id.size : Int)) = false := decide_eq_false (by omega)
            go_wp2_with (go_at_call 44; refine hat.mono ?_; rintro e w2 ⟨rfl, rfl⟩)
            go_round
            case rel => exact ⟨j + 1, by omega, by go_num, fun h0 => absurd h0 HZ.out⟩
            case measure => simp [intOf]; omega
          · have HZ := Lib.hid (show id.toList.isEmpty = false by
              cases e : id.toList.isEmpty with
              | false => rfl
              | true => exact absurd (HE.out.1 e) hz)
            have hz' : (0 : Int) < (id.size : Int) := by omega
            clear hz
            go_wp2_with (go_at_call 44; refine hat.mono ?_; rintro e w2 ⟨rfl, rfl⟩)
            go_ret
            exact ⟨ret_int (by rw [HRV.out, if_pos HZ.out, HHT.out (by rw [HV.out]; exact he) (HN.out HZ.out)]), hb6⟩
        · have he' : (v.toList == id.toList) = false := by simpa using he
          clear he
          go_wp2_with (go_at_call 44; refine hat.mono ?_; rintro e w2 ⟨rfl, rfl⟩)
          go_round
          case rel => exact ⟨j + 1, by omega, by go_num, fun h0 j' h1 h2 => by
            by_cases e : j' = j
            · subst e; rw [HX.out, HV.out]; exact he'
            · exact HN.out h0 j' h1 (by omega)⟩
          case measure => simp [intOf]; omega
    · have HR2 := Lib.hid (show (if id.toList.isEmpty = false then nam l id.toList else -1) = -1 by
        split
        · rename_i h0; exact nam_none fun j' h' => HN.out h0 j' h' (by omega)
        · rfl)
      go_wp2_with fail
      go_ret
      exact ⟨ret_int (by rw [HRV.out, HR2.out]), hb6⟩

set_option maxRecDepth 100000 in
set_option maxHeartbeats 2000000 in
theorem TreeNamed_w (a : Option Addr × List GNode × Nat) (id : ByteArray) (w : World) (hd : DocIn w a.1 a.2.1) (hids : id.size ≤ reachBytes) :
    Calls Try.prog 11 #[.slice a.1 a.2.1.length a.2.2, .string id] w fun e w' => e = .returned (.bool true) ∧ Below w.heap.size w w' := by
  obtain ⟨A, l, c⟩ := a
  dsimp only at hd ⊢
  obtain ⟨h, -, hs, hln⟩ := hd
  have hll : l.length ≤ 4611686018427387904 := by unfold reachBytes at hln; omega
  have hids' : id.size ≤ 4611686018427387904 := by unfold reachBytes at hids; omega
  have hcur : Below w.heap.size w w := Below.refl _ _
  clear hids
  by_cases hr : RightP l
  · have hrb := rightB_yes hr
    obtain ⟨rv, hrv⟩ : ∃ rv : Int, rv = if id.toList.isEmpty = false then nam l id.toList else -1 := ⟨_, rfl⟩
    have HB := Lib.hid hrv
    have HN := Lib.hid (show rv = if rightB l = true ∧ id.toList.isEmpty = false then nam l id.toList else -1 by rw [hrv, hrb]; simp)
    clear hrv
    go_enter Try.func11, Try.ntmps11
    go_wp2_with (first | (go_at_call 27; refine (wakes_c _).mono ?_; rintro e w1 ⟨rfl, hb1⟩; replace hcur := hcur.trans (hb1.mono hcur.size); clear hb1) | (go_at_call 22; refine (rCopied_c A c l _ w.heap.size hcur.size hs hln (h.below hcur)).mono ?_; rintro e w2 ⟨v, rfl, hdoc, hb2⟩; replace hcur := hcur.trans (hb2.mono hcur.size); clear hb2; obtain ⟨A2, c2, rfl, hn2, -⟩ := hdoc.nodes) | (go_at_call 35; refine (Named_c A2 c2 l id _ _ (Nat.le_refl _) hs hll hn2 rv HN.out).mono ?_; rintro e w3 ⟨rfl, hb3⟩; replace hcur := hcur.trans (hb3.mono hcur.size); clear hb3) | (go_at_call 29; refine (rRight_c A c l _ w.heap.size hcur.size hs hll (h.below hcur)).mono ?_; rintro e w4 ⟨rfl, hb4⟩; replace hcur := hcur.trans (hb4.mono hcur.size); clear hb4) | (go_at_call 36; refine (ByID_c A c l hr id _ w.heap.size hcur.size hs hids' (h.below hcur) rv HB.out).mono ?_; rintro e w5 ⟨rfl, hb5⟩; replace hcur := hcur.trans (hb5.mono hcur.size); clear hb5))
    go_ret
    exact ⟨by simp, hcur⟩
  · have hrb := rightB_no hr
    have HN := Lib.hid (show (-1 : Int) = if rightB l = true ∧ id.toList.isEmpty = false then nam l id.toList else -1 by rw [hrb]; simp)
    clear hr
    go_enter Try.func11, Try.ntmps11
    go_wp2_with (first | (go_at_call 27; refine (wakes_c _).mono ?_; rintro e w1 ⟨rfl, hb1⟩; replace hcur := hcur.trans (hb1.mono hcur.size); clear hb1) | (go_at_call 22; refine (rCopied_c A c l _ w.heap.size hcur.size hs hln (h.below hcur)).mono ?_; rintro e w2 ⟨v, rfl, hdoc, hb2⟩; replace hcur := hcur.trans (hb2.mono hcur.size); clear hb2; obtain ⟨A2, c2, rfl, hn2, -⟩ := hdoc.nodes) | (go_at_call 35; refine (Named_c A2 c2 l id _ _ (Nat.le_refl _) hs hll hn2 (-1) HN.out).mono ?_; rintro e w3 ⟨rfl, hb3⟩; replace hcur := hcur.trans (hb3.mono hcur.size); clear hb3) | (go_at_call 29; refine (rRight_c A c l _ w.heap.size hcur.size hs hll (h.below hcur)).mono ?_; rintro e w4 ⟨rfl, hb4⟩; replace hcur := hcur.trans (hb4.mono hcur.size); clear hb4))
    go_ret
    exact ⟨by simp, hcur⟩
end Go.Proofs.Ytpgcaehbbdnhiaa

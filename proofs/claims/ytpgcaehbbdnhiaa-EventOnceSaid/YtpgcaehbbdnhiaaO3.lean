/- has, Has, Order, inside, SameInts; the example of the laws holds: wakes. -/
import Derived.Test.YtpgcaehbbdnhiaaO2
namespace Go.Proofs.Ytpgcaehbbdnhiaa
open Go.RowKit
/-- there is a node, in a right document -/
noncomputable def hasB (l : List GNode) (k : Int) : Bool := @decide (Is l k ∧ RightP l) (Classical.propDecidable _)
theorem hasB_yes {l : List GNode} {k : Int} (h : Is l k) (hr : RightP l) : hasB l k = true := by unfold hasB; exact @decide_eq_true _ (Classical.propDecidable _) ⟨h, hr⟩
theorem hasB_no {l : List GNode} {k : Int} (h : ¬ (Is l k ∧ RightP l)) : hasB l k = false := by unfold hasB; exact @decide_eq_false _ (Classical.propDecidable _) h
theorem hasB_iff {l : List GNode} {k : Int} : hasB l k = true ↔ Is l k ∧ RightP l := by unfold hasB; exact @decide_eq_true_iff _ (Classical.propDecidable _)
theorem hasB_right {l : List GNode} {k : Int} (h : Is l k) : hasB l k = rightB l := by
  by_cases hr : RightP l
  · rw [hasB_yes h hr, rightB_yes hr]
  · rw [hasB_no fun e => hr e.2, rightB_no hr]
set_option maxRecDepth 100000 in
set_option maxHeartbeats 4000000 in
theorem has_c (A : Option Addr) (c : Nat) (l : List GNode) (k : Int) (w : World) (B : Nat) (hB : B ≤ w.heap.size) (hs : ∀ n ∈ l, NodeSmall reachBytes n) (hll : l.length ≤ 4611686018427387904) (h : NodesAt w B A l) :
    Calls Try.prog 62 #[.slice A l.length c, .int .i64 k] w fun e w' => e = .returned (.bool (hasB l k)) ∧ Below w.heap.size w w' := by
  by_cases h0 : 0 ≤ k
  · by_cases h1 : k < l.length
    · have HR := Lib.hid (hasB_right ⟨h0, h1⟩)
      go_enter Try.func62, Try.ntmps62
      go_wp2_with (go_at_call 28; refine (Right_c A c l w B hB hs hll h).mono ?_; rintro e w1 ⟨rfl, hb1⟩)
      go_ret
      exact ⟨ret_bool HR.out.symm, hb1⟩
    · have HR := Lib.hid (hasB_no (l := l) (k := k) fun e => h1 e.1.2)
      have h1' : decide (k < (l.length : Int)) = false := decide_eq_false h1
      go_enter Try.func62, Try.ntmps62
      go_wp2_with fail
      go_ret
      exact ⟨ret_bool HR.out.symm, Below.refl _ _⟩
  · have HR := Lib.hid (hasB_no (l := l) (k := k) fun e => h0 e.1.1)
    have h0' : decide (0 ≤ k) = false := decide_eq_false h0
    go_enter Try.func62, Try.ntmps62
    go_wp2_with fail
    go_ret
    exact ⟨ret_bool HR.out.symm, Below.refl _ _⟩
set_option maxRecDepth 100000 in
set_option maxHeartbeats 4000000 in
theorem rHas_c (A : Option Addr) (c : Nat) (l : List GNode) (k : Int) (w : World) (B : Nat) (hB : B ≤ w.heap.size) (hs : ∀ n ∈ l, NodeSmall reachBytes n) (hll : l.length ≤ 4611686018427387904) (h : NodesAt w B A l) :
    Calls Try.prog 40 #[.slice A l.length c, .int .i64 k] w fun e w' => e = .returned (.bool (hasB l k)) ∧ Below w.heap.size w w' := by
  by_cases h0 : 0 ≤ k
  · by_cases h1 : k < l.length
    · have HR := Lib.hid (hasB_right ⟨h0, h1⟩)
      go_enter Try.func40, Try.ntmps40
      go_wp2_with (go_at_call 29; refine (rRight_c A c l w B hB hs hll h).mono ?_; rintro e w1 ⟨rfl, hb1⟩)
      go_ret
      exact ⟨ret_bool HR.out.symm, hb1⟩
    · have HR := Lib.hid (hasB_no (l := l) (k := k) fun e => h1 e.1.2)
      have h1' : decide (k < (l.length : Int)) = false := decide_eq_false h1
      go_enter Try.func40, Try.ntmps40
      go_wp2_with fail
      go_ret
      exact ⟨ret_bool HR.out.symm, Below.refl _ _⟩
  · have HR := Lib.hid (hasB_no (l := l) (k := k) fun e => h0 e.1.1)
    have h0' : decide (0 ≤ k) = false := decide_eq_false h0
    go_enter Try.func40, Try.ntmps40
    go_wp2_with fail
    go_ret
    exact ⟨ret_bool HR.out.symm, Below.refl _ _⟩
set_option maxRecDepth 100000 in
set_option maxHeartbeats 4000000 in
theorem Order_c (A : Option Addr) (c : Nat) (l : List GNode) (k : Int) (w : World) (B : Nat) (hB : B ≤ w.heap.size) (hs : ∀ n ∈ l, NodeSmall reachBytes n) (hll : l.length ≤ 4611686018427387904) (h : NodesAt w B A l) :
    Calls Try.prog 30 #[.slice A l.length c, .int .i64 k] w fun e w' => ∃ v, e = .returned v ∧ OwnInts w' w.heap.size v (if hasB l k then ordL l k else []) ∧ Below w.heap.size w w' := by
  by_cases hh : hasB l k = true
  · obtain ⟨hi, hr⟩ := hasB_iff.1 hh
    rw [if_pos hh]
    go_enter Try.func30, Try.ntmps30
    go_wp2_with (first | (go_at_call 62; refine (has_c A c l k w B hB hs hll h).mono ?_; rintro e w1 ⟨rfl, hb1⟩; have hw1 := h.below (hb1.mono hB); have hz1 : B ≤ w1.heap.size := by (have := hb1.size; omega)) | (go_at_call 63; refine (order_c A c l hr B k hi w1 hz1 hw1).mono ?_; rintro e w2 ⟨v, rfl, ho, hb2⟩))
    go_ret
    exact ⟨_, rfl, owns_baseMono ho hb1.size, hb1.trans (hb2.mono hb1.size)⟩
  · have hh' : hasB l k = false := by simpa using hh
    rw [if_neg hh]
    clear hh
    go_enter Try.func30, Try.ntmps30
    go_wp2_with (go_at_call 62; refine (has_c A c l k w B hB hs hll h).mono ?_; rintro e w1 ⟨rfl, hb1⟩)
    go_ret
    exact ⟨_, rfl, World.ownsRow_nil _ _ _ _, hb1⟩

set_option maxRecDepth 100000 in
set_option maxHeartbeats 4000000 in
theorem SameInts_c (A : Option Addr) (ca : Nat) (l : List Int) (A' : Option Addr) (ca' : Nat) (l' : List Int) (w : World) (B : Nat) (hB : B ≤ w.heap.size) (_hl : l.length ≤ 4611686018427387904) (_hl' : l'.length ≤ 4611686018427387904) (h : IntsAt w B A l) (h' : IntsAt w B A' l') :
    Calls Try.prog 20 #[.slice A l.length ca, .slice A' l'.length ca'] w fun e w' => e = .returned (.bool (l == l')) ∧ Below w.heap.size w w' := by
  by_cases hn : l.length = l'.length
  · have hn' : ((l.length : Int) != (l'.length : Int)) = false := by simp [hn]
    go_enter Try.func20, Try.ntmps20
    go_wp2_with fail
    go_loopw [5] (fun i wr => Below w.heap.size w wr ∧ ∃ m : Nat, m ≤ l.length ∧ i = .int .i64 m ∧ ∀ j (h1 : j < l.length) (h2 : j < l'.length), j < m → l[j] = l'[j]) (fun i _ => l.length - (intOf i).toNat)
    case atStart => exact ⟨Below.refl _ _, 0, by omega, rfl, fun j _ _ h => by omega⟩
    case round =>
      obtain ⟨hbw, m, hm, rfl, hj⟩ := hrel
      have HJ := Lib.hid hj
      clear hj
      by_cases hlt : m < l.length
      · have hlt' : m < l'.length := by omega
        obtain ⟨b, o, rfl, hb, hc⟩ := (h.below (hbw.mono hB)).at_ hlt
        obtain ⟨b', o', rfl, hb', hc'⟩ := (h'.below (hbw.mono hB)).at_ hlt'
        have k0 : (0 : Int) ≤ (m : Int) := by omega
        have k1 : (m : Int) < (l.length : Int) := by omega
        have k2 : (m : Int) < (l'.length : Int) := by omega
        generalize hx : l[m] = x at hc
        generalize hy : l'[m] = y at hc'
        have HX := Lib.hid hx
        have HY := Lib.hid hy
        clear hx hy
        by_cases e : x = y
        · have HE := Lib.hid (show l[m] = l'[m] by rw [HX.out, HY.out]; exact e)
          subst e
          go_wp2_with fail
          go_quiet (fail)
          go_wp2_with fail
          go_roundw
          case rel => exact ⟨hbw.trans (Below.drewN_ (Below.refl _ _) _), m + 1, by omega, by go_num, fun j h1 h2 h3 => by
            by_cases e : j = m
            · subst e; exact HE.out
            · exact HJ.out j h1 h2 (by omega)⟩
          case measure => simp [intOf]; omega
        · have HR := Lib.hid (show (l == l') = false by
            rw [beq_eq_false_iff_ne]
            intro e2
            subst e2
            rw [HX.out] at HY
            exact e HY.out)
          have e' : (x != y) = true := by simpa using e
          clear e
          go_wp2_with fail
          go_quiet (fail)
          go_wp2_with fail
          go_ret
          exact ⟨ret_bool HR.out.symm, hbw.trans (Below.drewN_ (Below.refl _ _) _)⟩
      · have HR := Lib.hid (show (l == l') = true by
          rw [beq_iff_eq]
          exact List.ext_getElem hn fun j h1 h2 => HJ.out j h1 h2 (by omega))
        go_wp2_with fail
        go_ret
        exact ⟨ret_bool HR.out.symm, hbw⟩
  · have HR := Lib.hid (show (l == l') = false by rw [beq_eq_false_iff_ne]; intro e; rw [e] at hn; exact hn rfl)
    have hn' : ((l.length : Int) != (l'.length : Int)) = true := by simp; omega
    clear hn
    go_enter Try.func20, Try.ntmps20
    go_wp2_with fail
    go_ret
    exact ⟨ret_bool HR.out.symm, Below.refl _ _⟩

/-- another one is a node, or above it -/
def InsideP (l : List GNode) (k other : Int) : Prop := ∃ m, climb l m k = other ∧ 0 ≤ climb l m k
noncomputable def insideB (l : List GNode) (k other : Int) : Bool := @decide (InsideP l k other) (Classical.propDecidable _)
theorem insideB_yes {l : List GNode} {k o : Int} (h : InsideP l k o) : insideB l k o = true := by unfold insideB; exact @decide_eq_true _ (Classical.propDecidable _) h
theorem insideB_no {l : List GNode} {k o : Int} (h : ¬ InsideP l k o) : insideB l k o = false := by unfold insideB; exact @decide_eq_false _ (Classical.propDecidable _) h
set_option maxRecDepth 100000 in
set_option maxHeartbeats 4000000 in
theorem inside_c (A : Option Addr) (c : Nat) (l : List GNode) (hr : RightP l) (k other : Int) (hk : k < l.length) (w : World) (B : Nat) (h : NodesAt w B A l) :
    Calls Try.prog 68 #[.slice A l.length c, .int .i64 k, .int .i64 other] w fun e w' => e = .returned (.bool (insideB l k other)) ∧ w = w' := by
  have hrg := climb_rg hr hk
  obtain ⟨⟨_, h400, _⟩, _⟩ := id hr
  go_enter Try.func68, Try.ntmps68
  go_wp2_with fail
  go_loop [1] (fun x => ∃ m : Nat, x = .int .i64 (climb l m k) ∧ ∀ m', m' < m → ¬ (climb l m' k = other ∧ 0 ≤ climb l m' k)) (fun x => dep l (l.length + 1) (intOf x))
  case atStart => exact ⟨0, rfl, fun m' h => by omega⟩
  case round =>
    obtain ⟨m, rfl, hn⟩ := hrel
    have HN := Lib.hid hn
    clear hn
    have hx1 := hrg m
    have HS := Lib.hid (climb_succ (l := l) (m := m) (k := k))
    have HL := Lib.hid (fun m' => climb_le (l := l) (m := m) (m' := m') (k := k))
    generalize hx : climb l m k = x at hx1 HS HL
    have HX := Lib.hid hx
    clear hx
    by_cases hneg : x < 0
    · have HR := Lib.hid (insideB_no (l := l) (k := k) (o := other) fun ⟨m', h1, h2⟩ => by
        rcases Nat.lt_or_ge m' m with hlt | hge
        · exact HN.out m' hlt ⟨h1, h2⟩
        · have := HL.out m' hneg hge; omega)
      have hneg' : decide (0 ≤ x) = false := decide_eq_false (by omega)
      go_wp2
      go_ret
      exact ⟨ret_bool HR.out.symm, rfl⟩
    · obtain ⟨q, rfl⟩ : ∃ q : Nat, x = q := ⟨x.toNat, by omega⟩
      have hq : q < l.length := by omega
      have hq0 : (0 : Int) ≤ (q : Int) := by omega
      have HP := Lib.hid (parOf_at hq)
      have HD := Lib.hid (dep_par hr (x := (q : Int)) ⟨by omega, by omega⟩)
      obtain ⟨b, o, rfl, hb, T3, ac3, K3, kc3, -, -, -, v3, -, -, -, -, -⟩ := h.at_ hq
      clear hneg
      by_cases he : (q : Int) = other
      · have HR := Lib.hid (insideB_yes (l := l) (k := k) (o := other) ⟨m, by rw [HX.out]; exact he, by rw [HX.out]; exact hq0⟩)
        have he' : ((q : Int) == other) = true := by simpa using he
        clear he
        go_wp2
        go_ret
        exact ⟨ret_bool HR.out.symm, rfl⟩
      · have he' : ((q : Int) == other) = false := by simpa using he
        have HE := Lib.hid he
        clear he
        go_wp2
        go_round
        case rel => exact ⟨m + 1, by rw [HS.out (by omega), HP.out], fun m' h1 h2 => by
          by_cases e : m' = m
          · subst e; rw [HX.out] at h2; exact HE.out h2.1
          · exact HN.out m' (by omega) h2⟩
        case measure => simp only [intOf]; rw [← HP.out]; exact HD.out

/-! ### the example -/
def b_html : ByteArray := ⟨#[104, 116, 109, 108]⟩
def b_form : ByteArray := ⟨#[102, 111, 114, 109]⟩
def b_input : ByteArray := ⟨#[105, 110, 112, 117, 116]⟩
def someL : List GNode := [⟨⟨#[104, 116, 109, 108]⟩, ⟨#[]⟩, [], -1, [1]⟩, ⟨⟨#[102, 111, 114, 109]⟩, ⟨#[]⟩, [], 0, [2]⟩, ⟨⟨#[105, 110, 112, 117, 116]⟩, ⟨#[]⟩, [], 1, []⟩]
theorem some_one (s : ByteArray) (p : Int) (kd : List Int) (h : s.toList.isEmpty = false) (hn : nameB s.toList = true) : OneP ⟨s, ⟨#[]⟩, [], p, kd⟩ := by
  unfold OneP
  rw [if_neg (by simp only; rw [h]; simp)]
  exact ⟨hn, rfl, Nat.zero_le _, fun i hi => absurd hi (Nat.not_lt_zero _)⟩
theorem some_right : RightP someL := by
  have e : ∀ l : List UInt8, (⟨l.toArray⟩ : ByteArray).toList = l := ba_mk
  refine ⟨⟨by decide, by decide, by show (⟨[104, 116, 109, 108].toArray⟩ : ByteArray).toList.isEmpty = false; rw [e]; rfl, rfl⟩, fun i hi => ?_, fun i hi => ?_⟩
  · match i, hi with
    | 0, _ =>
      refine ⟨by decide, some_one _ _ _ (by show (⟨[104, 116, 109, 108].toArray⟩ : ByteArray).toList.isEmpty = false; rw [e]; rfl) (by show nameB (⟨[104, 116, 109, 108].toArray⟩ : ByteArray).toList = true; rw [e]; decide), by decide, by decide, fun h => absurd h (by decide), fun j hj => ?_⟩
      match j, hj with
      | 0, _ => exact ⟨by decide +revert, by decide +revert, by decide +revert⟩
    | 1, _ =>
      refine ⟨by decide, some_one _ _ _ (by show (⟨[102, 111, 114, 109].toArray⟩ : ByteArray).toList.isEmpty = false; rw [e]; rfl) (by show nameB (⟨[102, 111, 114, 109].toArray⟩ : ByteArray).toList = true; rw [e]; decide), by decide, by decide, fun _ => by decide, fun j hj => ?_⟩
      match j, hj with
      | 0, _ => exact ⟨by decide +revert, by decide +revert, by decide +revert⟩
    | 2, _ =>
      refine ⟨by decide, some_one _ _ _ (by show (⟨[105, 110, 112, 117, 116].toArray⟩ : ByteArray).toList.isEmpty = false; rw [e]; rfl) (by show nameB (⟨[105, 110, 112, 117, 116].toArray⟩ : ByteArray).toList = true; rw [e]; decide), by decide, by decide, fun _ => by decide, fun j hj => absurd hj (Nat.not_lt_zero _)⟩
  · match i, hi with
    | 0, _ => decide
    | 1, _ => decide
    | 2, _ => decide
theorem some_order : ordL someL 0 = [0, 1, 2] := by decide
end Go.Proofs.Ytpgcaehbbdnhiaa

/- The path to a node: plain, and slices.Reverse, Within walked. -/
import Derived.Test.YtpgcaehbbdnhiaaO3
import Derived.Test.YtpgcaehbbdnhiaaN2
import Derived.Test.YtpgcaehbbdnhiaaB1
namespace Go.Proofs.Ytpgcaehbbdnhiaa
open Go.RowKit
/-- on the way up -/
def onWay (l : List GNode) (t x : Int) : Prop := ∃ m, climb l m t = x ∧ 0 ≤ x
noncomputable def onWayB (l : List GNode) (t x : Int) : Bool := @decide (onWay l t x) (Classical.propDecidable _)
theorem onWayB_iff {l : List GNode} {t x : Int} : onWayB l t x = true ↔ onWay l t x := by unfold onWayB; exact @decide_eq_true_iff _ (Classical.propDecidable _)
theorem onWay_eq {l : List GNode} {t x : Int} (ht : 0 ≤ t) : onWayB l t x = ((x == t) || insideB l (parOf l t) x) := by
  have h1 : onWay l t x ↔ x = t ∨ InsideP l (parOf l t) x := by
    constructor
    · rintro ⟨m, hm, h0⟩
      cases m with
      | zero => exact .inl hm.symm
      | succ m => rw [climb_front (by omega)] at hm; exact .inr ⟨m, hm, by omega⟩
    · rintro (rfl | ⟨m, hm, h0⟩)
      · exact ⟨0, rfl, ht⟩
      · exact ⟨m + 1, by rw [climb_front (by omega)]; exact hm, by omega⟩
  cases hx : onWayB l t x with
  | true =>
    have := h1.1 (onWayB_iff.1 hx)
    rcases this with rfl | h
    · simp
    · rw [insideB_yes h]; simp
  | false =>
    have hn : ¬ onWay l t x := fun h => by rw [onWayB_iff.2 h] at hx; exact absurd hx (by simp)
    have h2 : x ≠ t := fun e => hn (h1.2 (.inl e))
    have h3 : ¬ InsideP l (parOf l t) x := fun e => hn (h1.2 (.inr e))
    rw [insideB_no h3]; simp [h2]
theorem flat_one {α : Type} {f : Int → List α} : ∀ (l : List Int) (c : Int), l.Pairwise (· ≠ ·) → c ∈ l → (∀ x ∈ l, x ≠ c → f x = []) → l.flatMap f = f c
  | [], _, _, h, _ => by simp at h
  | a :: l, c, hp, hc, h => by
    rw [List.pairwise_cons] at hp
    rw [List.flatMap_cons]
    by_cases e : a = c
    · subst e
      have : l.flatMap f = [] := by
        rw [List.flatMap_eq_nil_iff]
        intro x hx
        exact h x (List.mem_cons_of_mem _ hx) (fun e => hp.1 x hx e.symm)
      rw [this, List.append_nil]
    · have hcl : c ∈ l := by rcases List.mem_cons.1 hc with h1 | h1; exact absurd h1.symm e; exact h1
      rw [h a (List.mem_cons_self ..) e, List.nil_append]
      exact flat_one l c hp.2 hcl fun x hx => h x (List.mem_cons_of_mem _ hx)
/-- the order of a node above, sifted: the way down -/
theorem way_down {l : List GNode} (hr : RightP l) {t : Int} (ht : Is l t) : ∀ m, 0 ≤ climb l m t → (ordL l (climb l m t)).filter (onWayB l t) = ((List.range (m + 1)).map fun j => climb l j t).reverse
  | 0, h0 => by
    show (ordL l t).filter (onWayB l t) = [t]
    rw [ordL_eq hr ht, List.filter_cons_of_pos ((onWayB_iff (l := l) (t := t) (x := t)).2 ⟨0, rfl, ht.1⟩)]
    congr 1
    rw [List.filter_eq_nil_iff]
    intro y hy hw
    rw [List.mem_flatMap] at hy
    obtain ⟨c, hc, hy⟩ := hy
    obtain ⟨hci, hcp⟩ := kid_is hr ht hc
    obtain ⟨hyi, m, hm⟩ := ord_mem hr hci y hy
    obtain ⟨m', hm', _⟩ := onWayB_iff.1 hw
    refine right_no_cycle hr ht (d := m' + (m + 1)) (by omega) ?_
    rw [climb_add, hm', climb_succ (by rw [hm]; have := hci.1; omega), hm, hcp]
  | m + 1, h0 => by
    have hb : ¬ climb l m t < 0 := fun h => by have := climb_le h (m' := m + 1) (by omega); omega
    have hci : Is l (climb l m t) := ⟨by omega, climb_rg hr ht.2 m⟩
    have hs := climb_succ (l := l) (m := m) (k := t) hb
    obtain ⟨hxi, hmem⟩ := par_is hr hci (by rw [← hs]; exact h0)
    rw [← hs] at hxi hmem
    have ih := way_down hr ht m (by omega)
    rw [ordL_eq hr hxi, List.filter_cons_of_pos ((onWayB_iff (l := l) (t := t) (x := climb l (m + 1) t)).2 ⟨m + 1, rfl, h0⟩), List.filter_flatMap]
    rw [flat_one _ (climb l m t) (nodup_of_cnt fun c hc => kid_once hr hxi hc) hmem ?_, ih]
    · rw [List.range_succ (n := m + 1), List.map_append, List.reverse_append]; simp
    · intro c hc hne
      rw [List.filter_eq_nil_iff]
      intro y hy hw
      obtain ⟨hkc, hkp⟩ := kid_is hr hxi hc
      obtain ⟨hyi, k, hk⟩ := ord_mem hr hkc y hy
      obtain ⟨m', hm', _⟩ := onWayB_iff.1 hw
      have e1 : climb l (m' + k) t = c := by rw [climb_add, hm', hk]
      have e2 : climb l (m' + k + 1) t = climb l (m + 1) t := by rw [climb_succ (by rw [e1]; have := hkc.1; omega), e1, hkp]
      have e3 := climb_same hr hxi e2 rfl
      obtain rfl : m' + k = m := by omega
      exact hne e1.symm
/-- the path to a node -/
def PathP (l : List GNode) (t : Int) (L : List Int) : Prop := ∃ j, L = ((List.range j).map fun m => climb l m t).reverse ∧ climb l j t < 0 ∧ ∀ m, m < j → 0 ≤ climb l m t
theorem path_same {l : List GNode} {t : Int} {L L' : List Int} (h : PathP l t L) (h' : PathP l t L') : L = L' := by
  obtain ⟨j, rfl, a, b⟩ := h
  obtain ⟨j', rfl, a', b'⟩ := h'
  rcases Nat.lt_trichotomy j j' with hlt | e | hlt
  · have := b' j hlt; omega
  · rw [e]
  · have := b j' hlt; omega
theorem path_ref {l : List GNode} (hr : RightP l) {t r : Int} (ht : Is l t) (h : TopP l t r) : PathP l t ((ordL l r).filter (onWayB l t)) := by
  obtain ⟨hi, hp, m, hm⟩ := h
  have h0 : 0 ≤ climb l m t := by rw [hm]; exact hi.1
  refine ⟨m + 1, by rw [← hm]; exact way_down hr ht m h0, ?_, fun k hk => ?_⟩
  · rw [climb_succ (by omega), hm]; exact hp
  · by_cases h1 : climb l k t < 0
    · have := climb_le h1 (m' := m) (by omega); omega
    · omega
theorem path_len {l : List GNode} (hr : RightP l) {t : Int} (ht : Is l t) {j : Nat} (h : ∀ m, m < j → 0 ≤ climb l m t) : j ≤ l.length + 1 := by
  rcases Nat.lt_or_ge (l.length + 1) j with h1 | h1
  · have := h _ h1; have := right_climb hr ht.2; omega
  · exact h1
set_option maxRecDepth 100000 in
set_option maxHeartbeats 1000000 in
theorem Within_c (A : Option Addr) (c : Nat) (l : List GNode) (hr : RightP l) (k other : Int) (hk : Is l k) (w : World) (B : Nat) (h : NodesAt w B A l) (bv : Bool) (hbv : bv = insideB l (parOf l k) other) :
    Calls Try.prog 55 #[.slice A l.length c, .int .i64 k, .int .i64 other] w fun e w' => e = .returned (.bool bv) ∧ w = w' := by
  have HBV := Lib.hid hbv
  clear hbv
  obtain ⟨⟨hpos, h400, _⟩, _⟩ := id hr
  obtain ⟨b, o, rfl, hbB, -⟩ := h.at_ hpos
  obtain ⟨q0, rfl, hq0⟩ := is_nat hk
  have hpl : parOf l (q0 : Int) < l.length := by have := climb_rg hr (k := (q0 : Int)) (by omega) 1; rwa [show (1 : Nat) = 0 + 1 from rfl, climb_succ (m := 0) (by show ¬ (q0 : Int) < 0; omega)] at this
  obtain ⟨T0, ac0, K0, kc0, -, -, -, v0, -, -, -, -, -⟩ := h.at2 hq0
  rw [← parOf_at hq0] at v0
  generalize parOf l (q0 : Int) = x0 at v0 hpl HBV
  have hrg := climb_rg hr hpl
  clear hk
  go_enter Try.func55, Try.ntmps55
  go_wp2_with fail
  clear v0
  go_loop [7] (fun x => ∃ m : Nat, x = .int .i64 (climb l m x0) ∧ ∀ m', m' < m → ¬ (climb l m' x0 = other ∧ 0 ≤ climb l m' x0)) (fun x => dep l (l.length + 1) (intOf x))
  case atStart => exact ⟨0, rfl, fun m' h => by omega⟩
  case round =>
    obtain ⟨m, rfl, hn⟩ := hrel
    have HN := Lib.hid hn
    clear hn
    have hx1 := hrg m
    have HS := Lib.hid (climb_succ (l := l) (m := m) (k := x0))
    have HL := Lib.hid (fun m' => climb_le (l := l) (m := m) (m' := m') (k := x0))
    generalize hx : climb l m x0 = x at hx1 HS HL
    have HX := Lib.hid hx
    clear hx
    by_cases hneg : x < 0
    · have hnot : ¬ InsideP l x0 other := fun ⟨m', h1, h2⟩ => by
        rcases Nat.lt_or_ge m' m with hlt | hge
        · exact HN.out m' hlt ⟨h1, h2⟩
        · have := HL.out m' hneg hge; omega
      have HR := Lib.hid (HBV.out.trans (insideB_no hnot))
      clear hnot
      have hneg' : decide (0 ≤ x) = false := decide_eq_false (by omega)
      go_wp2
      go_ret
      exact ⟨ret_bool HR.out.symm, rfl⟩
    · obtain ⟨q, rfl⟩ : ∃ q : Nat, x = q := ⟨x.toNat, by omega⟩
      have hq : q < l.length := by omega
      have hq0 : (0 : Int) ≤ (q : Int) := by omega
      have HP := Lib.hid (parOf_at hq)
      have HD := Lib.hid (dep_par hr (x := (q : Int)) ⟨by omega, by omega⟩)
      obtain ⟨T3, ac3, K3, kc3, -, -, -, v3, -, -, -, -, -⟩ := h.at2 hq
      clear hneg
      by_cases he : (q : Int) = other
      · have HR := Lib.hid (HBV.out.trans (insideB_yes (l := l) (k := x0) (o := other) ⟨m, by rw [HX.out]; exact he, by rw [HX.out]; exact hq0⟩))
        have he' : ((q : Int) == other) = true := by simpa using he
        clear he
        go_wp2
        go_ret
        exact ⟨ret_bool HR.out.symm, rfl⟩
      · have he' : ((q : Int) == other) = false := by simpa using he
        have HE := Lib.hid he
        clear he
        go_wp2
        go_round
        case rel => exact ⟨m + 1, by rw [HS.out (by omega), HP.out], fun m' h1 h2 => by
          by_cases e : m' = m
          · subst e; rw [HX.out] at h2; exact HE.out h2.1
          · exact HN.out m' (by omega) h2⟩
        case measure => simp only [intOf]; rw [← HP.out]; exact HD.out
/-- a list of which the ends are turned round, i from each side -/
def turned (l : List Int) (i m : Nat) : Int := if m < i ∨ l.length - i ≤ m then l.getD (l.length - 1 - m) 0 else l.getD m 0
set_option maxRecDepth 100000 in
set_option maxHeartbeats 1000000 in
theorem Reverse_c (T : Option Addr) (c : Nat) (l : List Int) (w : World) (base : Nat) (hl : l.length ≤ 1000000) (hown : w.ownsRow base 3 1 (.slice T l.length c) l.length (intCells l)) :
    Calls Try.prog 54 #[.slice T l.length c] w fun e w' => e = .returned (.tuple #[]) ∧ w'.ownsRow base 3 1 (.slice T l.length c) l.length (intCells l.reverse) ∧ w.grownBy w' (Value.slice T l.length c).ownBlock := by
  have hstart : ∀ m, m < l.length → (intCells l)[m]? = some (.int .i64 (turned l 0 m)) := fun m hm => by
    unfold turned
    rw [if_neg (by omega)]
    simp [intCells, List.getD, hm]
  go_enter Try.func54, Try.ntmps54
  go_wp2_with fail
  go_loopw [2, 3] (fun iv jv wr => ∃ (i : Nat) (xs : List Value), iv = .int .i64 i ∧ jv = .int .i64 ((l.length : Int) - 1 - i) ∧ 2 * i ≤ l.length + 1 ∧ w.grownBy wr (Value.slice T l.length c).ownBlock ∧ wr.ownsRow base 3 1 (.slice T l.length c) l.length xs ∧ ∀ m, m < l.length → xs[m]? = some (.int .i64 (turned l i m))) (fun iv _ _ => l.length + 1 - (intOf iv).toNat)
  case atStart => exact ⟨0, intCells l, rfl, by simp, by omega, ⟨rfl, rfl, rfl, Nat.le_refl _, fun _ _ _ => rfl⟩, hown, hstart⟩
  case round =>
    obtain ⟨i, xs, rfl, rfl, hi2, hg, hrow, hx⟩ := hrel
    have HX := Lib.hid hx
    clear hx
    by_cases hlt : (i : Int) < (l.length : Int) - 1 - i
    · obtain ⟨j, hj⟩ : ∃ j : Nat, (l.length : Int) - 1 - i = j := ⟨((l.length : Int) - 1 - i).toNat, by omega⟩
      rw [hj] at hlt ⊢
      have hjn : j + 1 + i = l.length := by omega
      have hij : i < j := by omega
      obtain ⟨g, cap, hT, hgb, hgl, -⟩ := owns_form hrow (by omega)
      injection hT with hT1 hT2 hT3
      subst hT1 hT3
      have ci : wr.cell? ⟨g, i, none⟩ = some (.int .i64 (l.getD i 0)) := by rw [hrow.cellAt i (by omega), HX.out i (by omega)]; unfold turned; rw [if_neg (by omega)]
      have cj : wr.cell? ⟨g, j, none⟩ = some (.int .i64 (l.getD j 0)) := by rw [hrow.cellAt j (by omega), HX.out j (by omega)]; unfold turned; rw [if_neg (by omega)]
      have fi := owns_frozen hrow i
      have fj := owns_frozen hrow j
      have r1 := hrow.stored i (.int .i64 (l.getD j 0))
      have r2 := r1.1.stored j (.int .i64 (l.getD i 0))
      have hlt' : decide ((i : Int) < (j : Int)) = true := decide_eq_true (by omega)
      have HNEW := Lib.hid (show ∀ m, m < l.length → ((xs.set i (.int .i64 (l.getD j 0))).set j (.int .i64 (l.getD i 0)))[m]? = some (Value.int .i64 (turned l (i + 1) m)) by
        intro m hm
        have hxl := hrow.1
        unfold turned
        rw [List.getElem?_set, List.getElem?_set]
        by_cases e1 : j = m
        · subst e1
          rw [if_pos rfl, if_pos (by rw [List.length_set]; omega), if_pos (by omega), show l.length - 1 - j = i by omega]
        · rw [if_neg e1]
          by_cases e2 : i = m
          · subst e2
            rw [if_pos rfl, if_pos (by omega), if_pos (by omega), show l.length - 1 - i = j by omega]
          · rw [if_neg e2, HX.out m hm]
            unfold turned
            by_cases e3 : m < i ∨ l.length - i ≤ m
            · rw [if_pos e3, if_pos (by omega)]
            · rw [if_neg e3, if_neg (by omega)])
      have hil : i < l.length := by omega
      have hjl : j < l.length := by omega
      have HIJ := Lib.hid hij
      have HJN := Lib.hid hjn
      have HR2 := Lib.hid r2
      have HR1 := Lib.hid r1
      generalize l.getD i 0 = xi at ci cj HR1 HR2 HNEW
      generalize l.getD j 0 = xj at ci cj HR1 HR2 HNEW
      clear hj hlt hij hjn r1 r2 hown hstart
      go_wp2_with fail
      go_region
      all_goals go_wp2
      all_goals go_roundw
      case rel => exact ⟨i + 1, _, by simp, by have := HJN.out; congr 1; omega, by have := HJN.out; have := HIJ.out; omega, ((hg.trans HR1.out.2).trans HR2.out.2).trans ⟨rfl, rfl, rfl, Nat.le_refl _, fun _ _ _ => rfl⟩, HR2.out.1, HNEW.out⟩
      case measure => have := HJN.out; simp [intOf]; omega
    · have HR := Lib.hid (show xs = intCells l.reverse from List.ext_getElem? fun m => by
        have hxl := hrow.1
        rcases Nat.lt_or_ge m l.length with h1 | h1
        · rw [HX.out m h1]
          have h2 : (intCells l.reverse)[m]? = some (.int .i64 (l.getD (l.length - 1 - m) 0)) := by
            simp [intCells, List.getD, h1, List.getElem?_eq_getElem (show l.length - 1 - m < l.length by omega)]
          rw [h2]
          unfold turned
          by_cases h3 : m < i ∨ l.length - i ≤ m
          · rw [if_pos h3]
          · rw [if_neg h3]; congr 2; congr 1; omega
        · rw [List.getElem?_eq_none (by omega), List.getElem?_eq_none (by simp [intCells]; omega)])
      have hlt' : decide ((i : Int) < (l.length : Int) - 1 - i) = false := decide_eq_false hlt
      have HROW := Lib.hid hrow
      clear hlt hrow
      go_wp2_with fail
      refine bodyPost_end (v := .tuple #[]) (by simp [results, Try.results54, go_sem]) rfl ⟨rfl, by have := HROW.out; rwa [HR.out] at this, hg⟩
end Go.Proofs.Ytpgcaehbbdnhiaa

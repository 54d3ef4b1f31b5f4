/- A node by itself: one of tree, alone of the document. -/
import Derived.Test.YtpgcaehbbdnhiaaT2
import Derived.Test.YtpgcaehbbdnhiaaOpen2
import Derived.Deep.RegionWith
import Derived.Deep.QuietTactic
import Derived.BigQuiet
namespace Go.Proofs.Ytpgcaehbbdnhiaa
open Go.RowKit
/-- an attribute may be, at its place -/
def AttrOk (l : List GAttr) (i : Nat) : Prop := ∃ h : i < l.length, nameB l[i].name.toList = true ∧ l[i].val.size ≤ 4000 ∧ fnd (l.take i) l[i].name.toList < 0
/-- a node may be, by itself -/
def OneP (n : GNode) : Prop :=
  if n.name.toList.isEmpty then n.attrs.length = 0 ∧ n.kids.length = 0 ∧ n.text.size ≤ 4000
  else nameB n.name.toList = true ∧ n.text.size = 0 ∧ n.attrs.length ≤ 40 ∧ ∀ i, i < n.attrs.length → AttrOk n.attrs i
noncomputable def oneB (n : GNode) : Bool := @decide (OneP n) (Classical.propDecidable _)
theorem oneB_yes {n : GNode} (h : OneP n) : oneB n = true := by unfold oneB; exact @decide_eq_true _ (Classical.propDecidable _) h
theorem oneB_no {n : GNode} (h : ¬ OneP n) : oneB n = false := by unfold oneB; exact @decide_eq_false _ (Classical.propDecidable _) h
theorem oneB_iff {n : GNode} : oneB n = true ↔ OneP n := by unfold oneB; exact @decide_eq_true_iff _ (Classical.propDecidable _)
theorem ba_empty (s : ByteArray) : s.toList.isEmpty = true ↔ s.size = 0 := by
  rw [← ba_len, List.isEmpty_iff_length_eq_zero]
theorem fnd_first {l : List GAttr} {i : Nat} (h : i < l.length) : fnd l l[i].name.toList = i ↔ fnd (l.take i) l[i].name.toList < 0 := by
  have hself : (l[i].name.toList == l[i].name.toList) = true := by simp
  constructor
  · intro e
    rw [fnd_none (l := l.take i) fun j hj => ?_]
    · omega
    · have hj' : j < i := by rw [List.length_take] at hj; omega
      rw [List.getElem_take]
      unfold fnd at e
      split at e
      · rename_i k hk
        obtain ⟨hk1, _, hk2⟩ := List.findIdx?_eq_some_iff_getElem.1 hk
        obtain rfl : k = i := by omega
        have := hk2 j hj'
        simpa using this
      · omega
  · intro e
    refine fnd_at h (fun j hj hji => ?_) hself
    unfold fnd at e
    split at e
    · omega
    · rename_i hk
      rw [List.findIdx?_eq_none_iff] at hk
      exact hk l[j] (List.mem_take_iff_getElem.2 ⟨j, by omega, rfl⟩)

theorem quiet_of_eq {P : Program} {f : FuncId} {args : Array Value} {w : World} {n : Nat} {v : Value} (h : Calls P f args (w.drewN n) fun e w' => e = .returned v ∧ w.drewN n = w') : Calls P f args (w.drewN n) fun e w'' => e = .returned v ∧ ∃ m, w'' = w.drewN m :=
  h.mono fun _ _ ⟨he, hm⟩ => ⟨he, n, hm.symm⟩
theorem Below.drewN_ {B : Nat} {a w : World} (h : Below B a w) (n : Nat) : Below B a (w.drewN n) := h.trans ⟨rfl, rfl, rfl, Nat.le_refl _, fun _ _ => rfl⟩
theorem AttrsAt.take {w : World} {B : Nat} {A : Option Addr} {l : List GAttr} (h : AttrsAt w B A l) (k : Nat) : AttrsAt w B A (l.take k) := by
  intro hne
  obtain ⟨b, o, e, hb, hc⟩ := h (by intro e; subst e; simp at hne)
  exact ⟨b, o, e, hb, fun i a hi => hc i a (by rw [List.getElem?_take] at hi; split at hi <;> simp_all)⟩

set_option maxHeartbeats 2000000 in
theorem one_c (n : GNode) (A : Option Addr) (ac : Nat) (K : Option Addr) (kc : Nat) (w : World) (B : Nat) (hB : B ≤ w.heap.size) (hs : NodeSmall reachBytes n) (hA : AttrsAt w B A n.attrs) (hac : n.attrs.length ≤ ac) :
    Calls Try.prog 59 #[.agg #[.string n.name, .string n.text, .slice A n.attrs.length ac, .int .i64 n.parent, .slice K n.kids.length kc]] w fun e w' => e = .returned (.bool (oneB n)) ∧ Below w.heap.size w w' := by
  have hl : n.attrs.length ≤ 4611686018427387904 := by have := hs.attrs; unfold reachBytes at this; omega
  have hkl : n.kids.length ≤ 4611686018427387904 := by have := hs.kids; unfold reachBytes at this; omega
  have htl : n.text.size ≤ 4611686018427387904 := by have := hs.text; unfold reachBytes at this; omega
  have hvl : ∀ i (_ : i < n.attrs.length), n.attrs[i].val.size ≤ 4611686018427387904 := fun i hi => by have := (hs.each _ (List.getElem_mem hi)).2; unfold reachBytes at this; omega
  have hO : OneP n ↔ OneP n := Iff.rfl
  conv at hO => rhs; unfold OneP
  have HO := Lib.hid hO
  clear hO hs
  by_cases he : n.name.toList.isEmpty = true
  · have HE := Lib.hid he
    by_cases h1 : n.attrs.length = 0
    · by_cases h2 : n.kids.length = 0
      · by_cases h3 : n.text.size ≤ 4000
        · have HR := Lib.hid (oneB_yes (HO.out.2 (by rw [if_pos HE.out]; exact ⟨h1, h2, h3⟩)))
          have h3' : (n.text.size : Int) ≤ 4000 := by omega
          go_enter Try.func59, Try.ntmps59
          go_wp2_with fail
          go_ret
          exact ⟨ret_bool HR.out.symm, (Below.refl _ _).alloc (Nat.le_refl _) _⟩
        · have HR := Lib.hid (oneB_no fun h => by have := HO.out.1 h; rw [if_pos HE.out] at this; omega)
          have h3' : decide ((n.text.size : Int) ≤ 4000) = false := decide_eq_false (by omega)
          go_enter Try.func59, Try.ntmps59
          go_wp2_with fail
          go_ret
          exact ⟨ret_bool HR.out.symm, (Below.refl _ _).alloc (Nat.le_refl _) _⟩
      · have HR := Lib.hid (oneB_no fun h => by have := HO.out.1 h; rw [if_pos HE.out] at this; exact h2 this.2.1)
        have h2' : ((n.kids.length : Int) == 0) = false := by rw [beq_eq_false_iff_ne]; omega
        go_enter Try.func59, Try.ntmps59
        go_wp2_with fail
        go_ret
        exact ⟨ret_bool HR.out.symm, (Below.refl _ _).alloc (Nat.le_refl _) _⟩
    · have HR := Lib.hid (oneB_no fun h => by have := HO.out.1 h; rw [if_pos HE.out] at this; exact h1 this.1)
      have h1' : ((n.attrs.length : Int) == 0) = false := by rw [beq_eq_false_iff_ne]; omega
      go_enter Try.func59, Try.ntmps59
      go_wp2_with fail
      go_ret
      exact ⟨ret_bool HR.out.symm, (Below.refl _ _).alloc (Nat.le_refl _) _⟩
  · have he' : n.name.toList.isEmpty = false := by simpa using he
    have HE := Lib.hid he
    clear he
    by_cases h1 : nameB n.name.toList = true
    · by_cases h2 : n.text.toList.isEmpty = true
      · by_cases h3 : n.attrs.length ≤ 40
        · have h3' : decide (40 < (n.attrs.length : Int)) = false := decide_eq_false (by omega)
          have HH := Lib.hid (And.intro h1 (And.intro ((ba_empty _).1 h2) h3))
          go_enter Try.func59, Try.ntmps59
          go_wp2_with (go_at_call 73; refine (named_c n.name _).mono ?_; rintro e w' ⟨rfl, rfl⟩)
          go_loopw [42] (fun i wr => Below (w.heap.size + 1) (w.alloc (Obj.cells #[.string n.name, .string n.text, .slice A n.attrs.length ac, .int .i64 n.parent, .slice K n.kids.length kc] 46)) wr ∧ ∃ k : Nat, k ≤ n.attrs.length ∧ i = .int .i64 k ∧ ∀ j, j < k → AttrOk n.attrs j) (fun i _ => n.attrs.length - (intOf i).toNat)
          case atStart => exact ⟨Below.refl _ _, 0, by omega, rfl, fun j hj => by omega⟩
          case round =>
            obtain ⟨hbel, k, hk, rfl, hn⟩ := hrel
            have hbw : Below w.heap.size w wr := ((Below.refl w.heap.size w).alloc (Nat.le_refl _) _).trans (hbel.mono (by omega))
            have hx2 : wr.cell? ⟨w.heap.size, 2, none⟩ = some (.slice A n.attrs.length ac) := (hbel.cell (p := ⟨w.heap.size, 2, none⟩) (by simp)).trans (by go_simp)
            have hz : w.heap.size < wr.heap.size := Nat.lt_of_lt_of_le (by simp) hbel.size
            have HN := Lib.hid hn
            clear hn
            by_cases hlt : k < n.attrs.length
            · have hAr := (hA.below (hbw.mono hB))
              obtain ⟨ab, o, rfl, hab, hc1, hc2⟩ := hAr.at_ hlt
              have hT : AttrsAt wr B (some ⟨ab, o, none⟩) (n.attrs.take k) := hAr.take k
              have habz : ab < wr.heap.size := by omega
              have hv := hvl k hlt
              generalize hva : n.attrs[k].val = v at hc2 hv
              generalize hna : n.attrs[k].name = nm at hc1
              have HV := Lib.hid hva
              have HM := Lib.hid hna
              clear hva hna
              by_cases g1 : nameB nm.toList = true
              · by_cases g2 : v.size ≤ 4000
                · have g2' : decide (4000 < (v.size : Int)) = false := decide_eq_false (by omega)
                  go_wp2_with fail
                  go_region_with (first | (go_at_call 73; refine (named_c _ _).mono ?_; rintro e w' ⟨rfl, rfl⟩) | (go_at_call 72; refine (find_c _ _ _ _ _ _ B (by simp; omega) (by simp; omega) (by simp; omega) (hT.below ((Below.refl _ _).alloc (by omega) _).drew)).mono ?_; rintro e w2 ⟨rfl, hb2⟩))
                  all_goals
                    have hbx := hbel.trans ((((Below.refl (w.heap.size + 1) wr).alloc (by omega) _).drew).trans (hb2.mono (by simp; omega)))
                    have hbe : Below w.heap.size w w2 := ((Below.refl w.heap.size w).alloc (Nat.le_refl _) _).trans (hbx.mono (by omega))
                    clear hb2 hx2 hc1 hc2 hT hAr hA
                    by_cases g3 : 0 ≤ fnd (n.attrs.take k) nm.toList
                    · have HR := Lib.hid (oneB_no fun h => by have := HO.out.1 h; rw [if_neg HE.out] at this; obtain ⟨h', a, b, c⟩ := this.2.2.2 k hlt; rw [HM.out] at c; omega)
                      go_wp2_with fail
                      go_ret
                      exact ⟨ret_bool HR.out.symm, hbe⟩
                    · have HR := Lib.hid (show AttrOk n.attrs k from ⟨hlt, by rw [HM.out]; exact g1, by rw [HV.out]; exact g2, by rw [HM.out]; omega⟩)
                      go_wp2_with fail
                      go_roundw
                      case rel => exact ⟨hbx, k + 1, by omega, by go_num, fun j hj => by
                        by_cases e : j = k
                        · subst e; exact HR.out
                        · exact HN.out j (by omega)⟩
                      case measure => simp [intOf]; omega
                · have g2' : (4000 : Int) < (v.size : Int) := by omega
                  have HR := Lib.hid (oneB_no fun h => by have := HO.out.1 h; rw [if_neg HE.out] at this; obtain ⟨h', a, b, c⟩ := this.2.2.2 k hlt; rw [HV.out] at b; exact g2 b)
                  clear g2
                  go_wp2_with fail
                  go_quiet ((go_at_call 73; exact quiet_of_eq (named_c _ _)))
                  go_wp2_with fail
                  go_ret
                  exact ⟨ret_bool HR.out.symm, hbw.trans (Below.drewN_ ((Below.refl _ _).alloc (Nat.le_of_lt hz) _) _)⟩
              · have g1' : nameB nm.toList = false := by simpa using g1
                have HR := Lib.hid (oneB_no fun h => by have := HO.out.1 h; rw [if_neg HE.out] at this; obtain ⟨h', a, b, c⟩ := this.2.2.2 k hlt; rw [HM.out] at a; exact g1 a)
                clear g1
                go_wp2_with fail
                go_quiet ((go_at_call 73; exact quiet_of_eq (named_c _ _)))
                go_wp2_with fail
                go_ret
                exact ⟨ret_bool HR.out.symm, hbw.trans (Below.drewN_ ((Below.refl _ _).alloc (Nat.le_of_lt hz) _) _)⟩
            · have HR := Lib.hid (oneB_yes (HO.out.2 (by rw [if_neg HE.out]; exact ⟨HH.out.1, HH.out.2.1, HH.out.2.2, fun j hj => HN.out j (by omega)⟩)))
              clear hx2
              go_wp2_with fail
              go_ret
              exact ⟨ret_bool HR.out.symm, hbw⟩
        · have h3' : (40 : Int) < (n.attrs.length : Int) := by omega
          have HR := Lib.hid (oneB_no fun h => by have := HO.out.1 h; rw [if_neg HE.out] at this; exact h3 this.2.2.1)
          go_enter Try.func59, Try.ntmps59
          go_wp2_with (go_at_call 73; refine (named_c n.name _).mono ?_; rintro e w' ⟨rfl, rfl⟩)
          go_ret
          exact ⟨ret_bool HR.out.symm, (Below.refl _ _).alloc (Nat.le_refl _) _⟩
      · have h2' : n.text.toList.isEmpty = false := by simpa using h2
        have HR := Lib.hid (oneB_no fun h => by have := HO.out.1 h; rw [if_neg HE.out] at this; exact h2 ((ba_empty _).2 this.2.1))
        clear h2
        go_enter Try.func59, Try.ntmps59
        go_wp2_with (go_at_call 73; refine (named_c n.name _).mono ?_; rintro e w' ⟨rfl, rfl⟩)
        go_ret
        exact ⟨ret_bool HR.out.symm, (Below.refl _ _).alloc (Nat.le_refl _) _⟩
    · have h1' : nameB n.name.toList = false := by simpa using h1
      have HR := Lib.hid (oneB_no fun h => by have := HO.out.1 h; rw [if_neg HE.out] at this; exact h1 this.1)
      clear h1
      go_enter Try.func59, Try.ntmps59
      go_wp2_with (go_at_call 73; refine (named_c n.name _).mono ?_; rintro e w' ⟨rfl, rfl⟩)
      go_ret
      exact ⟨ret_bool HR.out.symm, (Below.refl _ _).alloc (Nat.le_refl _) _⟩
end Go.Proofs.Ytpgcaehbbdnhiaa

/- The walks of KindsOf and KindsTypes. -/
import Derived.Test.YtjpoliagicceaaaK7
import Derived.Test.YtjpoliagicceaaaOpen2
import Derived.Deep.RegionWith
namespace Go.Proofs.Ytjpoliagicceaaa
open Go.RowKit
set_option maxHeartbeats 2000000 in
theorem KindsOf_w (a : GNode × List Value) (w : World) (h : NodeCells w w.heap.size a.1 a.2 ∧ NodeFits a.1 ∧ NodeSmall reachBytes a.1) :
    Calls Try.prog 3 #[.agg ⟨a.2⟩] w fun e w' => e = .returned (.bool true) ∧ Below w.heap.size w w' := by
  obtain ⟨n, cs⟩ := a
  obtain ⟨⟨A, ac, K, kc, hcs, hA, hK⟩, hf, hs⟩ := h
  dsimp only at hcs hA hK hs ⊢
  subst hcs
  show Calls Try.prog _ #[.agg #[.string n.name, .string n.text, .slice A n.attrs.length ac, .int .i64 n.parent, .slice K n.kids.length kc]] w _
  have hlen : n.attrs.length ≤ 4611686018427387904 := by have := hs.attrs; unfold reachBytes at this; omega
  have hv : ∀ a ∈ n.attrs, a.val.size ≤ reachBytes := fun a ha => (hs.each a ha).2
  go_enter Try.func3, Try.ntmps3
  go_wp2_with fail
  go_region_with (first
    | (go_at_call 8; refine (wakes_c _).mono ?_; rintro e w1 ⟨rfl, hb1⟩; obtain ⟨hc1, hf1⟩ := bcell hb1; have hz1 : w.heap.size < w1.heap.size := Nat.lt_of_lt_of_le (by simp) hb1.size; have hB1 : Below w.heap.size w w1 := (((Below.refl w.heap.size w).alloc (Nat.le_refl _) _).drew).trans (hb1.mono (by simp)); have hA1 := hA.below hB1)
    | (go_at_call 9; refine (Of_c n.name n.text A ac n.attrs n.parent K n.kids.length kc _ w.heap.size (Nat.le_of_lt hz1) hlen hv hA1).mono ?_; rintro e w2 ⟨rfl, hb2⟩; obtain ⟨hc2, hf2⟩ := bcell hb2; have hz2 : w.heap.size < w2.heap.size := Nat.lt_of_lt_of_le hz1 hb2.size; have hB2 : Below w.heap.size w w2 := hB1.trans (hb2.mono (Nat.le_of_lt hz1)); have hA2 := hA.below hB2)
    | (go_at_call 10; refine (rOf_c n.name n.text A ac n.attrs n.parent K n.kids.length kc _ w.heap.size (Nat.le_of_lt hz2) hlen hv hA2).mono ?_; rintro e w3 ⟨rfl, hb3⟩; have hB3 : Below w.heap.size w w3 := hB2.trans (hb3.mono (Nat.le_of_lt hz2))))
  all_goals
    go_wp2_with fail
    go_ret
    exact ⟨rfl, hB3⟩

def tyLL : List (List UInt8) := [[104, 105, 100, 100, 101, 110], [116, 101, 120, 116], [115, 101, 97, 114, 99, 104], [116, 101, 108], [117, 114, 108], [101, 109, 97, 105, 108], [112, 97, 115, 115, 119, 111, 114, 100], [100, 97, 116, 101], [109, 111, 110, 116, 104], [119, 101, 101, 107], [116, 105, 109, 101], [100, 97, 116, 101, 116, 105, 109, 101, 45, 108, 111, 99, 97, 108], [110, 117, 109, 98, 101, 114], [114, 97, 110, 103, 101], [99, 111, 108, 111, 114], [99, 104, 101, 99, 107, 98, 111, 120], [114, 97, 100, 105, 111], [102, 105, 108, 101], [115, 117, 98, 109, 105, 116], [105, 109, 97, 103, 101], [114, 101, 115, 101, 116], [98, 117, 116, 116, 111, 110]]
theorem tyL_is : tyL.map (·.toList) = tyLL := by simp [tyL, tyLL, ba_list]
theorem place_ll (l : List ByteArray) (m : List UInt8) : place l m = (l.map (·.toList)).findIdx? (· == m) := by
  unfold place
  rw [List.findIdx?_map]
  rfl
def oneOf (o : Option Nat) : Int := match o with | some i => (i : Int) + 1 | none => 2
theorem kInput_ll (m : List UInt8) : kInput m = oneOf (tyLL.findIdx? (· == m)) := by
  unfold kInput
  rw [place_ll, tyL_is]
  rfl
theorem tn_ll (i : Nat) (h : i < 22) : (tn i).toList = tyLL.getD i [] := by
  have : (tyL.map (·.toList)).getD i [] = (tn i).toList := by
    unfold tn
    have h' : i < tyL.length := h
    simp [List.getD, h']
  rw [← this, tyL_is]
theorem kInput_tn : ∀ i : Fin 22, oneOf (tyLL.findIdx? (· == lowL (tyLL.getD i.1 []))) = (i.1 : Int) + 1 := by decide +kernel
theorem kInput_bd (m : List UInt8) : 1 ≤ kInput m ∧ kInput m ≤ 22 := by
  rw [kInput_ll]
  unfold oneOf
  split
  · rename_i i e
    obtain ⟨hi, _⟩ := List.findIdx?_eq_some_iff_getElem.1 e
    have : tyLL.length = 22 := rfl
    omega
  · omega
theorem types_back (k : Int) : (kInput (lowL (typeOf k).toList) == k) = decide (1 ≤ k ∧ k ≤ 22) := by
  by_cases h : 1 ≤ k ∧ k ≤ 22
  · have e := kInput_tn ⟨(k - 1).toNat, by omega⟩
    dsimp only at e
    rw [← kInput_ll, ← tn_ll _ (by omega)] at e
    have et : typeOf k = tn (k - 1).toNat := by unfold typeOf; rw [if_pos h]
    rw [et, e, decide_eq_true h, beq_iff_eq]
    omega
  · have := kInput_bd (lowL (typeOf k).toList)
    rw [decide_eq_false h, beq_eq_false_iff_ne]
    omega
theorem typeOf_len (k : Int) : (typeOf k).size ≤ reachBytes := by
  unfold typeOf
  have h : ∀ i, (tn i).size ≤ reachBytes := by
    intro i
    unfold tn
    rcases Nat.lt_or_ge i tyL.length with h | h
    · have hall : ∀ a ∈ tyL, a.size ≤ reachBytes := by
        intro a ha
        simp only [tyL, List.mem_cons, List.not_mem_nil, or_false] at ha
        rcases ha with rfl|rfl|rfl|rfl|rfl|rfl|rfl|rfl|rfl|rfl|rfl|rfl|rfl|rfl|rfl|rfl|rfl|rfl|rfl|rfl|rfl|rfl <;> decide
      rw [List.getD, List.getElem?_eq_getElem h]
      exact hall _ (List.getElem_mem h)
    · rw [List.getD, List.getElem?_eq_none h]
      exact Nat.zero_le _
  split
  · exact h _
  · repeat' split
    all_goals decide
theorem KindsTypes_w (k : Int) (w : World) (_wk : (Lit.int .i64 k).wf = true) :
    Calls Try.prog 7 #[.int .i64 k] w fun e w' => e = .returned (.bool true) ∧ Below w.heap.size w w' := by
  have htb := types_back k
  have hlen := typeOf_len k
  generalize htk : typeOf k = s at htb hlen
  have HT := Lib.hid htk
  have hkind : kindOf [105, 110, 112, 117, 116] (lowL (attrV [⟨⟨#[116, 121, 112, 101]⟩, s⟩] [116, 121, 112, 101])) = kInput (lowL s.toList) := by
    have e : attrV [⟨⟨#[116, 121, 112, 101]⟩, s⟩] [116, 121, 112, 101] = s.toList := by
      unfold attrV
      simp [ba_list, List.findIdx?_cons]
    rw [e]
    rfl
  have HB := Lib.hid htb
  have HK := Lib.hid hkind
  clear htk htb hkind
  go_enter Try.func7, Try.ntmps7
  go_wp2_with (first | (go_at_call 23; refine (Type_c _ _).mono ?_; rintro e w1 ⟨rfl, hb1⟩; rw [HT.out]; have hs1 := hb1.size) | (go_at_call 8; refine (wakes_c _).mono ?_; rintro e w2 ⟨rfl, hb2⟩; have hb2' := hb1.trans (hb2.mono hs1)) | (go_at_call 24; refine (rType_c _ _).mono ?_; rintro e w3 ⟨rfl, rfl⟩; rw [HT.out]))
  have hw : AttrsAt (w2.alloc (Obj.cells #[.string ⟨#[116, 121, 112, 101]⟩, .string s] 35)) (w2.heap.size + 1) (some ⟨w2.heap.size, 0, none⟩) [⟨⟨#[116, 121, 112, 101]⟩, s⟩] := by
    intro _
    refine ⟨w2.heap.size, 0, rfl, by omega, fun i a hi => ?_⟩
    match i, hi with
    | 0, hi =>
      obtain rfl : (⟨⟨#[116, 121, 112, 101]⟩, s⟩ : GAttr) = a := by simpa using hi
      constructor <;> go_simp
  refine (Of_c ⟨#[105, 110, 112, 117, 116]⟩ ⟨#[]⟩ (some ⟨w2.heap.size, 0, none⟩) 1 [⟨⟨#[116, 121, 112, 101]⟩, s⟩] 0 none 0 0 _ (w2.heap.size + 1) (by simp) (by simp) (fun a ha => by simp only [List.mem_singleton] at ha; subst ha; exact hlen) hw).mono ?_
  rintro e w4 ⟨rfl, hb4⟩
  rw [show (⟨#[105, 110, 112, 117, 116]⟩ : ByteArray).toList = [105, 110, 112, 117, 116] from ba_list _, HK.out]
  have hb : Below w.heap.size w w4 := (hb2'.alloc hb2'.size _).trans (hb4.mono (by have := hb2'.size; simp; omega))
  have HB2 := HB.out
  clear hb4 hb2' hb2 hb1 hs1 hw
  by_cases hin : 1 ≤ k ∧ k ≤ 22
  · have e1 : (kInput (lowL s.toList) == k) = true := by rw [HB2]; simpa using hin
    clear HB2
    obtain ⟨g1, g2⟩ := hin
    go_wp2_with fail
    go_ret
    exact ⟨rfl, hb⟩
  · have e1 : (kInput (lowL s.toList) == k) = false := by rw [HB2]; simpa using hin
    clear HB2
    by_cases g1 : 1 ≤ k
    · have g2 : 22 < k := by omega
      clear hin
      go_wp2_with fail
      go_ret
      exact ⟨ret_bool (by simp; omega), hb⟩
    · clear hin
      go_wp2_with fail
      go_ret
      exact ⟨rfl, hb⟩
end Go.Proofs.Ytjpoliagicceaaa

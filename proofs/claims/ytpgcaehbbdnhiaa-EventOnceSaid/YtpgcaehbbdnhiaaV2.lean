/- Path, of the program and of the document. -/
import Derived.Test.YtpgcaehbbdnhiaaV1
namespace Go.Proofs.Ytpgcaehbbdnhiaa
open Go.RowKit
def upL (l : List GNode) (t : Int) (j : Nat) : List Int := (List.range j).map fun m => climb l m t
theorem upL_len (l : List GNode) (t : Int) (j : Nat) : (upL l t j).length = j := by simp [upL]
theorem upL_succ (l : List GNode) (t : Int) (j : Nat) : upL l t (j + 1) = upL l t j ++ [climb l j t] := by simp [upL, List.range_succ]
theorem upL_rev (l : List GNode) (t : Int) (j : Nat) : (upL l t j).reverse.length = j := by simp [upL]
set_option maxRecDepth 100000 in
set_option maxHeartbeats 1000000 in
theorem PathOk_c (A : Option Addr) (c : Nat) (l : List GNode) (hr : RightP l) (t : Int) (ht : Is l t) (w : World) (B : Nat) (hB : B ≤ w.heap.size) (hs : ∀ n ∈ l, NodeSmall reachBytes n) (h : NodesAt w B A l) :
    Calls Try.prog 21 #[.slice A l.length c, .int .i64 t] w fun e w' => ∃ T c' L, e = .returned (.slice T L.length c') ∧ PathP l t L ∧ w'.ownsRow w.heap.size 3 1 (.slice T L.length c') L.length (intCells L) ∧ Below w.heap.size w w' := by
  obtain ⟨⟨hpos, h400, _⟩, _⟩ := id hr
  have hll : l.length ≤ 4611686018427387904 := by omega
  obtain ⟨b, o, rfl, hbB, -⟩ := h.at_ hpos
  obtain ⟨q0, rfl, hq0⟩ := is_nat ht
  have hrb := rightB_yes hr
  have HT := Lib.hid ht
  have HR := Lib.hid hr
  have HRG := Lib.hid (climb_rg hr ht.2)
  have HNP := Lib.hid (fun j => path_len hr ht (j := j))
  have hcur : Below w.heap.size w w := Below.refl _ _
  have h00 : (0 : Int) ≤ (q0 : Int) := by omega
  have hql : (q0 : Int) < (l.length : Int) := by omega
  obtain ⟨ii, ii0, iiz, ii1, ii2⟩ := info_parts info_int
  clear ht
  go_enter Try.func21, Try.ntmps21
  go_wp2_with (go_at_call 28; refine (Right_c _ c l _ B hB hs hll h).mono ?_; rintro e w1 ⟨rfl, hb1⟩; replace hcur := hcur.trans (hb1.mono hcur.size); clear hb1)
  go_loopw [5, 6] (fun v kv wr => Below w.heap.size w wr ∧ ∃ (j : Nat), kv = .int .i64 (climb l j q0) ∧ (∀ m, m < j → 0 ≤ climb l m q0) ∧ wr.ownsRow w.heap.size 3 1 v j (intCells (upL l q0 j))) (fun _ x _ => dep l (l.length + 1) (intOf x))
  case atStart => exact ⟨hcur, 0, rfl, fun m h => by omega, World.ownsRow_nil _ _ _ _⟩
  case round =>
    obtain ⟨hbw, j, rfl, hn, hown⟩ := hrel
    have hx1 := HRG.out j
    have HN := Lib.hid hn
    have hjl := HNP.out j hn
    have HS := Lib.hid (climb_succ (l := l) (m := j) (k := (q0 : Int)))
    have HU := Lib.hid (upL_succ l q0 j)
    have HUL := Lib.hid (upL_len l q0 j)
    generalize hx : climb l j q0 = x at hx1 HS HU
    have HX := Lib.hid hx
    generalize hL : upL l q0 j = L at hown HU HUL
    have HL := Lib.hid hL
    clear hx hn hL
    obtain ⟨T, c1, rfl⟩ := owns_slice hown
    by_cases hneg : x < 0
    · have hneg' : decide (0 ≤ x) = false := decide_eq_false (by omega)
      have hrv : Calls Try.prog 54 #[.slice T j c1] wr fun e w' => e = .returned (.tuple #[]) ∧ w'.ownsRow w.heap.size 3 1 (.slice T j c1) j (intCells L.reverse) ∧ wr.grownBy w' (Value.slice T j c1).ownBlock := by
        have := Reverse_c T c1 L wr w.heap.size (by rw [HUL.out]; omega) (by rw [HUL.out]; exact hown)
        rwa [HUL.out] at this
      have HNEG := Lib.hid hneg
      clear hneg
      go_wp2_with (go_at_call 54; refine hrv.mono ?_; clear hrv; rintro e w2 ⟨rfl, ho2, hg2⟩)
      go_ret
      refine ⟨T, c1, L.reverse, by rw [List.length_reverse, HUL.out]; rfl, ⟨j, by rw [← HL.out]; rfl, by rw [HX.out]; exact HNEG.out, HN.out⟩, by rw [List.length_reverse, HUL.out]; exact ho2, hbw.grown hg2 hbw.size (fun g e => (hown.lt g e).1)⟩
    · obtain ⟨q, rfl⟩ : ∃ q : Nat, x = q := ⟨x.toNat, by omega⟩
      have hq : q < l.length := by omega
      have hq0' : (0 : Int) ≤ (q : Int) := by omega
      have HP := Lib.hid (parOf_at hq)
      have HD := Lib.hid (dep_par hr (x := (q : Int)) ⟨by omega, by omega⟩)
      obtain ⟨T3, ac3, K3, kc3, -, -, -, v3, -, -, -, -, -⟩ := (h.below (hbw.mono hB)).at2 hq
      generalize hpp : l[q].parent = p at v3 HP
      have hbl : b < wr.heap.size := by have := hbw.size; omega
      clear hneg hpp
      go_wp2_with (at_builtin; refine wpList_append_src rfl (.tmp 28) (.tmp 30) 26 rfl w.heap.size 3 ii _ 1 8 Try.underlying26 ii0 iiz ii1 ii2 rfl (by decide) (.slice T j c1) j (intCells L) rfl (World.ownsRow.alloc hown _) (some ⟨wr.heap.size, 0, none⟩) 1 1 [.int .i64 q] rfl rfl (fun _ => ⟨_, rfl, World.news_of_block (heap_alloc_new wr _)⟩) (by simp [Value.oneCell']) (by simp only [maxLen]; omega) (by omega) (by have := hbw.size; simp; omega) ?_; intro T9 c9 w9 hown9 hg9 hat9; have hb9 : Below w.heap.size w w9 := (hbw.alloc hbw.size _).grown hg9 (by have := hbw.size; simp; omega) (fun g e => (hown.lt g e).1); have y3 : w9.cell? ⟨b, o + q * 5 + 3, none⟩ = some (.int .i64 p) := (hb9.cell (p := ⟨b, o + q * 5 + 3, none⟩) (by simp; omega)).trans ((hbw.cell (p := ⟨b, o + q * 5 + 3, none⟩) (by simp; omega)).symm.trans v3))
      go_roundw
      case rel =>
        refine ⟨j + 1, by rw [HS.out (by omega), HP.out], fun m h1 => ?_, ?_⟩
        · by_cases e : m = j
          · subst e; rw [HX.out]; exact hq0'
          · exact HN.out m (by omega)
        · rw [HU.out, ← intCells_append]; exact hown9
      case measure => simp only [intOf]; rw [← HP.out]; exact HD.out
theorem PathNo_c (A : Option Addr) (c : Nat) (l : List GNode) (t : Int) (hn : hasB l t = false) (w : World) (B : Nat) (hB : B ≤ w.heap.size) (hll : l.length ≤ 4611686018427387904) (hs : ∀ n ∈ l, NodeSmall reachBytes n) (h : NodesAt w B A l) :
    Calls Try.prog 21 #[.slice A l.length c, .int .i64 t] w fun e w' => e = .returned (.slice none 0 0) ∧ Below w.heap.size w w' := by
  have hcur : Below w.heap.size w w := Below.refl _ _
  by_cases h0 : 0 ≤ t
  · by_cases h1 : t < l.length
    · have hrb : rightB l = false := by rw [← hasB_right ⟨h0, h1⟩]; exact hn
      go_enter Try.func21, Try.ntmps21
      go_wp2_with (go_at_call 28; refine (Right_c _ c l _ B hB hs hll h).mono ?_; rw [hrb]; rintro e w1 ⟨rfl, hb1⟩; replace hcur := hcur.trans (hb1.mono hcur.size); clear hb1)
      go_ret
      exact ⟨rfl, hcur⟩
    · have h1' : decide ((l.length : Int) ≤ t) = true := decide_eq_true (by omega)
      clear h1
      go_enter Try.func21, Try.ntmps21
      go_wp2_with fail
      go_ret
      exact ⟨rfl, hcur⟩
  · have h0' : decide (t < 0) = true := decide_eq_true (by omega)
    clear h0
    go_enter Try.func21, Try.ntmps21
    go_wp2_with fail
    go_ret
    exact ⟨rfl, hcur⟩
end Go.Proofs.Ytpgcaehbbdnhiaa

/- Contracts of the functions that make capital letters small, and of those that take an attribute's value. -/
import Derived.Test.YtjpoliagicceaaaK1
namespace Go.Proofs.Ytjpoliagicceaaa
open Go.RowKit

/-- the value of the first attribute of a name -/
def attrV (l : List GAttr) (m : List UInt8) : List UInt8 := match l.findIdx? (fun a => a.name.toList == m) with | some i => (l[i]?.map (fun a => a.val.toList)).getD [] | none => []
theorem attrV_none {l : List GAttr} {m : List UInt8} (h : fnd l m < 0) : attrV l m = [] := by
  unfold fnd at h
  unfold attrV
  split at h
  · omega
  · rename_i e; rw [e]
theorem attrV_at {l : List GAttr} {m : List UInt8} {k : Nat} (h : fnd l m = k) : ∃ hk : k < l.length, attrV l m = l[k].val.toList := by
  unfold fnd at h
  unfold attrV
  split at h
  · rename_i i e
    obtain ⟨hi, _⟩ := List.findIdx?_eq_some_iff_getElem.1 e
    obtain rfl : i = k := by omega
    rw [e]
    exact ⟨hi, by simp [hi]⟩
  · omega

theorem attr_c (n t m : ByteArray) (A : Option Addr) (c : Nat) (l : List GAttr) (p : Int) (K : Option Addr) (kn kc : Nat) (w : World) (B : Nat) (hB : B ≤ w.heap.size) (hl : l.length ≤ 4611686018427387904) (h : AttrsAt w B A l) :
    Calls Try.prog 26 #[.agg #[.string n, .string t, .slice A l.length c, .int .i64 p, .slice K kn kc], .string m] w
      fun e w' => (∃ s : ByteArray, e = .returned (.string s) ∧ s.toList = attrV l m.toList) ∧ Below w.heap.size w w' := by
  have hw2 : AttrsAt ((w.alloc (Obj.cells #[.string n, .string t, .slice A l.length c, .int .i64 p, .slice K kn kc] 25)).alloc (Obj.cells #[.string m] 9)) B A l :=
    h.below ((((Below.refl w.heap.size w).alloc (Nat.le_refl _) _).alloc (by simp) _).mono hB)
  have hbel : Below w.heap.size w ((w.alloc (Obj.cells #[.string n, .string t, .slice A l.length c, .int .i64 p, .slice K kn kc] 25)).alloc (Obj.cells #[.string m] 9)) :=
    ((Below.refl w.heap.size w).alloc (Nat.le_refl _) _).alloc (by simp) _
  have hcm : ((w.alloc (Obj.cells #[.string n, .string t, .slice A l.length c, .int .i64 p, .slice K kn kc] 25)).alloc (Obj.cells #[.string m] 9)).cell? ⟨w.heap.size + 1, 0, none⟩ = some (.string m) := by go_simp
  go_enter Try.func26, Try.ntmps26
  go_wp2_with fail
  refine (IndexFunc_c A c l m _ (w.heap.size + 1) B (by simp; omega) hl hw2 (by simp) hcm).mono ?_
  rintro e w1 ⟨rfl, hb1⟩
  obtain ⟨hc, hf⟩ := bcell hb1
  have hw1 := hw2.below (hb1.mono (by simp; omega))
  have hbw := hbel.trans (hb1.mono (by simp; omega))
  clear hcm hw2
  by_cases h0 : fnd l m.toList < 0
  · have HV := Lib.hid (attrV_none h0)
    go_wp2_with fail
    go_ret
    exact ⟨⟨_, rfl, ba_nil.trans HV.out.symm⟩, hbw⟩
  · obtain ⟨k, hk⟩ := Int.eq_ofNat_of_zero_le (Int.not_lt.1 h0)
    obtain ⟨hkl, hv⟩ := attrV_at hk
    have HV := Lib.hid hv
    obtain ⟨b, o, rfl, hb, hc1, hc2⟩ := hw1.at_ hkl
    rw [hk] at h0 ⊢
    clear hk hv
    go_wp2_with fail
    go_ret
    exact ⟨⟨_, rfl, HV.out.symm⟩, hbw⟩

/-- byte j of a text of which the first k have been made small -/
def lowK (l : List UInt8) (k j : Nat) : UInt8 := if j < k then low (l.getD j 0) else l.getD j 0
theorem lowK_same {l : List UInt8} {k j : Nat} (h : j ≠ k) : lowK l (k + 1) j = lowK l k j := by
  unfold lowK
  by_cases h1 : j < k
  · rw [if_pos h1, if_pos (by omega)]
  · rw [if_neg h1, if_neg (by omega)]
theorem lowK_at (l : List UInt8) (k : Nat) : lowK l (k + 1) k = low (l.getD k 0) := by unfold lowK; rw [if_pos (by omega)]
theorem lowK_old (l : List UInt8) (k : Nat) : lowK l k k = l.getD k 0 := by unfold lowK; rw [if_neg (by omega)]
theorem lowK_zero (l : List UInt8) (j : Nat) : lowK l 0 j = l.getD j 0 := by unfold lowK; rw [if_neg (by omega)]
theorem lowK_all {l : List UInt8} {j : Nat} (h : j < (lowL l).length) : lowK l l.length j = (lowL l)[j] := by
  have h' : j < l.length := by simpa [lowL] using h
  unfold lowK
  rw [if_pos h']
  simp [lowL, List.getD, h']
set_option maxHeartbeats 400000 in
theorem Lower_c (s : ByteArray) (w : World) (hs : s.size ≤ reachBytes) :
    Calls Try.prog 25 #[.string s] w fun e w' => (∃ r : ByteArray, e = .returned (.string r) ∧ r.toList = lowL s.toList) ∧ Below w.heap.size w w' := by
  unfold reachBytes at hs
  have hconv := run_bytes_of_string (P := Try.prog) w 9 42 5 s Try.underlying9 Try.underlying42 Try.underlying5
  have hcells : ∀ j, j < s.size → ((w.alloc (.cells (bytesRow s (grownCap w s.size 0 5)) 5 ((bytesRow s (grownCap w s.size 0 5)).size, (bytesRow s (grownCap w s.size 0 5)).size + 1))).drew).cell? ⟨w.heap.size, j, none⟩ = some (.int .u8 ((s.toList.getD j 0).toNat : Int)) := by
    intro j hj
    have e1 := World.cell?_alloc_mark w (bytesRow s (grownCap w s.size 0 5)) 5 ((bytesRow s (grownCap w s.size 0 5)).size, (bytesRow s (grownCap w s.size 0 5)).size + 1) j
    have e2 := bytesRow_at s (grownCap w s.size 0 5) j hj
    rw [e2] at e1
    refine Eq.trans (b := (w.alloc (.cells (bytesRow s (grownCap w s.size 0 5)) 5 ((bytesRow s (grownCap w s.size 0 5)).size, (bytesRow s (grownCap w s.size 0 5)).size + 1))).cell? ⟨w.heap.size, j, none⟩) rfl (e1.trans ?_)
    rw [ba_list]
    simp [List.getD, hj]
  have hsize : s.size ≤ (bytesRow s (grownCap w s.size 0 5)).size := by unfold bytesRow; simp
  have hfroz : ∀ j, j < s.size → ((w.alloc (.cells (bytesRow s (grownCap w s.size 0 5)) 5 ((bytesRow s (grownCap w s.size 0 5)).size, (bytesRow s (grownCap w s.size 0 5)).size + 1))).drew).frozen? ⟨w.heap.size, j, none⟩ = false := by
    intro j hj
    have e1 := World.frozen?_alloc_mark w (bytesRow s (grownCap w s.size 0 5)) 5 (bytesRow s (grownCap w s.size 0 5)).size ((bytesRow s (grownCap w s.size 0 5)).size + 1) j
    refine Eq.trans (b := (w.alloc (.cells (bytesRow s (grownCap w s.size 0 5)) 5 ((bytesRow s (grownCap w s.size 0 5)).size, (bytesRow s (grownCap w s.size 0 5)).size + 1))).frozen? ⟨w.heap.size, j, none⟩) rfl (e1.trans ?_)
    simp
    omega
  generalize bytesRow s (grownCap w s.size 0 5) = C at hconv hcells hfroz hsize
  generalize grownCap w s.size 0 5 = cap at hconv
  have hlen : s.toList.length = s.size := ba_len s
  have HC := Lib.hid hcells
  have HF := Lib.hid hfroz
  have HL := Lib.hid hlen
  clear hcells hfroz hlen hsize
  go_enter Try.func25, Try.ntmps25
  go_wp2_with fail
  clear hconv
  go_loopw [10] (fun i wr => Below w.heap.size w wr ∧ w.heap.size < wr.heap.size ∧ ∃ k : Nat, k ≤ s.size ∧ i = .int .i64 k ∧ (∀ j, j < s.size → wr.cell? ⟨w.heap.size, j, none⟩ = some (.int .u8 ((lowK s.toList k j).toNat : Int))) ∧ (∀ j, j < s.size → wr.frozen? ⟨w.heap.size, j, none⟩ = false)) (fun i _ => s.size - (intOf i).toNat)
  case atStart => exact ⟨((Below.refl _ _).alloc (Nat.le_refl _) _).drew, by simp, 0, by omega, rfl, fun j hj => by rw [lowK_zero]; exact HC.out j hj, HF.out⟩
  case round =>
    obtain ⟨hbel, hgs, k, hk, rfl, hcl, hfr⟩ := hrel
    have HCL := Lib.hid hcl
    have HFR := Lib.hid hfr
    clear hcl hfr
    by_cases hlt : k < s.size
    · have hck := HCL.out k hlt
      rw [lowK_old] at hck
      have hfk := HFR.out k hlt
      generalize hx : s.toList.getD k 0 = x at hck
      have HX := Lib.hid hx
      clear hx
      have hx256 : (x.toNat : Int) < 256 := by have := x.toNat_lt; omega
      by_cases hcap : 65 ≤ x.toNat ∧ x.toNat ≤ 90
      · obtain ⟨h1, h2⟩ := hcap
        have g1 : (65 : Int) ≤ (x.toNat : Int) := by omega
        have g2 : (x.toNat : Int) ≤ 90 := by omega
        have HV := Lib.hid (low_cap h1 h2)
        clear h1 h2
        go_wp2_with fail
        go_roundw
        case rel => exact ⟨hbel.setCell (p := ⟨w.heap.size, k, none⟩) (Nat.le_refl _) _, by simpa [World.setCell] using hgs, k + 1, by omega, by go_num, fun j hj => by
          by_cases e : j = k
          · subst e
            rw [World.cell?_setCell_same' _ _ _ (by rw [hck]; rfl), lowK_at, HX.out, HV.out]
            congr 2
            omega
          · rw [World.cell?_setCell_other _ _ _ _ (by intro h; injection h with h1 h2; omega), lowK_same e]
            exact HCL.out j hj, fun j hj => by rw [World.frozen?_setCell]; exact HFR.out j hj⟩
        case measure => simp [intOf]; omega
      · have HV := Lib.hid (low_not hcap)
        by_cases g1 : (65 : Int) ≤ (x.toNat : Int)
        · have g2 : ¬ (x.toNat : Int) ≤ 90 := by omega
          clear hcap
          go_wp2_with fail
          go_roundw
          case rel => exact ⟨hbel, hgs, k + 1, by omega, by go_num, fun j hj => by
            by_cases e : j = k
            · subst e; rw [lowK_at, HX.out, HV.out]; exact hck
            · rw [lowK_same e]; exact HCL.out j hj, HFR.out⟩
          case measure => simp [intOf]; omega
        · clear hcap
          go_wp2_with fail
          go_roundw
          case rel => exact ⟨hbel, hgs, k + 1, by omega, by go_num, fun j hj => by
            by_cases e : j = k
            · subst e; rw [lowK_at, HX.out, HV.out]; exact hck
            · rw [lowK_same e]; exact HCL.out j hj, HFR.out⟩
          case measure => simp [intOf]; omega
    · have hback := run_convert_bytes_back (P := Try.prog) wr 42 9 5 ⟨w.heap.size, 0, none⟩ cap (lowL s.toList) Try.underlying42 Try.underlying5 Try.underlying9
        (fun j hj => by
          have hj' : j < s.size := by have := HL.out; simp [lowL] at hj; omega
          have := HCL.out j hj'
          rw [show k = s.toList.length by have := HL.out; omega, lowK_all hj] at this
          simpa [Addr.add_lit] using this)
      rw [show (lowL s.toList).length = s.size by have := HL.out; simp [lowL]; omega] at hback
      go_wp2_with fail
      go_ret
      exact ⟨⟨_, rfl, ba_mk _⟩, hbel⟩

theorem info_u8 : (Try.prog.info? 5).map (fun i => (i.zero, i.size, i.bytes)) = some (some (.int .u8 0), 1, 1) := by kernel_rfl
/-- the bytes of the first k of a text, made small, as values -/
def lowV (l : List UInt8) (k : Nat) : List Value := (l.take k).map fun b => Value.int .u8 ((low b).toNat : Int)
theorem lowV_succ {l : List UInt8} {k : Nat} (h : k < l.length) (n : Int) (hn : ((low l[k]).toNat : Int) = n) : lowV l (k + 1) = lowV l k ++ [.int .u8 n] := by
  unfold lowV
  rw [List.take_succ_eq_append_getElem h, List.map_append]
  subst hn
  rfl
theorem ba_at (s : ByteArray) (k : Nat) (h : k < s.size) (h' : k < s.toList.length) : s.toList[k] = s[k] := by
  simp [ba_list]; rfl
theorem own_one {w : World} {x : Value} {t : TypeId} : ∀ j u, [x][j]? = some u → (w.alloc (.cells #[x] t)).cell? (Addr.add ⟨w.heap.size, 0, none⟩ j) = some u := by
  intro j u hj
  match j, hj with
  | 0, hj => simp at hj; subst hj; simp [Addr.add]
set_option maxHeartbeats 400000 in
theorem rLower_c (s : ByteArray) (w : World) (hs : s.size ≤ reachBytes) :
    Calls Try.prog 29 #[.string s] w fun e w' => (∃ r : ByteArray, e = .returned (.string r) ∧ r.toList = lowL s.toList) ∧ Below w.heap.size w w' := by
  unfold reachBytes at hs
  obtain ⟨i0, hi, hz0, hz1, hz2⟩ := info_parts info_u8
  have HL := Lib.hid (ba_len s)
  go_enter Try.func29, Try.ntmps29
  go_wp2_with fail
  go_loopw [3, 4] (fun v i wr => Below w.heap.size w wr ∧ ∃ k : Nat, k ≤ s.size ∧ i = .int .i64 k ∧ wr.ownsRow w.heap.size 5 1 v k (lowV s.toList k)) (fun _ i _ => s.size - (intOf i).toNat)
  case atStart => exact ⟨Below.refl _ _, 0, by omega, rfl, World.ownsRow_nil _ _ _ _⟩
  case round =>
    obtain ⟨hbel, k, hk, rfl, hown⟩ := hrel
    by_cases hlt : k < s.size
    · have hk' : k < s.toList.length := by have := HL.out; omega
      have hx256 : (s[k].toNat : Int) < 256 := by have := s[k].toNat_lt; omega
      by_cases hcap : 65 ≤ s[k].toNat ∧ s[k].toNat ≤ 90
      · obtain ⟨h1, h2⟩ := hcap
        have g1 : (65 : Int) ≤ (s[k].toNat : Int) := by omega
        have g2 : (s[k].toNat : Int) ≤ 90 := by omega
        have HV := Lib.hid (lowV_succ hk' _ ((congrArg (fun b => ((low b).toNat : Int)) (ba_at s k hlt hk')).trans (low_cap h1 h2)))
        clear h1 h2
        go_wp2_with (at_builtin; refine wpList_append_own _ rfl _ _ 42 rfl w.heap.size 5 i0 (.int .u8 0) 1 1 Try.underlying42 hi hz0 hz1 hz2 rfl (by decide) _ _ _ rfl (hown.alloc _) ⟨wr.heap.size, 0, none⟩ 1 1 [.int .u8 ((s[k].toNat : Int) + 32)] rfl rfl own_one (by intro u hu; simp at hu; subst hu; rfl) (by unfold maxLen; omega) (by omega) (by have := hbel.size; simp; omega) ?_)
        intro v' w1 hown' hgrow _
        have hb1 := (hbel.alloc hbel.size (.cells #[.int .u8 ((s[k].toNat : Int) + 32)] 5)).grown hgrow (by have := hbel.size; simp; omega) (fun g hg => (World.ownsRow.lt hown g hg).1)
        rw [← HV.out] at hown'
        clear hgrow hown
        go_wp2_with fail
        go_roundw
        case rel => exact ⟨hb1, k + 1, by omega, by go_num, hown'⟩
        case measure => simp [intOf]; omega
      · have HV := Lib.hid (lowV_succ hk' (s[k].toNat : Int) (by rw [ba_at s k hlt hk', low_not hcap]))
        by_cases g1 : (65 : Int) ≤ (s[k].toNat : Int)
        · have g2 : ¬ (s[k].toNat : Int) ≤ 90 := by omega
          clear hcap
          go_wp2_with (at_builtin; refine wpList_append_own _ rfl _ _ 42 rfl w.heap.size 5 i0 (.int .u8 0) 1 1 Try.underlying42 hi hz0 hz1 hz2 rfl (by decide) _ _ _ rfl (hown.alloc _) ⟨wr.heap.size, 0, none⟩ 1 1 [.int .u8 (s[k].toNat : Int)] rfl rfl own_one (by intro u hu; simp at hu; subst hu; rfl) (by unfold maxLen; omega) (by omega) (by have := hbel.size; simp; omega) ?_)
          intro v' w1 hown' hgrow _
          have hb1 := (hbel.alloc hbel.size (.cells #[.int .u8 (s[k].toNat : Int)] 5)).grown hgrow (by have := hbel.size; simp; omega) (fun g hg => (World.ownsRow.lt hown g hg).1)
          rw [← HV.out] at hown'
          clear hgrow hown
          go_wp2_with fail
          go_roundw
          case rel => exact ⟨hb1, k + 1, by omega, by go_num, hown'⟩
          case measure => simp [intOf]; omega
        · clear hcap
          go_wp2_with (at_builtin; refine wpList_append_own _ rfl _ _ 42 rfl w.heap.size 5 i0 (.int .u8 0) 1 1 Try.underlying42 hi hz0 hz1 hz2 rfl (by decide) _ _ _ rfl (hown.alloc _) ⟨wr.heap.size, 0, none⟩ 1 1 [.int .u8 (s[k].toNat : Int)] rfl rfl own_one (by intro u hu; simp at hu; subst hu; rfl) (by unfold maxLen; omega) (by omega) (by have := hbel.size; simp; omega) ?_)
          intro v' w1 hown' hgrow _
          have hb1 := (hbel.alloc hbel.size (.cells #[.int .u8 (s[k].toNat : Int)] 5)).grown hgrow (by have := hbel.size; simp; omega) (fun g hg => (World.ownsRow.lt hown g hg).1)
          rw [← HV.out] at hown'
          clear hgrow hown
          go_wp2_with fail
          go_roundw
          case rel => exact ⟨hb1, k + 1, by omega, by go_num, hown'⟩
          case measure => simp [intOf]; omega
    · have hks : k = s.toList.length := by have := HL.out; omega
      have hend : lowV s.toList k = (lowL s.toList).map fun b => Value.int .u8 (b.toNat : Int) := by
        rw [hks]; unfold lowV lowL
        rw [List.take_of_length_le (Nat.le_refl _), List.map_map]
        rfl
      rw [hend] at hown
      have HK := Lib.hid hks
      clear hks hend
      by_cases hz : k = 0
      · have hnil : lowL s.toList = [] := by
          have h0 := HK.out
          rw [hz] at h0
          have : s.toList = [] := List.eq_nil_of_length_eq_zero h0.symm
          rw [this]; rfl
        obtain ⟨A, c, rfl⟩ : ∃ A c, u3 = .slice A 0 c := by
          rcases hown.2 with ⟨rfl, _⟩ | ⟨g, cap, cur, rfl, _⟩
          · exact ⟨_, _, rfl⟩
          · rw [hz]; exact ⟨_, _, rfl⟩
        have hback : (convert 42 9 (.slice A 0 c)).run Try.prog wr = .ok (.string ⟨#[]⟩) wr := by
          rw [run_convert_bytes_string wr 42 9 5 A 0 c Try.underlying42 Try.underlying5 Try.underlying9]
          cases A <;> rfl
        have HN := Lib.hid hnil
        clear hnil hown hz
        go_wp2_with fail
        go_ret
        exact ⟨⟨_, rfl, ba_nil.trans HN.out.symm⟩, hbel⟩
      · obtain ⟨g, cap, rfl, hbase, hcl⟩ : ∃ g cap, u3 = .slice (some ⟨g, 0, none⟩) k cap ∧ w.heap.size ≤ g ∧ ∀ j u, ((lowL s.toList).map fun b => Value.int .u8 (b.toNat : Int))[j]? = some u → wr.cell? ((⟨g, 0, none⟩ : Addr).add j) = some u := by
          rcases hown.2 with ⟨_, h0⟩ | ⟨g, cap, cur, rfl, hg, _⟩
          · exact absurd h0 hz
          · exact ⟨g, cap, rfl, hg, hown.cells rfl⟩
        have hback := run_convert_bytes_back (P := Try.prog) wr 42 9 5 ⟨g, 0, none⟩ cap (lowL s.toList) Try.underlying42 Try.underlying5 Try.underlying9
          (fun j hj => hcl j _ (by simp [hj]))
        rw [show (lowL s.toList).length = k by have := HK.out; simp [lowL]; omega] at hback
        clear hown hcl hz
        go_wp2_with fail
        go_ret
        exact ⟨⟨_, rfl, ba_mk _⟩, hbel⟩
end Go.Proofs.Ytjpoliagicceaaa

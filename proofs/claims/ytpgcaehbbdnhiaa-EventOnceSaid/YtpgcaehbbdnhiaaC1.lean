/- The document's Copied: a document of its own. -/
import Derived.Test.YtpgcaehbbdnhiaaOwn
import Derived.Test.YtpgcaehbbdnhiaaT5
import Derived.Deep.RegionHeld3
import Derived.Deep.RegionLaw
import Derived.BigRegion
import Derived.Deep.DrawnRows
import Derived.Deep.DeepCutAuto
namespace Go.Proofs.Ytpgcaehbbdnhiaa
open Go.RowKit
attribute [local go_sem ↓] Go.wp_at_zero Go.wp_at_succ
theorem info_node : (Try.prog.info? 46).map (fun i => (i.zero, i.size, i.bytes)) = some (some (.agg #[.string ⟨#[]⟩, .string ⟨#[]⟩, .slice none 0 0, .int .i64 0, .slice none 0 0]), 5, 88) := by kernel_rfl
theorem info_attr : (Try.prog.info? 68).map (fun i => (i.zero, i.size, i.bytes)) = some (some (.agg #[.string ⟨#[]⟩, .string ⟨#[]⟩]), 2, 32) := by kernel_rfl
theorem info_int : (Try.prog.info? 3).map (fun i => (i.zero, i.size, i.bytes)) = some (some (.int .i64 0), 1, 8) := by kernel_rfl

set_option maxRecDepth 100000 in
set_option maxHeartbeats 4000000 in
theorem rCopied_c (A : Option Addr) (c : Nat) (l : List GNode) (w : World) (B : Nat) (hB : B ≤ w.heap.size) (hs : ∀ n ∈ l, NodeSmall reachBytes n) (hll : l.length * 88 ≤ reachBytes) (h : NodesAt w B A l) :
    Calls Try.prog 22 #[.slice A l.length c] w fun e w' => ∃ v, e = .returned v ∧ DocAt w' w.heap.size v l ∧ Below w.heap.size w w' := by
  unfold reachBytes at hll
  have hll' : l.length ≤ 4611686018427387904 := by omega
  go_enter Try.func22, Try.ntmps22
  go_wp2_with fail
  go_loopw [3, 4] (fun v i wr => Below w.heap.size w wr ∧ ∃ k : Nat, k ≤ l.length ∧ i = .int .i64 k ∧ ∃ own xs, DocX wr w.heap.size own v (l.take k) xs) (fun _ i _ => l.length - (intOf i).toNat)
  case atStart => obtain ⟨own, xs, hd⟩ := DocAt.empty w w.heap.size; exact ⟨Below.refl _ _, 0, by omega, rfl, own, xs, hd⟩
  case round =>
    obtain ⟨hbw, k, hk, rfl, own, xs, hd⟩ := hrel
    have HD := Lib.hid hd
    clear hd
    by_cases hlt : k < l.length
    · obtain ⟨b, o, rfl, hb, hn⟩ := (h.below (hbw.mono hB)).at_ hlt
      obtain ⟨T, ac, K, kc, x0, x1, x2, x3, x4, hT, hK, hac, hkc⟩ := hn
      have hsm := hs _ (List.getElem_mem hlt)
      have hk0 : (0 : Int) ≤ (k : Int) := by omega
      have hk1 : (k : Int) < (l.length : Int) := by omega
      go_wp2_with fail
      go_region_held3 (fun w' => w'.cell? ⟨b, o + k * 5, none⟩ = some (.string l[k].name) ∧ w'.cell? ⟨b, o + k * 5 + 1, none⟩ = some (.string l[k].text) ∧ w'.cell? ⟨b, o + k * 5 + 3, none⟩ = some (.int .i64 l[k].parent)) (go_keep) (fail)
      go_wp2_with fail
      have hB1 : BoxAt ((wr.alloc (Obj.cells #[Value.string l[k].name, Value.string l[k].text, Value.slice none 0 0, Value.int IntKind.i64 l[k].parent, Value.slice none 0 0] 46)).drew) 46 wr.heap.size [.string l[k].name, .string l[k].text, .slice none 0 0, .int .i64 l[k].parent, .slice none 0 0] :=
        (BoxAt.made wr 46 #[Value.string l[k].name, Value.string l[k].text, Value.slice none 0 0, Value.int IntKind.i64 l[k].parent, Value.slice none 0 0]).kept (row := none) (grown_drew ⟨rfl, rfl, rfl, Nat.le_refl _, fun _ _ _ => rfl⟩) (by simp)
      have hg1 : wr.grownBy ((wr.alloc (Obj.cells #[Value.string l[k].name, Value.string l[k].text, Value.slice none 0 0, Value.int IntKind.i64 l[k].parent, Value.slice none 0 0] 46)).drew) none := grown_drew (World.grownBy_alloc wr _ none)
      have hz1 : ((wr.alloc (Obj.cells #[Value.string l[k].name, Value.string l[k].text, Value.slice none 0 0, Value.int IntKind.i64 l[k].parent, Value.slice none 0 0] 46)).drew).heap.size = wr.heap.size + 1 := by simp
      generalize (wr.alloc (Obj.cells #[Value.string l[k].name, Value.string l[k].text, Value.slice none 0 0, Value.int IntKind.i64 l[k].parent, Value.slice none 0 0] 46)).drew = W1 at *
      have hbwr : b < wr.heap.size := by have := hbw.size; omega
      have hf12 := hB1.frozen 2
      have y2 : W1.cell? ⟨b, o + k * 5 + 2, none⟩ = some (.slice T l[k].attrs.length ac) := (hg1.cell_far ⟨b, o + k * 5 + 2, none⟩ hbwr (by simp)).trans x2
      have z2 : W1.cell? ⟨wr.heap.size, 2, none⟩ = some (.slice none 0 0) := hB1.cell (j := 2) rfl
      have hT1 := hT.keep (w' := W1) (fun p hp => hg1.cell_far p (by have := hbw.size; omega) (by simp))
      have hK1 := hK.keep (w' := W1) (fun p hp => hg1.cell_far p (by have := hbw.size; omega) (by simp))
      obtain ⟨ia, ia0, iaz, ia1, ia2⟩ := info_parts info_attr
      obtain ⟨ii, ii0, iiz, ii1, ii2⟩ := info_parts info_int
      obtain ⟨inn, in0, inz, in1, in2⟩ := info_parts info_node
      have hal := hsm.attrs
      have hkl := hsm.kids
      unfold reachBytes at hal hkl
      have hwr := hbw.size
      have HB1 := Lib.hid hB1
      clear hB1
      go_cut [3, 4, 5] (fun v i p wx => v = u3 ∧ i = .int .i64 k ∧ p = .pointer (some ⟨wr.heap.size, 0, none⟩) ∧ ∃ T6 ac6, BoxAt wx 46 wr.heap.size [.string l[k].name, .string l[k].text, .slice T6 l[k].attrs.length ac6, .int .i64 l[k].parent, .slice none 0 0] ∧ wx.ownsRow w.heap.size 68 2 (.slice T6 l[k].attrs.length ac6) l[k].attrs.length (attrCells l[k].attrs) ∧ (∀ g, (Value.slice T6 l[k].attrs.length ac6).ownBlock = some g → wr.heap.size < g) ∧ wr.grownBy wx none)
      case first =>
        go_region_law (refine step_append_src _ (by rfl) _ _ _ (by rfl) w.heap.size 68 ia _ 2 32 Try.underlying44 ia0 iaz ia1 ia2 rfl (by omega) (.slice none 0 0) 0 [] (by rfl) (World.ownsRow_nil _ _ _ _) T l[k].attrs.length ac (attrCells l[k].attrs) (by rfl) (attrCells_length _) (AttrsAt.news (B := B) (hT1.keep fun _ _ => rfl)) (attrCells_one _) (by simp only [maxLen]; omega) (by omega) (by simp; omega) ?_; intro T6 ac6 w6 hown6 hg6 hat6; have hf6 : w6.frozen? ⟨wr.heap.size, 2, none⟩ = false := (hg6.frozen_far ⟨wr.heap.size, 2, none⟩ (by simp; omega) (by simp [Value.ownBlock])).trans hf12; have hc6 : w6.cell? ⟨wr.heap.size, 2, none⟩ = some (.slice none 0 0) := (hg6.cell_far ⟨wr.heap.size, 2, none⟩ (by simp; omega) (by simp [Value.ownBlock])).trans z2)
        all_goals
          go_wp2_with fail
          go_meet
          have hbx := ((HB1.out.kept (row := none) (grown_drew ⟨rfl, rfl, rfl, Nat.le_refl _, fun _ _ _ => rfl⟩) (by simp)).kept hg6 (by simp [Value.ownBlock])).set 2 (.slice T6 l[k].attrs.length ac6)
          have hown6' : w6.ownsRow w.heap.size 68 2 (.slice T6 l[k].attrs.length ac6) l[k].attrs.length (attrCells l[k].attrs) := by simpa using hown6
          have hat6' : ∀ g, (Value.slice T6 l[k].attrs.length ac6).ownBlock = some g → wr.heap.size < g := fun g hg => by
            rcases hat6 g (by rw [Nat.zero_add]; exact hg) with h1 | h1
            · cases h1
            · rw [h1]; simp; omega
          refine ⟨rfl, rfl, rfl, T6, ac6, hbx, hown6'.kept (grown_set w6 wr.heap.size 2 _) ?_, hat6', grown_new (grown_trans hg1 (grown_trans (grown_drew ⟨rfl, rfl, rfl, Nat.le_refl _, fun _ _ _ => rfl⟩) hg6)) (grown_set w6 wr.heap.size 2 _) (fun g hg => by cases hg; exact .inr (Nat.le_refl _))⟩
          cases e : (Value.slice T6 l[k].attrs.length ac6).ownBlock with
          | none => exact .inl rfl
          | some g => refine .inr fun h1 => ?_; cases h1; have := hat6' _ e; omega
      case rest =>
        obtain ⟨rfl, rfl, rfl, T6, ac6, hB2, hown6, hat6, hg2⟩ := hcut
        clear hf12 y2 z2 hT1 hg1 hz1 HB1 hK1
        have hK2 := hK.keep (w' := wc) (fun p hp => hg2.cell_far p (by omega) (by simp))
        have y4 : wc.cell? ⟨b, o + k * 5 + 4, none⟩ = some (.slice K l[k].kids.length kc) := (hg2.cell_far ⟨b, o + k * 5 + 4, none⟩ hbwr (by simp)).trans x4
        have z4 : wc.cell? ⟨wr.heap.size, 4, none⟩ = some (.slice none 0 0) := hB2.cell (j := 4) rfl
        have hf24 := hB2.frozen 4
        have hz2 := hB2.lt
        generalize wc = W2 at *
        have HB2 := Lib.hid hB2
        have HO6 := Lib.hid hown6
        clear hB2 hown6
        go_upto_region 7 with fail
        have hz2' : wr.heap.size ≤ W2.heap.size := by omega
        go_cut [3, 4, 5] (fun v i p wx => v = u3 ∧ i = .int .i64 k ∧ p = .pointer (some ⟨wr.heap.size, 0, none⟩) ∧ ∃ K7 kc7, BoxAt wx 46 wr.heap.size [.string l[k].name, .string l[k].text, .slice T6 l[k].attrs.length ac6, .int .i64 l[k].parent, .slice K7 l[k].kids.length kc7] ∧ wx.ownsRow w.heap.size 3 1 (.slice K7 l[k].kids.length kc7) l[k].kids.length (intCells l[k].kids) ∧ (∀ g, (Value.slice K7 l[k].kids.length kc7).ownBlock = some g → W2.heap.size ≤ g) ∧ wr.grownBy wx none ∧ wx.ownsRow w.heap.size 68 2 (.slice T6 l[k].attrs.length ac6) l[k].attrs.length (attrCells l[k].attrs))
        case first =>
          go_region_law (refine step_append_src _ (by rfl) _ _ _ (by rfl) w.heap.size 3 ii _ 1 8 Try.underlying26 ii0 iiz ii1 ii2 rfl (by omega) (.slice none 0 0) 0 [] (by rfl) (World.ownsRow_nil _ _ _ _) K l[k].kids.length kc (intCells l[k].kids) (by rfl) (intCells_length _) (IntsAt.news (B := B) (hK2.keep fun _ _ => rfl)) (intCells_one _) (by simp only [maxLen]; omega) (by omega) (by simp; omega) ?_; intro K7 kc7 w7 hown7 hg7 hat7; have hf7 : w7.frozen? ⟨wr.heap.size, 4, none⟩ = false := (hg7.frozen_far ⟨wr.heap.size, 4, none⟩ (by simp; omega) (by simp [Value.ownBlock])).trans hf24; have hc7 : w7.cell? ⟨wr.heap.size, 4, none⟩ = some (.slice none 0 0) := (hg7.cell_far ⟨wr.heap.size, 4, none⟩ (by simp; omega) (by simp [Value.ownBlock])).trans z4)
          all_goals
            go_wp2_with fail
            go_meet
            have hbx := ((HB2.out.kept (row := none) (grown_drew ⟨rfl, rfl, rfl, Nat.le_refl _, fun _ _ _ => rfl⟩) (by simp)).kept hg7 (by simp [Value.ownBlock])).set 4 (.slice K7 l[k].kids.length kc7)
            have hown7' : w7.ownsRow w.heap.size 3 1 (.slice K7 l[k].kids.length kc7) l[k].kids.length (intCells l[k].kids) := by simpa using hown7
            have hat7' : ∀ g, (Value.slice K7 l[k].kids.length kc7).ownBlock = some g → W2.heap.size ≤ g := fun g hg => by
              rcases hat7 g (by rw [Nat.zero_add]; exact hg) with h1 | h1
              · cases h1
              · rw [h1]; simp
            have hg7' : W2.grownBy w7 none := grown_trans (grown_drew ⟨rfl, rfl, rfl, Nat.le_refl _, fun _ _ _ => rfl⟩) hg7
            have h6' := (HO6.out.kept hg7' (by cases (Value.slice T6 l[k].attrs.length ac6).ownBlock <;> simp)).kept (grown_set w7 wr.heap.size 4 (.slice K7 l[k].kids.length kc7)) (by
              cases e : (Value.slice T6 l[k].attrs.length ac6).ownBlock with
              | none => exact .inl rfl
              | some g => refine .inr fun h1 => ?_; cases h1; have := hat6 _ e; omega)
            refine ⟨rfl, rfl, rfl, K7, kc7, hbx, hown7'.kept (grown_set w7 wr.heap.size 4 _) ?_, hat7', grown_new (grown_trans hg2 hg7') (grown_set w7 wr.heap.size 4 _) (fun g hg => by cases hg; exact .inr (Nat.le_refl _)), h6'⟩
            cases e : (Value.slice K7 l[k].kids.length kc7).ownBlock with
            | none => exact .inl rfl
            | some g => refine .inr fun h1 => ?_; cases h1; have := hat7' _ e; omega
        case rest =>
          obtain ⟨rfl, rfl, rfl, K7, kc7, hB3, hown7, hat7, hg3, hown6⟩ := hcut
          have HSEP := Lib.hid (show ∀ g, (Value.slice T6 l[k].attrs.length ac6).ownBlock = some g → ¬ (Value.slice K7 l[k].kids.length kc7).ownBlock = some g from fun g e1 e2 => by have := (HO6.out.lt g e1).2; have := hat7 g e2; omega)
          clear hf24 y4 z4 hK2 HB2 HO6 hg2
          generalize wc = W3 at *
          have c0 : W3.cell? ⟨wr.heap.size, 0, none⟩ = some (.string l[k].name) := hB3.cell (j := 0) rfl
          have c1 : W3.cell? ⟨wr.heap.size, 1, none⟩ = some (.string l[k].text) := hB3.cell (j := 1) rfl
          have c2 : W3.cell? ⟨wr.heap.size, 2, none⟩ = some (.slice T6 l[k].attrs.length ac6) := hB3.cell (j := 2) rfl
          have c3 : W3.cell? ⟨wr.heap.size, 3, none⟩ = some (.int .i64 l[k].parent) := hB3.cell (j := 3) rfl
          have c4 : W3.cell? ⟨wr.heap.size, 4, none⟩ = some (.slice K7 l[k].kids.length kc7) := hB3.cell (j := 4) rfl
          have htk : (l.take k).length = k := by rw [List.length_take]; omega
          have hrow : W3.ownsRow w.heap.size 46 5 u3 k xs := by
            have := HD.out.row
            rw [htk] at this
            exact this.kept hg3 (by cases u3.ownBlock <;> simp)
          have HO6 := Lib.hid hown6
          have HO7 := Lib.hid hown7
          have HT6 := Lib.hid hat6
          have HT7 := Lib.hid hat7
          clear hown6 hown7 hat6 hat7 hB3
          go_wp2_with (at_builtin; refine wpList_append_src rfl (.tmp 46) (.tmp 48) 23 rfl w.heap.size 46 inn _ 5 88 Try.underlying23 in0 inz in1 in2 rfl (by decide) u3 k xs rfl (hrow.alloc _) (some ⟨W3.heap.size, 0, none⟩) 1 1 (nodeCells l[k] T6 ac6 K7 kc7) rfl rfl (fun _ => ⟨_, rfl, World.news_of_block (heap_alloc_new W3 _)⟩) (nodeCells_one _ _ _ _ _) (by simp only [maxLen]; omega) (by omega) (by have := hg3.size; simp; omega) ?_; intro T9 c9 w9 hown9 hg9 hat9)
          go_roundw
          case rel =>
            have hsn := HD.out.snoc (w2 := W3.alloc (Obj.cells #[Value.string l[k].name, Value.string l[k].text, Value.slice T6 l[k].attrs.length ac6, Value.int IntKind.i64 l[k].parent, Value.slice K7 l[k].kids.length kc7] 46)) (w3 := w9) (n := l[k]) (T := T6) (ac := ac6) (K := K7) (kc := kc7) (v3 := .slice T9 (k + 1) c9) (grown_trans hg3 (World.grownBy_alloc W3 _ none)) (World.ownsRow.alloc (w := W3) HO6.out _) (fun g e => Nat.le_of_lt (HT6.out g e)) (World.ownsRow.alloc (w := W3) HO7.out _) (fun g e => Nat.le_trans hz2' (HT7.out g e)) HSEP.out hg9 (by rw [htk]; exact hown9) (fun g e => by
              rcases hat9 g e with h1 | h1
              · exact .inl h1
              · exact .inr (by rw [h1]; exact Nat.le_refl _))
            obtain ⟨own', hd'⟩ := hsn
            refine ⟨((hbw.grown hg3 hbw.size (fun _ e => by cases e)).alloc (o := Obj.cells #[Value.string l[k].name, Value.string l[k].text, Value.slice T6 l[k].attrs.length ac6, Value.int IntKind.i64 l[k].parent, Value.slice K7 l[k].kids.length kc7] 46) (by have := hg3.size; omega)).grown hg9 (by have := hg3.size; simp; omega) (fun g e => (HD.out.row.lt g e).1), k + 1, by omega, by go_num, own', xs ++ nodeCells l[k] T6 ac6 K7 kc7, ?_⟩
            rw [List.take_add_one, List.getElem?_eq_getElem hlt]
            exact hd'
          case measure => simp [intOf]; omega
    · obtain rfl : k = l.length := by omega
      have HR := Lib.hid (show DocAt wr w.heap.size u3 l from ⟨own, xs, by have := HD.out; rwa [List.take_length] at this⟩)
      go_wp2_with fail
      go_ret
      exact ⟨_, rfl, HR.out, hbw⟩
end Go.Proofs.Ytpgcaehbbdnhiaa

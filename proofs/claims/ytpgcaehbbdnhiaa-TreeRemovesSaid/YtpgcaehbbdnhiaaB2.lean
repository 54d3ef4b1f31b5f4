/- slices.DeleteFunc, of attributes of a name. -/
import Derived.Test.YtpgcaehbbdnhiaaT2
import Derived.Test.YtpgcaehbbdnhiaaB1
import Derived.WalkSpells
namespace Go.Proofs.Ytpgcaehbbdnhiaa
open Go.RowKit
theorem un1_c (n v m : ByteArray) (b : Nat) (w : World) (_hb : b < w.heap.size) (hc : w.cell? ⟨b, 0, none⟩ = some (.string m)) :
    Calls Try.prog 77 #[.agg #[.string n, .string v], .pointer (some ⟨b, 0, none⟩)] w fun e w' => e = .returned (.bool (n.toList == m.toList)) ∧ Below w.heap.size w w' := by
  go_enter Try.func77, Try.ntmps77
  go_wp2
  go_ret
  exact ⟨rfl, (Below.refl _ _).alloc (Nat.le_refl _) _⟩
set_option maxHeartbeats 400000 in
theorem IndexUn_c (A : Option Addr) (c : Nat) (l : List GAttr) (m : ByteArray) (w : World) (b : Nat) (B : Nat) (hB : B ≤ w.heap.size) (hl : l.length ≤ 4611686018427387904) (h : AttrsAt w B A l)
    (hb : b < w.heap.size) (hc : w.cell? ⟨b, 0, none⟩ = some (.string m)) :
    Calls Try.prog 86 #[.slice A l.length c, .func (.func 77) #[] #[.pointer (some ⟨b, 0, none⟩)]] w
      fun e w' => e = .returned (.int .i64 (fnd l m.toList)) ∧ Below w.heap.size w w' := by
  go_enter Try.func86, Try.ntmps86
  go_wp2_with fail
  go_loopw [8] (fun i wr => Below w.heap.size w wr ∧ ∃ k : Nat, k ≤ l.length ∧ i = .int .i64 k ∧ ∀ j (_ : j < l.length), j < k → (l[j].name.toList == m.toList) = false) (fun i _ => l.length - (intOf i).toNat)
  case atStart => exact ⟨Below.refl _ _, 0, by omega, rfl, fun j _ hj => by omega⟩
  case round =>
    obtain ⟨hbel, k, hk, rfl, hn⟩ := hrel
    have HN := Lib.hid hn
    clear hn
    by_cases hlt : k < l.length
    · obtain ⟨ab, o, rfl, hab, hc1, hc2⟩ := (h.below (hbel.mono hB)).at_ hlt
      have hcr := (hbel.cell (p := ⟨b, 0, none⟩) hb).trans hc
      have hbr : b < wr.heap.size := Nat.lt_of_lt_of_le hb hbel.size
      clear hc
      by_cases hm : (l[k].name.toList == m.toList) = true
      · have HF := Lib.hid (fnd_at hlt HN.out hm)
        go_wp2_with (go_at_call 77; refine (un1_c _ _ m _ _ hbr hcr).mono ?_; rintro e w' ⟨rfl, hb2⟩)
        go_ret
        exact ⟨ret_int HF.out.symm, hbel.trans (hb2.mono hbel.size)⟩
      · have hm' : (l[k].name.toList == m.toList) = false := by simpa using hm
        clear hm
        have HM := Lib.hid hm'
        go_wp2_with (go_at_call 77; refine (un1_c _ _ m _ _ hbr hcr).mono ?_; rintro e w' ⟨rfl, hb2⟩)
        go_roundw
        case rel => exact ⟨hbel.trans (hb2.mono hbel.size), k + 1, by omega, by go_num, fun j h1 h2 => by
          by_cases e : j = k
          · subst e; exact HM.out
          · exact HN.out j h1 (by omega)⟩
        case measure => simp [intOf]; omega
    · have HF := Lib.hid (fnd_none (l := l) (m := m.toList) fun j hj => HN.out j hj (by omega))
      go_wp2
      go_ret
      exact ⟨ret_int HF.out.symm, hbel⟩


def filA (l : List GAttr) (m : List UInt8) : List GAttr := l.filter fun a => !(a.name.toList == m)
theorem filA_all {l : List GAttr} {m : List UInt8} (h : ∀ j (_ : j < l.length), (l[j].name.toList == m) = false) : filA l m = l := by
  unfold filA
  rw [List.filter_eq_self]
  intro a ha
  obtain ⟨j, hj, rfl⟩ := List.mem_iff_getElem.1 ha
  rw [h j hj]; rfl
theorem filA_succ {l : List GAttr} {m : List UInt8} {j : Nat} (h : j < l.length) : filA (l.take (j + 1)) m = filA (l.take j) m ++ (if l[j].name.toList == m then [] else [l[j]]) := by
  unfold filA
  rw [List.take_succ_eq_append_getElem h, List.filter_append]
  congr 1
  by_cases e : (l[j].name.toList == m) = true
  · rw [if_pos e]; simp [e]
  · have e' : (l[j].name.toList == m) = false := by simpa using e
    rw [if_neg e]; simp [e']
theorem attrCells_take (l : List GAttr) : ∀ k, (attrCells l).take (k * 2) = attrCells (l.take k) := by
  induction l with
  | nil => intro k; simp [attrCells]
  | cons a l ih =>
    intro k
    cases k with
    | zero => simp [attrCells]
    | succ k =>
      have e : attrCells (a :: l) = .string a.name :: .string a.val :: attrCells l := by simp [attrCells]
      have e2 : attrCells ((a :: l).take (k + 1)) = .string a.name :: .string a.val :: attrCells (l.take k) := by simp [attrCells]
      rw [e, e2, show (k + 1) * 2 = k * 2 + 1 + 1 by omega, List.take_succ_cons, List.take_succ_cons, ih]
theorem attrCells_drop (l : List GAttr) : ∀ k, (attrCells l).drop (k * 2) = attrCells (l.drop k) := by
  induction l with
  | nil => intro k; simp [attrCells]
  | cons a l ih =>
    intro k
    cases k with
    | zero => simp [attrCells]
    | succ k =>
      have e : attrCells (a :: l) = .string a.name :: .string a.val :: attrCells l := by simp [attrCells]
      rw [e, show (k + 1) * 2 = k * 2 + 1 + 1 by omega, List.drop_succ_cons, List.drop_succ_cons, ih]
      simp
theorem wpList_clear_run {P : Program} (w : World) {ops : Array Oper} {rest : List Oper} {o : Oper} {a : Act} {Q : Exit → Act → World → Prop} (hgd : o.guard = none) (d : Operand) (dT : TypeId)
    (ho : o.op = .call { callee := .builtin .clear, args := #[d], argTypes := #[dT] }) (v : Value) (hd : a.eval d = v) {v' : Value} {w' : World}
    (hrun : (Builtin.clear_ #[dT] o.type #[v]).run P w = .ok v' w')
    (h : wpList P ops Q rest (a.put o.dst v') w') : wpList P ops Q (o :: rest) a w := by
  refine wpList_plain hgd fun K hK => ?_
  unfold Oper.wp execOp
  simp only [ho, resolve, invoke, builtin, Sem.run_bind, Sem.run_pure, Result.andThen_ok, List.map_toArray, List.map_cons, List.map_nil, hd, hrun]
  exact hK _ _ h
theorem zero_attr : ∀ w, (zeroValue 68).run Try.prog w = .ok (.agg #[.string ⟨#[]⟩, .string ⟨#[]⟩]) w := Try.zeroValue68
set_option maxRecDepth 100000 in
set_option maxHeartbeats 1000000 in
theorem DelA_c (T : Option Addr) (c : Nat) (l : List GAttr) (m : ByteArray) (w : World) (base b : Nat) (_hbase : base ≤ w.heap.size) (hll : l.length ≤ 4611686018427387904) (hown : w.ownsRow base 68 2 (.slice T l.length c) l.length (attrCells l))
    (hb : b < w.heap.size) (hbT : (Value.slice T l.length c).ownBlock ≠ some b) (hc : w.cell? ⟨b, 0, none⟩ = some (.string m)) :
    Calls Try.prog 76 #[.slice T l.length c, .func (.func 77) #[] #[.pointer (some ⟨b, 0, none⟩)]] w
      fun e w' => ∃ T' c', e = .returned (.slice T' (filA l m.toList).length c') ∧ w'.ownsRow base 68 2 (.slice T' (filA l m.toList).length c') (filA l m.toList).length (attrCells (filA l m.toList)) ∧ w.grownBy w' (Value.slice T l.length c).ownBlock ∧
        ∀ g, (Value.slice T' (filA l m.toList).length c').ownBlock = some g → (Value.slice T l.length c).ownBlock = some g := by
  have hA := attrs_of_owns hown
  by_cases h0 : fnd l m.toList < 0
  · have hall : filA l m.toList = l := filA_all fun j hj => by
      cases e : (l[j].name.toList == m.toList) with
      | false => rfl
      | true =>
        exfalso
        unfold fnd at h0
        split at h0
        · omega
        · rename_i hn
          rw [List.findIdx?_eq_none_iff] at hn
          have := hn _ (List.getElem_mem hj)
          rw [e] at this; simp at this
    rw [hall]
    have hf1 : ∃ f, fnd l m.toList = f := ⟨_, rfl⟩
    obtain ⟨f, hf⟩ := hf1
    have hfm : f = -1 := by have := (fnd_bd l m.toList).1; omega
    subst hfm
    have HO := Lib.hid hown
    clear hall h0 hown
    go_enter Try.func76, Try.ntmps76
    go_wp2_with (go_at_call 86; refine (IndexUn_c T c l m w b w.heap.size (Nat.le_refl _) hll hA hb hc).mono ?_; rw [hf]; rintro e w1 ⟨rfl, hb1⟩)
    go_ret
    exact ⟨T, c, rfl, HO.out.kept (grown_of_below hb1) (by cases (Value.slice T l.length c).ownBlock <;> simp), below_row hb1 _, fun g e => e⟩
  · obtain ⟨k, hk⟩ := Int.eq_ofNat_of_zero_le (Int.not_lt.1 h0)
    obtain ⟨hkl, hkm⟩ := fnd_is hk
    have hbef : ∀ j (_ : j < l.length), j < k → (l[j].name.toList == m.toList) = false := by
      intro j hj hjk
      unfold fnd at hk
      split at hk
      · rename_i i hi
        obtain ⟨_, _, h2⟩ := List.findIdx?_eq_some_iff_getElem.1 hi
        obtain rfl : i = k := by omega
        simpa using h2 j hjk
      · omega
    have hst : filA (l.take (k + 1)) m.toList = l.take k := by
      rw [filA_succ hkl, if_pos hkm, List.append_nil]
      exact filA_all fun j hj => by
        rw [List.length_take] at hj
        rw [List.getElem_take]
        exact hbef j (by omega) (by omega)
    have HST := Lib.hid hst
    obtain ⟨g, cap, e1, hgb, hgl, -⟩ := owns_form hown (by omega)
    cases e1
    have hbg : b ≠ g := fun e => hbT (by rw [e]; rfl)
    have hcap := owns_le hown
    have HO := Lib.hid hown
    have HK := Lib.hid hk
    have hkm1 : ((k : Int) == -1) = false := by rw [beq_eq_false_iff_ne]; omega
    clear h0 hbef hst hkm hown hbT
    go_enter Try.func76, Try.ntmps76
    go_wp2_with (go_at_call 86; refine (IndexUn_c _ c l m w b w.heap.size (Nat.le_refl _) hll hA hb hc).mono ?_; rw [HK.out]; rintro e w1 ⟨rfl, hb1⟩)
    go_loopw [5, 6] (fun iv jv wr => w.grownBy wr (some g) ∧ ∃ (j i : Nat) (xs : List Value), j ≤ l.length ∧ i < j ∧ jv = .int .i64 j ∧ iv = .int .i64 i ∧ i = (filA (l.take j) m.toList).length ∧ wr.ownsRow base 68 2 (.slice (some ⟨g, 0, none⟩) l.length c) l.length xs ∧ xs.take (i * 2) = attrCells (filA (l.take j) m.toList) ∧ xs.drop (j * 2) = attrCells (l.drop j)) (fun _ jv _ => l.length - (intOf jv).toNat)
    case atStart => exact ⟨below_row hb1 _, k + 1, k, attrCells l, by omega, by omega, by go_num, rfl, by rw [HST.out, List.length_take]; omega, HO.out.kept (grown_of_below hb1) (.inr (by simp [Value.ownBlock])), by rw [HST.out, attrCells_take], attrCells_drop l (k + 1)⟩
    case round =>
      obtain ⟨hgw, j, i, xs, hj, hij, rfl, rfl, hil, hrow, htk, hdr⟩ := hrel
      have HIL := Lib.hid hil
      have HTK := Lib.hid htk
      have HDR := Lib.hid hdr
      have hxl := hrow.1
      clear hil htk
      by_cases hjl : j < l.length
      · have hd0 : ∀ r, r < 2 → wr.cell? ⟨g, j * 2 + r, none⟩ = (attrCells (l.drop j))[r]? := fun r hr => by
          rw [hrow.cellAt _ (by omega), ← hdr, List.getElem?_drop]
        obtain ⟨e1, e2⟩ := attrCells_at (l.drop j) 0
        have hdj : (l.drop j)[0]? = some l[j] := by rw [List.getElem?_drop]; exact List.getElem?_eq_getElem (by omega)
        have x0 : wr.cell? ⟨g, j * 2, none⟩ = some (.string l[j].name) := (hd0 0 (by omega)).trans (e1.trans (by rw [hdj]; rfl))
        have x1 : wr.cell? ⟨g, j * 2 + 1, none⟩ = some (.string l[j].val) := (hd0 1 (by omega)).trans (e2.trans (by rw [hdj]; rfl))
        have hgz := (hrow.lt g rfl).2
        have hbz : b < wr.heap.size := Nat.lt_of_lt_of_le hb hgw.size
        have hcr : (wr.alloc (Obj.cells #[.string l[j].name, .string l[j].val] 68)).cell? ⟨b, 0, none⟩ = some (.string m) := by
          have := (hgw.cell_far ⟨b, 0, none⟩ hb (by intro e; cases e; exact hbg rfl)).trans hc
          exact (((Below.refl wr.heap.size wr).alloc (Nat.le_refl _) _).cell (p := ⟨b, 0, none⟩) hbz).trans this
        have hjn : (0 : Int) ≤ (j : Int) := by omega
        have hsucc := filA_succ (m := m.toList) hjl
        have f0 := owns_frozen hrow (i * 2)
        have f1 := owns_frozen hrow (i * 2 + 1)
        obtain ⟨v0, hv0⟩ : ∃ v, wr.cell? ⟨g, i * 2, none⟩ = some v := ⟨xs[i * 2]'(by omega), (hrow.cellAt _ (by omega)).trans (List.getElem?_eq_getElem (by omega))⟩
        obtain ⟨v1, hv1⟩ : ∃ v, wr.cell? ⟨g, i * 2 + 1, none⟩ = some v := ⟨xs[i * 2 + 1]'(by omega), (hrow.cellAt _ (by omega)).trans (List.getElem?_eq_getElem (by omega))⟩
        have HSU := Lib.hid hsucc
        have HROW := Lib.hid hrow
        clear hd0 e1 e2 hdj hsucc hrow hdr
        by_cases hm : (l[j].name.toList == m.toList) = true
        · have hm2 := hm
          go_wp2_with (go_at_call 77; refine (un1_c l[j].name l[j].val m b _ (by simp; omega) hcr).mono ?_; rintro e w2 ⟨rfl, hb2⟩)
          have hgw2 : wr.grownBy w2 none := grown_trans (World.grownBy_alloc wr _ none) (grown_of_below hb2)
          go_roundw
          case rel => exact ⟨grown_new hgw hgw2 (fun _ e => by cases e), j + 1, i, xs, by omega, by omega, by go_num, rfl, by rw [HSU.out, if_pos hm, List.append_nil]; exact HIL.out, HROW.out.kept hgw2 (.inr (by simp [Value.ownBlock])), by rw [HSU.out, if_pos hm, List.append_nil]; exact HTK.out, by
            rw [show (j + 1) * 2 = j * 2 + 2 by omega, ← List.drop_drop, HDR.out]
            exact attrCells_drop _ 1 |>.trans (by rw [List.drop_drop])⟩
          case measure => simp [intOf]; omega
        · have hm' : (l[j].name.toList == m.toList) = false := by simpa using hm
          have hi0 : (0 : Int) ≤ (i : Int) := by omega
          have hil' : (i : Int) < (l.length : Int) := by omega
          clear hm
          go_wp2_with (go_at_call 77; refine (un1_c l[j].name l[j].val m b _ (by simp; omega) hcr).mono ?_; rintro e w2 ⟨rfl, hb2⟩; have y0 : w2.cell? ⟨wr.heap.size, 0, none⟩ = some (.string l[j].name) := (hb2.cell (p := ⟨wr.heap.size, 0, none⟩) (by simp)).trans (by go_simp); have y1 : w2.cell? ⟨wr.heap.size, 1, none⟩ = some (.string l[j].val) := (hb2.cell (p := ⟨wr.heap.size, 1, none⟩) (by simp)).trans (by go_simp); have z0 : w2.cell? ⟨g, i * 2, none⟩ = some v0 := (hb2.cell (p := ⟨g, i * 2, none⟩) (by simp; omega)).trans ((((Below.refl wr.heap.size wr).alloc (Nat.le_refl _) _).cell (p := ⟨g, i * 2, none⟩) hgz).trans hv0); have z1 : w2.cell? ⟨g, i * 2 + 1, none⟩ = some v1 := (hb2.cell (p := ⟨g, i * 2 + 1, none⟩) (by simp; omega)).trans ((((Below.refl wr.heap.size wr).alloc (Nat.le_refl _) _).cell (p := ⟨g, i * 2 + 1, none⟩) hgz).trans hv1); have u0 : w2.frozen? ⟨g, i * 2, none⟩ = false := (hb2.frozen (p := ⟨g, i * 2, none⟩) (by simp; omega)).trans ((((Below.refl wr.heap.size wr).alloc (Nat.le_refl _) _).frozen (p := ⟨g, i * 2, none⟩) hgz).trans f0); have u1 : w2.frozen? ⟨g, i * 2 + 1, none⟩ = false := (hb2.frozen (p := ⟨g, i * 2 + 1, none⟩) (by simp; omega)).trans ((((Below.refl wr.heap.size wr).alloc (Nat.le_refl _) _).frozen (p := ⟨g, i * 2 + 1, none⟩) hgz).trans f1))
          have hgw2 : wr.grownBy w2 none := grown_trans (World.grownBy_alloc wr _ none) (grown_of_below hb2)
          have r2 := HROW.out.kept hgw2 (.inr (by simp [Value.ownBlock]))
          have r3 := r2.stored (i * 2) (.string l[j].name)
          have r4 := r3.1.stored (i * 2 + 1) (.string l[j].val)
          go_roundw
          case rel =>
            refine ⟨grown_trans (grown_new hgw hgw2 (fun _ e => by cases e)) (grown_trans r3.2 r4.2), j + 1, i + 1, _, by omega, by omega, by go_num, by go_num, ?_, r4.1, ?_, ?_⟩
            · rw [HSU.out, if_neg (by rw [hm']; simp), List.length_append]; have := HIL.out; simp; omega
            · rw [HSU.out, if_neg (by rw [hm']; simp)]
              have e1 : attrCells (filA (l.take j) m.toList ++ [l[j]]) = attrCells (filA (l.take j) m.toList) ++ [.string l[j].name, .string l[j].val] := by simp [attrCells]
              rw [e1, ← HTK.out]
              refine List.ext_getElem? fun r => ?_
              rw [List.getElem?_take]
              by_cases hr : r < i * 2
              · rw [if_pos (by omega), List.getElem?_set_ne (by omega), List.getElem?_set_ne (by omega), List.getElem?_append_left (by rw [List.length_take]; omega), List.getElem?_take, if_pos hr]
              · rw [List.getElem?_append_right (by rw [List.length_take]; omega), List.length_take, Nat.min_eq_left (by omega)]
                by_cases h0 : r = i * 2
                · subst h0
                  rw [if_pos (by omega), List.getElem?_set_ne (by omega), List.getElem?_set_self (by omega)]
                  simp
                · by_cases h1 : r = i * 2 + 1
                  · subst h1
                    rw [if_pos (by omega), List.getElem?_set_self (by rw [List.length_set]; omega)]
                    simp
                  · rw [if_neg (by omega), List.getElem?_eq_none (by simp; omega)]
            · rw [List.drop_set, if_pos (by omega), List.drop_set, if_pos (by omega), show (j + 1) * 2 = j * 2 + 2 by omega, ← List.drop_drop, HDR.out]
              exact attrCells_drop _ 1 |>.trans (by rw [List.drop_drop])
          case measure => simp [intOf]; omega
      · obtain rfl : j = l.length := by omega
        have HF := Lib.hid (show (filA l m.toList).length = i by have := HIL.out; rw [List.take_length] at this; omega)
        obtain ⟨wc2, hcl, hrc, hgc⟩ := owns_clear (P := Try.prog) (size := 2) (t := 44) Try.underlying44 zero_attr rfl (by decide) hrow hij (c - i)
        have hi0 : (0 : Int) ≤ (i : Int) := by omega
        have hi1 : (i : Int) ≤ (l.length : Int) := by omega
        have hi2 : (l.length : Int) ≤ (c : Int) := by omega
        have hi3 : (i : Int) ≤ (c : Int) := by omega
        have hne : ¬ c = i := by omega
        have HRC := Lib.hid hrc
        go_wp2_with fail
        go_ret
        refine ⟨some ⟨g, 0, none⟩, c, by rw [HF.out]; simp, ?_, grown_trans hgw hgc, fun _ e => e⟩
        have e1 := HTK.out
        rw [List.take_length] at e1
        have e2 := HRC.out
        rw [e1] at e2
        rw [HF.out]
        exact e2
end Go.Proofs.Ytpgcaehbbdnhiaa

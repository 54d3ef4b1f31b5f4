/- copied, walked. -/
import Derived.Test.YtpgcaehbbdnhiaaA2
import Derived.Test.YtpgcaehbbdnhiaaO2
namespace Go.Proofs.Ytpgcaehbbdnhiaa
open Go.RowKit
theorem below_row {w w' : World} (h : Below w.heap.size w w') (r : Option Nat) : w.grownBy w' r := ⟨h.os, h.tape, h.output, h.size, fun k hk _ => h.block k hk⟩
theorem MixX.start {w : World} {base B : Nat} {v : Value} {l : List GNode} {xs : List Value} (hrow : w.ownsRow base 46 5 v l.length xs)
    (hn : ∀ i n, l[i]? = some n → ∃ T ac K kc, (xs.drop (i * 5)).take 5 = nodeCells n T ac K kc ∧ AttrsAt w B T n.attrs ∧ IntsAt w B K n.kids) : MixX w base B (fun _ => 0) v l 0 xs where
  tag := fun _ _ => rfl
  row := hrow
  node := fun i n hi => by
    obtain ⟨T, ac, K, kc, e, a, b⟩ := hn i n hi
    exact ⟨T, ac, K, kc, e, fun h => absurd h (Nat.not_lt_zero _), fun _ => ⟨a, b⟩⟩
theorem MixX.done {w : World} {base B : Nat} {own : Nat → Nat} {v : Value} {l : List GNode} {xs : List Value} (h : MixX w base B own v l l.length xs) : DocX w base own v l xs where
  tag := h.tag
  row := h.row
  node := fun i n hi => by
    obtain ⟨T, ac, K, kc, e, a, _⟩ := h.node i n hi
    exact ⟨T, ac, K, kc, e, a (List.getElem?_eq_some_iff.1 hi).1⟩
/-- node k gets rows of its own -/
theorem MixX.step {w w2 w3 : World} {base B g cap : Nat} {own : Nat → Nat} {l : List GNode} {k : Nat} (hk : k < l.length) {xs : List Value} (h : MixX w base B own (.slice (some ⟨g, 0, none⟩) l.length cap) l k xs) (hBb : B ≤ base) {T : Option Addr} {ac : Nat} {K : Option Addr} {kc : Nat}
    (hg2 : w.grownBy w2 (some g)) (hg3 : w2.grownBy w3 (some g))
    (hT : w2.ownsRow base 68 2 (.slice T l[k].attrs.length ac) l[k].attrs.length (attrCells l[k].attrs)) (hTb : ∀ b, (Value.slice T l[k].attrs.length ac).ownBlock = some b → w.heap.size ≤ b)
    (hK : w3.ownsRow base 3 1 (.slice K l[k].kids.length kc) l[k].kids.length (intCells l[k].kids)) (hKb : ∀ b, (Value.slice K l[k].kids.length kc).ownBlock = some b → w2.heap.size ≤ b)
    (hrow : w3.ownsRow base 46 5 (.slice (some ⟨g, 0, none⟩) l.length cap) l.length ((xs.set (k * 5 + 2) (.slice T l[k].attrs.length ac)).set (k * 5 + 4) (.slice K l[k].kids.length kc))) :
    ∃ own', MixX w3 base B own' (.slice (some ⟨g, 0, none⟩) l.length cap) l (k + 1) ((xs.set (k * 5 + 2) (.slice T l[k].attrs.length ac)).set (k * 5 + 4) (.slice K l[k].kids.length kc)) := by
  have hgl := (h.row.lt g rfl).2
  have hgt := h.tag g rfl
  have hz := hg2.size
  let own' : Nat → Nat := fun b => if (Value.slice T l[k].attrs.length ac).ownBlock = some b then 2 * k + 1 else if (Value.slice K l[k].kids.length kc).ownBlock = some b then 2 * k + 2 else own b
  have hold : ∀ b, b < w.heap.size → own' b = own b := by
    intro b hb
    show (if _ then _ else if _ then _ else _) = _
    rw [if_neg (fun e => by have := hTb b e; omega), if_neg (fun e => by have := hKb b e; omega)]
  have hTne : ∀ b, (Value.slice T l[k].attrs.length ac).ownBlock = some b → ¬ (Value.slice K l[k].kids.length kc).ownBlock = some b := fun b e1 e2 => by
    have := (hT.lt b e1).2; have := hKb b e2; omega
  refine ⟨own', fun b e => ?_, hrow, fun i n hi => ?_⟩
  · cases e; rw [hold _ hgl]; exact hgt
  · have hil : i < l.length := (List.getElem?_eq_some_iff.1 hi).1
    by_cases e : i = k
    · subst e
      obtain rfl : l[i] = n := by rw [List.getElem?_eq_getElem hil] at hi; cases hi; rfl
      obtain ⟨T0, ac0, K0, kc0, e0, _⟩ := h.node i _ hi
      refine ⟨T, ac, K, kc, ?_, fun _ => ⟨hT.kept hg3 ?_, hK, fun b e => if_pos e, fun b e => (if_neg (fun e1 => hTne b e1 e)).trans (if_pos e)⟩, fun h => absurd h (by omega)⟩
      · rw [seg_same, seg_same, e0]; rfl
      · cases e1 : (Value.slice T l[i].attrs.length ac).ownBlock with
        | none => exact .inl rfl
        | some b => refine .inr fun e2 => ?_; cases e2; have := hTb _ e1; omega
    · obtain ⟨T0, ac0, K0, kc0, e0, h1, h2⟩ := h.node i n hi
      refine ⟨T0, ac0, K0, kc0, by rw [seg_other (by omega) e, seg_other (by omega) e]; exact e0, fun hlt => ?_, fun hge => ?_⟩
      · have a1 := (h1 (by omega)).kept (own' := own') hg2 (fun b e => by cases e; exact hgt) (fun b hb _ => hold b hb)
        exact a1.kept (own' := own') hg3 (fun b e => by cases e; rw [hold _ hgl]; exact hgt) (fun _ _ _ => rfl)
      · obtain ⟨a, b⟩ := h2 (by omega)
        have hgB : B ≤ g := by have := (h.row.lt g rfl).1; omega
        have kk : ∀ p : Addr, p.block < B → w3.cell? p = w.cell? p := fun p hp => (hg3.cell_far p (by omega) (by intro e; cases e; omega)).trans (hg2.cell_far p (by omega) (by intro e; cases e; omega))
        exact ⟨a.keep kk, b.keep kk⟩
theorem seg_get {xs ys : List Value} {k r : Nat} (h : (xs.drop (k * 5)).take 5 = ys) (hr : r < 5) : xs[k * 5 + r]? = ys[r]? := by
  rw [← h, List.getElem?_take, if_pos hr, List.getElem?_drop]
theorem owns_frozen {w : World} {base : Nat} {e : TypeId} {size : Nat} {g n c : Nat} {o : Nat} {m : Nat} {xs : List Value} (h : w.ownsRow base e size (.slice (some ⟨g, o, none⟩) n c) m xs) (j : Nat) : w.frozen? ⟨g, j, none⟩ = false := by
  rcases h.2 with ⟨e1, _⟩ | ⟨g', cap, cur, e1, _, hg, _⟩
  · cases e1
  · cases e1; simp [World.frozen?, hg]
set_option maxRecDepth 100000 in
set_option maxHeartbeats 4000000 in
theorem copied_c (A : Option Addr) (c : Nat) (l : List GNode) (w : World) (B : Nat) (hB : B ≤ w.heap.size) (hs : ∀ n ∈ l, NodeSmall reachBytes n) (hpos : 0 < l.length) (hll : l.length * 88 ≤ 140737488355328) (h : NodesAt w B A l) :
    Calls Try.prog 64 #[.slice A l.length c] w fun e w' => ∃ v, e = .returned v ∧ DocAt w' w.heap.size v l ∧ Below w.heap.size w w' := by
  obtain ⟨b, o, rfl, hbB, -⟩ := h.at_ hpos
  obtain ⟨inn, in0, inz, in1, in2⟩ := info_parts info_node
  have hmk : ∀ W : World, (Instr.makeSlice 23 (.int .i64 (l.length : Int)) (.int .i64 ((l.length : Int) + 1))).run Try.prog W = .ok (.slice (some ⟨W.heap.size, 0, none⟩) l.length (l.length + 1)) (W.alloc (.cells (madeCells (Value.cells (.agg #[.string ⟨#[]⟩, .string ⟨#[]⟩, .slice none 0 0, .int .i64 0, .slice none 0 0])) ((l.length + 1) * 5)) 46)) := by
    intro W
    have := run_make (P := Try.prog) W 23 46 inn _ Try.underlying23 in0 inz .i64 .i64 (l.length : Int) ((l.length : Int) + 1) (by omega) (by omega) (by rw [in2]; omega) (by omega)
    rw [in1] at this
    rw [show ((l.length : Int)).toNat = l.length by omega, show ((l.length : Int) + 1).toNat = l.length + 1 by omega] at this
    exact this
  obtain ⟨cs, hcl, hcc, hc1, hcn⟩ := row_cells l o fun i n hi => by
    obtain ⟨b', o', e, _, hh⟩ := h (by intro e; subst e; simp at hpos)
    cases e
    exact hh i n hi
  generalize hmc : madeCells (Value.cells (.agg #[.string ⟨#[]⟩, .string ⟨#[]⟩, .slice none 0 0, .int .i64 0, .slice none 0 0])) ((l.length + 1) * 5) = mc at hmk
  have hms : mc.size = (l.length + 1) * 5 := by rw [← hmc]; exact size_madeCells _ _
  clear hmc
  have hbw : b < w.heap.size := by omega
  have hcp : ∀ ty, (Builtin.copy_ #[23, 23] ty #[.slice (some ⟨w.heap.size, 0, none⟩) l.length (l.length + 1), .slice (some ⟨b, o, none⟩) l.length c]).run Try.prog (w.alloc (.cells mc 46)) = .ok (goInt l.length) ((w.alloc (.cells mc 46)).setRow w.heap.size (cs ++ mc.toList.drop cs.length).toArray) := by
    intro ty
    have := run_copy_rowN (P := Try.prog) (w.alloc (.cells mc 46)) 23 23 ty 46 w.heap.size 0 l.length (l.length + 1) ⟨b, o, none⟩ l.length c mc 46 cs inn 5 Try.underlying23 in0 in1 (heap_alloc_new w _) (by simp [hcl]) (fun j v hj => by
      rw [addr_add]
      exact (((Below.refl w.heap.size w).alloc (Nat.le_refl _) _).cell (p := ⟨b, o + j, none⟩) hbw).trans (hcc j v hj)) (by rw [hms, hcl]; omega) hc1
    simpa using this
  obtain ⟨W2, hW2⟩ : ∃ W2, W2 = (w.alloc (.cells mc 46)).setRow w.heap.size (cs ++ mc.toList.drop cs.length).toArray := ⟨_, rfl⟩
  rw [← hW2] at hcp
  have hb2 : Below w.heap.size w W2 := by rw [hW2]; exact below_setRow ((Below.refl w.heap.size w).alloc (Nat.le_refl _) _) (Nat.le_refl _) _
  have hrow : W2.ownsRow w.heap.size 46 5 (.slice (some ⟨w.heap.size, 0, none⟩) l.length (l.length + 1)) l.length cs := by
    refine ⟨hcl, .inr ⟨w.heap.size, l.length + 1, (cs ++ mc.toList.drop cs.length).toArray, rfl, Nat.le_refl _, ?_, by omega, by simp only [maxLen]; omega, ?_, ?_⟩⟩
    · rw [hW2]; exact setRow_heap (w.alloc (.cells mc 46)) w.heap.size mc _ 46 _ (heap_alloc_new w _)
    · simp [hcl, hms]; omega
    · rw [← hcl]; simp
  have HMX := Lib.hid (MixX.start (B := B) hrow fun i n hi => by
    obtain ⟨T, ac, K, kc, e, hT, hK⟩ := hcn i n hi
    exact ⟨T, ac, K, kc, e, hT.keep fun p hp => hb2.cell (by omega), hK.keep fun p hp => hb2.cell (by omega)⟩)
  clear hrow hW2 hcn hc1 hcc
  go_enter Try.func64, Try.ntmps64
  go_wp2_with (at_builtin; refine wpList_copy_rowN _ rfl (.tmp 11) (.tmp 12) 23 23 rfl _ _ rfl rfl (hcp _) ?_)
  clear hmk hcp
  go_loopw [16] (fun i wr => Below w.heap.size w wr ∧ ∃ k : Nat, k ≤ l.length ∧ i = .int .i64 k ∧ ∃ own xs, MixX wr w.heap.size B own (.slice (some ⟨w.heap.size, 0, none⟩) l.length (l.length + 1)) l k xs) (fun i _ => l.length - (intOf i).toNat)
  case atStart => exact ⟨hb2, 0, by omega, rfl, _, _, HMX.out⟩
  case round =>
    obtain ⟨hbw2, k, hk, rfl, own, xs, hmx⟩ := hrel
    by_cases hlt : k < l.length
    · have hsm := hs _ (List.getElem_mem hlt)
      have hal : l[k].attrs.length * 32 ≤ 140737488355328 := by have := hsm.attrs; unfold reachBytes at this; omega
      have hkl : l[k].kids.length * 8 ≤ 140737488355328 := by have := hsm.kids; unfold reachBytes at this; omega
      obtain ⟨T, ac, K, kc, eseg, -, h2⟩ := hmx.node k _ (List.getElem?_eq_getElem hlt)
      obtain ⟨hT, hK⟩ := h2 (Nat.le_refl _)
      have hgz := (hmx.row.lt w.heap.size rfl).2
      have x2 : wr.cell? ⟨w.heap.size, k * 5 + 2, none⟩ = some (.slice T l[k].attrs.length ac) := (hmx.row.cellAt _ (by omega)).trans (seg_get eseg (by omega))
      have x4 : wr.cell? ⟨w.heap.size, k * 5 + 4, none⟩ = some (.slice K l[k].kids.length kc) := (hmx.row.cellAt _ (by omega)).trans (seg_get eseg (by omega))
      have f2 := owns_frozen hmx.row (k * 5 + 2)
      have f4 := owns_frozen hmx.row (k * 5 + 4)
      have hzr : B ≤ wr.heap.size := by omega
      have HMX := Lib.hid hmx
      clear hmx eseg h2 hsm
      go_wp2_with (first | (go_at_call 80; refine (CloneA_c T ac l[k].attrs wr B hzr hal hT).mono ?_; rintro e w1 ⟨⟨T1, c1, rfl, hown1⟩, hb1⟩; have y2 := (hb1.cell (p := ⟨w.heap.size, k * 5 + 2, none⟩) hgz).trans x2; have y4 := (hb1.cell (p := ⟨w.heap.size, k * 5 + 4, none⟩) hgz).trans x4; have u2 := (hb1.frozen (p := ⟨w.heap.size, k * 5 + 2, none⟩) hgz).trans f2; have u4 := (hb1.frozen (p := ⟨w.heap.size, k * 5 + 4, none⟩) hgz).trans f4; have z1 := hb1.size) | (go_at_call 81; refine (CloneI_c K kc l[k].kids _ B (by simp [World.setCell]; omega) hkl (hK.keep fun p hp => (World.cell?_setCell_other _ _ _ _ (by intro e; subst e; simp at hp; omega)).trans (hb1.cell (by omega)))).mono ?_; rintro e w3 ⟨⟨T3, c3, rfl, hown3⟩, hb3⟩; have z3 : w1.heap.size ≤ w3.heap.size := (by have := hb3.size; simpa [World.setCell] using this); have v4 := (hb3.cell (p := ⟨w.heap.size, k * 5 + 4, none⟩) (by simp [World.setCell]; omega)).trans ((World.cell?_setCell_other w1 ⟨w.heap.size, k * 5 + 2, none⟩ ⟨w.heap.size, k * 5 + 4, none⟩ _ (by intro e; injection e; omega)).trans y4); have t4 : w3.frozen? ⟨w.heap.size, k * 5 + 4, none⟩ = false := (hb3.frozen (p := ⟨w.heap.size, k * 5 + 4, none⟩) (by simp [World.setCell]; omega)).trans ((World.frozen?_setCell w1 _ _ _).trans u4)))
      have hg01 : wr.grownBy w1 (some w.heap.size) := below_row hb1 _
      have hg02 := grown_trans hg01 (grown_set w1 w.heap.size (k * 5 + 2) (.slice T1 l[k].attrs.length c1))
      have hg23 : (w1.setCell ⟨w.heap.size, k * 5 + 2, none⟩ (.slice T1 l[k].attrs.length c1)).grownBy w3 (some w.heap.size) := below_row hb3 _
      have hg24 := grown_trans hg23 (grown_set w3 w.heap.size (k * 5 + 4) (.slice T3 l[k].kids.length c3))
      go_roundw
      case rel =>
        have r1 := HMX.out.row.kept (grown_of_below hb1) (.inr (by simp [Value.ownBlock]))
        have r2 := (r1.stored (k * 5 + 2) (.slice T1 l[k].attrs.length c1)).1
        have r3 := r2.kept (grown_of_below hb3) (.inr (by simp [Value.ownBlock]))
        have r4 := (r3.stored (k * 5 + 4) (.slice T3 l[k].kids.length c3)).1
        have hT1 := (owns_baseMono hown1 hbw2.size).kept (grown_set w1 w.heap.size (k * 5 + 2) (.slice T1 l[k].attrs.length c1)) (by
          cases e : (Value.slice T1 l[k].attrs.length c1).ownBlock with
          | none => exact .inl rfl
          | some g => refine .inr fun e2 => ?_; cases e2; have := (hown1.lt _ e).1; omega)
        have hK3 := (owns_baseMono (base' := w.heap.size) hown3 (by simp [World.setCell]; omega)).kept (grown_set w3 w.heap.size (k * 5 + 4) (.slice T3 l[k].kids.length c3)) (by
          cases e : (Value.slice T3 l[k].kids.length c3).ownBlock with
          | none => exact .inl rfl
          | some g => refine .inr fun e2 => ?_; cases e2; have := (hown3.lt _ e).1; simp [World.setCell] at this; omega)
        obtain ⟨own', hm'⟩ := HMX.out.step hlt hB hg02 hg24 hT1 (fun g e => (hown1.lt g e).1) hK3 (fun g e => (hown3.lt g e).1) r4
        exact ⟨((hbw2.trans (hb1.mono hbw2.size)).setCell (Nat.le_refl _) _).trans (hb3.mono (by simp [World.setCell]; omega)) |>.setCell (Nat.le_refl _) _, k + 1, by omega, by go_num, own', _, hm'⟩
      case measure => simp [intOf]; omega
    · obtain rfl : k = l.length := by omega
      have HR := Lib.hid hmx.done
      go_wp2_with fail
      go_ret
      exact ⟨_, rfl, ⟨_, _, HR.out⟩, hbw2⟩
end Go.Proofs.Ytpgcaehbbdnhiaa

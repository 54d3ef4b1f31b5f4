/- copied: a document of its own, of the program. -/
import Derived.Test.YtpgcaehbbdnhiaaC1
import Derived.Deep.OwnRows
import Derived.Laws.CopyOwn
import Derived.Lib.SliceRun
namespace Go.Proofs.Ytpgcaehbbdnhiaa
open Go.RowKit
set_option maxRecDepth 100000 in
theorem CloneA_c (A : Option Addr) (c : Nat) (l : List GAttr) (w : World) (B : Nat) (hB : B ≤ w.heap.size) (hl : l.length * 32 ≤ 140737488355328) (h : AttrsAt w B A l) :
    Calls Try.prog 80 #[.slice A l.length c] w fun e w' => (∃ T c', e = .returned (.slice T l.length c') ∧ w'.ownsRow w.heap.size 68 2 (.slice T l.length c') l.length (attrCells l)) ∧ Below w.heap.size w w' := by
  obtain ⟨ia, ia0, iaz, ia1, ia2⟩ := info_parts info_attr
  cases A with
  | none =>
    have hl0 : l = [] := by
      cases l with
      | nil => rfl
      | cons a l => obtain ⟨b, o, e, _⟩ := h (by simp); cases e
    subst hl0
    have q22 : ∀ (w : World) (a : Option Addr) (n c n' c' : Nat), (binOp .eql 44 (.slice a n c) (.slice none n' c')).run Try.prog w = .ok (.bool a.isNone) w := fun w a n c n' c' => Lib.run_eql_slice_nil w _ _ a n c n' c' Try.underlying44
    go_enter Try.func80, Try.ntmps80
    go_wp2_with fail
    go_ret
    exact ⟨⟨none, 0, rfl, World.ownsRow_nil _ _ _ _⟩, Below.refl _ _⟩
  | some ad =>
    have hown0 : (w.alloc (.cells #[] 68)).ownsRow w.heap.size 68 2 (.slice (some ⟨w.heap.size, 0, none⟩) 0 0) 0 [] := World.ownsRow_lit w #[] 0 (Nat.le_refl _) (by simp only [maxLen]; omega) rfl
    have hnw := (h.below ((Below.refl B w).alloc hB (.cells #[] 68))).news
    have q22 : ∀ (w : World) (a : Option Addr) (n c n' c' : Nat), (binOp .eql 44 (.slice a n c) (.slice none n' c')).run Try.prog w = .ok (.bool a.isNone) w := fun w a n c n' c' => Lib.run_eql_slice_nil w _ _ a n c n' c' Try.underlying44
    go_enter Try.func80, Try.ntmps80
    go_wp2_with (at_builtin; refine wpList_append_src rfl (.tmp 5) (.tmp 6) 44 rfl w.heap.size 68 ia _ 2 32 Try.underlying44 ia0 iaz ia1 ia2 rfl (by decide) (.slice (some ⟨w.heap.size, 0, none⟩) 0 0) 0 [] rfl hown0 (some ad) l.length c (attrCells l) rfl (attrCells_length _) hnw (attrCells_one _) (by simp only [maxLen]; omega) (by omega) (by simp) ?_; intro T9 c9 w9 hown9 hg9 hat9)
    go_ret
    refine ⟨⟨T9, c9, rfl, ?_⟩, ((Below.refl w.heap.size w).alloc (Nat.le_refl _) (.cells #[] 68)).grown hg9 (by simp) (fun g e => by cases e; exact Nat.le_refl _)⟩
    simpa using hown9
set_option maxRecDepth 100000 in
theorem CloneI_c (A : Option Addr) (c : Nat) (l : List Int) (w : World) (B : Nat) (hB : B ≤ w.heap.size) (hl : l.length * 8 ≤ 140737488355328) (h : IntsAt w B A l) :
    Calls Try.prog 81 #[.slice A l.length c] w fun e w' => (∃ T c', e = .returned (.slice T l.length c') ∧ w'.ownsRow w.heap.size 3 1 (.slice T l.length c') l.length (intCells l)) ∧ Below w.heap.size w w' := by
  obtain ⟨ia, ia0, iaz, ia1, ia2⟩ := info_parts info_int
  cases A with
  | none =>
    have hl0 : l = [] := by
      cases l with
      | nil => rfl
      | cons a l => obtain ⟨b, o, e, _⟩ := h (by simp); cases e
    subst hl0
    have q22 : ∀ (w : World) (a : Option Addr) (n c n' c' : Nat), (binOp .eql 26 (.slice a n c) (.slice none n' c')).run Try.prog w = .ok (.bool a.isNone) w := fun w a n c n' c' => Lib.run_eql_slice_nil w _ _ a n c n' c' Try.underlying26
    go_enter Try.func81, Try.ntmps81
    go_wp2_with fail
    go_ret
    exact ⟨⟨none, 0, rfl, World.ownsRow_nil _ _ _ _⟩, Below.refl _ _⟩
  | some ad =>
    have hown0 : (w.alloc (.cells #[] 3)).ownsRow w.heap.size 3 1 (.slice (some ⟨w.heap.size, 0, none⟩) 0 0) 0 [] := World.ownsRow_lit w #[] 0 (Nat.le_refl _) (by simp only [maxLen]; omega) rfl
    have hnw := (h.below ((Below.refl B w).alloc hB (.cells #[] 3))).news
    have q22 : ∀ (w : World) (a : Option Addr) (n c n' c' : Nat), (binOp .eql 26 (.slice a n c) (.slice none n' c')).run Try.prog w = .ok (.bool a.isNone) w := fun w a n c n' c' => Lib.run_eql_slice_nil w _ _ a n c n' c' Try.underlying26
    go_enter Try.func81, Try.ntmps81
    go_wp2_with (at_builtin; refine wpList_append_src rfl (.tmp 5) (.tmp 6) 26 rfl w.heap.size 3 ia _ 1 8 Try.underlying26 ia0 iaz ia1 ia2 rfl (by decide) (.slice (some ⟨w.heap.size, 0, none⟩) 0 0) 0 [] rfl hown0 (some ad) l.length c (intCells l) rfl (intCells_length _) hnw (intCells_one _) (by simp only [maxLen]; omega) (by omega) (by simp) ?_; intro T9 c9 w9 hown9 hg9 hat9)
    go_ret
    refine ⟨⟨T9, c9, rfl, ?_⟩, ((Below.refl w.heap.size w).alloc (Nat.le_refl _) (.cells #[] 3)).grown hg9 (by simp) (fun g e => by cases e; exact Nat.le_refl _)⟩
    simpa using hown9
theorem run_copy_rowN {P : Program} (w : World) (dT sT ty elem : TypeId) (g o dLen dCap : Nat) (a : Addr) (sLen sCap : Nat) (cur : Array Value) (t : TypeId) (cs : List Value) (i : TypeInfo) (sz : Nat)
    (hu : P.underlying dT = some (.slice elem)) (hq : P.info? elem = some i) (hi : i.size = sz)
    (hg : w.heap[g]? = some (.cells cur t (0, 0))) (hn : cs.length = Nat.min sLen dLen * sz)
    (hsrc : ∀ j v, cs[j]? = some v → w.cell? (a.add j) = some v) (hfit : o + cs.length ≤ cur.size) (h1 : ∀ v ∈ cs, v.oneCell' = true) :
    (Builtin.copy_ #[dT, sT] ty #[.slice (some ⟨g, o, none⟩) dLen dCap, .slice (some a) sLen sCap]).run P w =
      .ok (goInt (Nat.min sLen dLen)) (w.setRow g (cur.toList.take o ++ cs ++ cur.toList.drop (o + cs.length)).toArray) := by
  have hl := run_loadCells_list (P := P) w a cs hsrc
  have hst := run_storeCells_at P g o t cs 0 cur w hg (by simpa using hfit) h1
  rw [hn] at hl
  simp [Builtin.copy_, run_underlying hu, Builtin.lenOf, Builtin.firstCells, sizeOf, typeInfo, hq, hi, hl, hst]
theorem wpList_copy_rowN {P : Program} (w : World) {ops : Array Oper} {rest : List Oper} {o : Oper} {a : Act} {Q : Exit → Act → World → Prop} (hgd : o.guard = none) (d s : Operand) (dT sT : TypeId)
    (ho : o.op = .call { callee := .builtin .copy, args := #[d, s], argTypes := #[dT, sT] }) (v u : Value) (hd : a.eval d = v) (hs : a.eval s = u) {v' : Value} {w' : World}
    (hrun : (Builtin.copy_ #[dT, sT] o.type #[v, u]).run P w = .ok v' w')
    (h : wpList P ops Q rest (a.put o.dst v') w') : wpList P ops Q (o :: rest) a w := by
  refine wpList_plain hgd fun K hK => ?_
  unfold Oper.wp execOp
  simp only [ho, resolve, invoke, builtin, Sem.run_bind, Sem.run_pure, Result.andThen_ok, List.map_toArray, List.map_cons, List.map_nil, hd, hs, hrun]
  exact hK _ _ h
/-- the cells of a slice of nodes, one after another -/
theorem row_cells {w : World} {B b : Nat} : ∀ (l : List GNode) (o : Nat), (∀ i n, l[i]? = some n → NodeIn w B b (o + i * 5) n) →
    ∃ cs : List Value, cs.length = l.length * 5 ∧ (∀ j v, cs[j]? = some v → w.cell? ⟨b, o + j, none⟩ = some v) ∧ (∀ v ∈ cs, v.oneCell' = true) ∧
      ∀ i n, l[i]? = some n → ∃ T ac K kc, (cs.drop (i * 5)).take 5 = nodeCells n T ac K kc ∧ AttrsAt w B T n.attrs ∧ IntsAt w B K n.kids
  | [], o, _ => ⟨[], rfl, fun j v h => by simp at h, fun v h => by simp at h, fun i n h => by simp at h⟩
  | n0 :: l, o, h => by
    obtain ⟨cs, h1, h2, h3, h4⟩ := row_cells l (o + 5) fun i n hi => by
      have := h (i + 1) n (by rw [List.getElem?_cons_succ]; exact hi)
      rwa [show o + (i + 1) * 5 = o + 5 + i * 5 by omega] at this
    obtain ⟨T, ac, K, kc, x0, x1, x2, x3, x4, hT, hK, -, -⟩ := h 0 n0 rfl
    simp only [Nat.zero_mul, Nat.add_zero] at x0 x1 x2 x3 x4
    refine ⟨nodeCells n0 T ac K kc ++ cs, ?_, ?_, ?_, ?_⟩
    · rw [List.length_append, h1]; simp [nodeCells]; omega
    · intro j v hj
      rcases Nat.lt_or_ge j 5 with hlt | hge
      · rw [List.getElem?_append_left (by simpa [nodeCells] using hlt)] at hj
        match j, hlt with
        | 0, _ => cases hj; exact x0
        | 1, _ => cases hj; exact x1
        | 2, _ => cases hj; exact x2
        | 3, _ => cases hj; exact x3
        | 4, _ => cases hj; exact x4
      · rw [List.getElem?_append_right (by simpa [nodeCells] using hge)] at hj
        have := h2 _ v hj
        rwa [show o + 5 + (j - (nodeCells n0 T ac K kc).length) = o + j by simp [nodeCells]; omega] at this
    · intro v hv
      rcases List.mem_append.1 hv with hv | hv
      · exact nodeCells_one _ _ _ _ _ v hv
      · exact h3 v hv
    · intro i n hi
      cases i with
      | zero =>
        simp at hi
        subst hi
        exact ⟨T, ac, K, kc, by rw [Nat.zero_mul, List.drop_zero, List.take_left' (by simp [nodeCells])], hT, hK⟩
      | succ i =>
        rw [List.getElem?_cons_succ] at hi
        obtain ⟨T', ac', K', kc', e, r⟩ := h4 i n hi
        refine ⟨T', ac', K', kc', ?_, r⟩
        rw [show (i + 1) * 5 = (nodeCells n0 T ac K kc).length + i * 5 by simp [nodeCells]; omega, List.drop_length_add_append]
        exact e
/-- a document's row, of which the first nodes have rows of their own by now -/
structure MixX (w : World) (base B : Nat) (own : Nat → Nat) (v : Value) (l : List GNode) (k : Nat) (xs : List Value) : Prop where
  tag : ∀ g, v.ownBlock = some g → own g = 0
  row : w.ownsRow base 46 5 v l.length xs
  node : ∀ i n, l[i]? = some n → ∃ T ac K kc, (xs.drop (i * 5)).take 5 = nodeCells n T ac K kc ∧ (i < k → NodeOwn w base own i n T ac K kc) ∧ (k ≤ i → AttrsAt w B T n.attrs ∧ IntsAt w B K n.kids)
theorem seg_other {xs : List Value} {k i r : Nat} {v : Value} (hr : r < 5) (hne : i ≠ k) : ((xs.set (k * 5 + r) v).drop (i * 5)).take 5 = (xs.drop (i * 5)).take 5 := by
  rw [List.drop_set]
  split
  · rfl
  · rw [List.take_set_of_le (by omega)]
theorem seg_same {xs : List Value} {k r : Nat} {v : Value} : ((xs.set (k * 5 + r) v).drop (k * 5)).take 5 = ((xs.drop (k * 5)).take 5).set r v := by
  rw [List.drop_set, if_neg (by omega), List.take_set, show k * 5 + r - k * 5 = r by omega]
end Go.Proofs.Ytpgcaehbbdnhiaa

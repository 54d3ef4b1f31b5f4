/- A document of the call's own in memory: a row of nodes, each with rows of its own for attributes and children, no two in one block. -/
import Derived.Test.YtpgcaehbbdnhiaaOpen2
import Derived.Test.YtpgcaehbbdnhiaaNodes
import Derived.Deep.AppendLies
import Derived.Laws.OwnMore
namespace Go.Proofs.Ytpgcaehbbdnhiaa
open Go.RowKit

/-! ### append, from whatever source, nil or empty too -/
theorem run_append_src {P : Program} (w : World) (base : Nat) (t ty e : TypeId) (i : TypeInfo) (z : Value) (size bytes : Nat) (ht : P.underlying t = some (.slice e)) (hi : P.info? e = some i) (hz : i.zero = some z)
    (hsize : i.size = size) (hby : i.bytes = bytes) (hzs : z.cells.size = size) (hsz : 0 < size)
    (v : Value) (n : Nat) (xs : List Value) (hown : w.ownsRow base e size v n xs)
    (A : Option Addr) (m c : Nat) (news : List Value) (hl : news.length = m * size) (hnews : m ≠ 0 → ∃ ad, A = some ad ∧ ∀ j u, news[j]? = some u → w.cell? (ad.add j) = some u) (h1 : ∀ u ∈ news, u.oneCell' = true)
    (h63 : n + m ≤ maxLen) (hbytes : (n + m) * bytes ≤ 140737488355328) (hbase : base ≤ w.heap.size) :
    ∃ T c' w', (Builtin.append_ #[t, t] ty #[v, .slice A m c]).run P w = .ok (.slice T (n + m) c') w' ∧ w'.ownsRow base e size (.slice T (n + m) c') (n + m) (xs ++ news) ∧ w.grownBy w' v.ownBlock ∧
      ∀ g, (Value.slice T (n + m) c').ownBlock = some g → v.ownBlock = some g ∨ g = w.heap.size := by
  have form : ∀ {w' : World} {u : Value} {k : Nat} {ys : List Value}, w'.ownsRow base e size u k ys → ∃ T c', u = .slice T k c' := by
    intro w' u k ys h
    rcases h.2 with ⟨rfl, rfl⟩ | ⟨g, cap, cur, rfl, _⟩
    · exact ⟨none, 0, rfl⟩
    · exact ⟨_, _, rfl⟩
  cases A with
  | some ad =>
    have hn : ∀ j u, news[j]? = some u → w.cell? (ad.add j) = some u := by
      by_cases hm : m = 0
      · subst hm
        have : news = [] := List.eq_nil_of_length_eq_zero (by simpa using hl)
        subst this
        intro j u h; simp at h
      · obtain ⟨ad', e1, h⟩ := hnews hm
        cases e1
        exact h
    obtain ⟨v', w', hr, h2, h3, _, h5⟩ := run_append_own_at (P := P) w base t ty e i z size bytes ht hi hz hsize hby hzs hsz v n xs hown ad m c news hl hn h1 h63 hbytes hbase
    obtain ⟨T, c', rfl⟩ := form h2
    refine ⟨T, c', w', hr, h2, h3, fun g hg => ?_⟩
    rcases h5 with h5 | h5
    · exact .inl (by rw [← h5]; exact hg)
    · rw [h5] at hg; cases hg; exact .inr rfl
  | none =>
    have hm : m = 0 := by
      rcases Nat.eq_zero_or_pos m with h | h
      · exact h
      · obtain ⟨ad, e1, _⟩ := hnews (by omega); cases e1
    subst hm
    have : news = [] := List.eq_nil_of_length_eq_zero (by simpa using hl)
    subst this
    obtain ⟨T, c', rfl⟩ := form hown
    refine ⟨T, c', w, ?_, by simpa using hown, ⟨rfl, rfl, rfl, Nat.le_refl _, fun _ _ _ => rfl⟩, fun g hg => .inl hg⟩
    rcases hown.2 with ⟨h0, rfl⟩ | ⟨g, cap, cur, h0, _, _, hnc, _⟩
    · cases h0
      simp [Builtin.append_, run_underlying ht, sizeOf, typeInfo, hi, Builtin.lenOf, Builtin.firstCells]
    · cases h0
      simp [Builtin.append_, run_underlying ht, sizeOf, typeInfo, hi, Builtin.lenOf, Builtin.firstCells, hnc, storeCells]

theorem wp_append_src {P : Program} {w : World} {o : Oper} {a : Act} {K : Act → World → Prop} {Q : Exit → Act → World → Prop} (s x : Operand) (t : TypeId)
    (ho : o.op = .call { callee := .builtin .append, args := #[s, x], argTypes := #[t, t] })
    (base : Nat) (e : TypeId) (i : TypeInfo) (z : Value) (size bytes : Nat) (ht : P.underlying t = some (.slice e)) (hi : P.info? e = some i) (hz : i.zero = some z)
    (hsize : i.size = size) (hby : i.bytes = bytes) (hzs : z.cells.size = size) (hsz : 0 < size)
    (v : Value) (n : Nat) (xs : List Value) (hs : a.eval s = v) (hown : w.ownsRow base e size v n xs)
    (A : Option Addr) (m c : Nat) (news : List Value) (hx : a.eval x = .slice A m c) (hl : news.length = m * size) (hnews : m ≠ 0 → ∃ ad, A = some ad ∧ ∀ j u, news[j]? = some u → w.cell? (ad.add j) = some u) (h1 : ∀ u ∈ news, u.oneCell' = true)
    (h63 : n + m ≤ maxLen) (hbytes : (n + m) * bytes ≤ 140737488355328) (hbase : base ≤ w.heap.size)
    (h : ∀ T c' w', w'.ownsRow base e size (.slice T (n + m) c') (n + m) (xs ++ news) → w.grownBy w' v.ownBlock → (∀ g, (Value.slice T (n + m) c').ownBlock = some g → v.ownBlock = some g ∨ g = w.heap.size) → K (a.put o.dst (.slice T (n + m) c')) w') : o.wp P a w K Q := by
  obtain ⟨T, c', w', hr, h2, h3, h4⟩ := run_append_src (P := P) w base t o.type e i z size bytes ht hi hz hsize hby hzs hsz v n xs hown A m c news hl hnews h1 h63 hbytes hbase
  unfold Oper.wp execOp
  simp only [ho, resolve, invoke, builtin, Sem.run_bind, Sem.run_pure, Result.andThen_ok, List.map_toArray, List.map_cons, List.map_nil, hs, hx, hr]
  exact h T c' w' h2 h3 h4
theorem wpList_append_src {P : Program} {w : World} {ops : Array Oper} {rest : List Oper} {o : Oper} {a : Act} {Q : Exit → Act → World → Prop} (hgd : o.guard = none) (s x : Operand) (t : TypeId)
    (ho : o.op = .call { callee := .builtin .append, args := #[s, x], argTypes := #[t, t] })
    (base : Nat) (e : TypeId) (i : TypeInfo) (z : Value) (size bytes : Nat) (ht : P.underlying t = some (.slice e)) (hi : P.info? e = some i) (hz : i.zero = some z)
    (hsize : i.size = size) (hby : i.bytes = bytes) (hzs : z.cells.size = size) (hsz : 0 < size)
    (v : Value) (n : Nat) (xs : List Value) (hs : a.eval s = v) (hown : w.ownsRow base e size v n xs)
    (A : Option Addr) (m c : Nat) (news : List Value) (hx : a.eval x = .slice A m c) (hl : news.length = m * size) (hnews : m ≠ 0 → ∃ ad, A = some ad ∧ ∀ j u, news[j]? = some u → w.cell? (ad.add j) = some u) (h1 : ∀ u ∈ news, u.oneCell' = true)
    (h63 : n + m ≤ maxLen) (hbytes : (n + m) * bytes ≤ 140737488355328) (hbase : base ≤ w.heap.size)
    (h : ∀ T c' w', w'.ownsRow base e size (.slice T (n + m) c') (n + m) (xs ++ news) → w.grownBy w' v.ownBlock → (∀ g, (Value.slice T (n + m) c').ownBlock = some g → v.ownBlock = some g ∨ g = w.heap.size) → wpList P ops Q rest (a.put o.dst (.slice T (n + m) c')) w') : wpList P ops Q (o :: rest) a w :=
  wpList_plain hgd fun _ hK => wp_append_src s x t ho base e i z size bytes ht hi hz hsize hby hzs hsz v n xs hs hown A m c news hx hl hnews h1 h63 hbytes hbase fun T c' w' h2 h3 h4 => hK _ _ (h T c' w' h2 h3 h4)
theorem step_append_src {P : Program} (w : World) {ops : Array Oper} {o : Oper} {a : Act} {K : Act → World → Prop} {Q : Exit → Act → World → Prop} {E : Prop} (hgd : o.guard = none) (s x : Operand) (t : TypeId)
    (ho : o.op = .call { callee := .builtin .append, args := #[s, x], argTypes := #[t, t] })
    (base : Nat) (e : TypeId) (i : TypeInfo) (z : Value) (size bytes : Nat) (ht : P.underlying t = some (.slice e)) (hi : P.info? e = some i) (hz : i.zero = some z)
    (hsize : i.size = size) (hby : i.bytes = bytes) (hzs : z.cells.size = size) (hsz : 0 < size)
    (v : Value) (n : Nat) (xs : List Value) (hs : a.eval s = v) (hown : w.ownsRow base e size v n xs)
    (A : Option Addr) (m c : Nat) (news : List Value) (hx : a.eval x = .slice A m c) (hl : news.length = m * size) (hnews : m ≠ 0 → ∃ ad, A = some ad ∧ ∀ j u, news[j]? = some u → w.cell? (ad.add j) = some u) (h1 : ∀ u ∈ news, u.oneCell' = true)
    (h63 : n + m ≤ maxLen) (hbytes : (n + m) * bytes ≤ 140737488355328) (hbase : base ≤ w.heap.size)
    (h : ∀ T c' w', w'.ownsRow base e size (.slice T (n + m) c') (n + m) (xs ++ news) → w.grownBy w' v.ownBlock → (∀ g, (Value.slice T (n + m) c').ownBlock = some g → v.ownBlock = some g ∨ g = w.heap.size) → K (a.put o.dst (.slice T (n + m) c')) w') :
    if Region.wanted o (yielded ops a.tmps) = true then Oper.wp P o a w K Q else E := by
  have hw : Region.wanted o (yielded ops a.tmps) = true := by simp [Region.wanted, hgd]
  rw [if_pos hw]
  exact wp_append_src s x t ho base e i z size bytes ht hi hz hsize hby hzs hsz v n xs hs hown A m c news hx hl hnews h1 h63 hbytes hbase h

/-! ### cells of attributes, of integers, of a node -/
def attrCells (l : List GAttr) : List Value := l.flatMap fun a => [.string a.name, .string a.val]
def intCells (l : List Int) : List Value := l.map fun k => .int .i64 k
def nodeCells (n : GNode) (T : Option Addr) (ac : Nat) (K : Option Addr) (kc : Nat) : List Value := [.string n.name, .string n.text, .slice T n.attrs.length ac, .int .i64 n.parent, .slice K n.kids.length kc]
theorem attrCells_length (l : List GAttr) : (attrCells l).length = l.length * 2 := by
  induction l with
  | nil => rfl
  | cons a l ih => simp only [attrCells, List.flatMap_cons, List.length_append, List.length_cons, List.length_nil] at ih ⊢; omega
theorem intCells_length (l : List Int) : (intCells l).length = l.length * 1 := by simp [intCells]
theorem attrCells_one (l : List GAttr) : ∀ u ∈ attrCells l, u.oneCell' = true := by
  intro u hu
  simp only [attrCells, List.mem_flatMap] at hu
  obtain ⟨a, _, h⟩ := hu
  simp at h
  rcases h with rfl | rfl <;> rfl
theorem intCells_one (l : List Int) : ∀ u ∈ intCells l, u.oneCell' = true := by
  intro u hu
  simp only [intCells, List.mem_map] at hu
  obtain ⟨a, _, rfl⟩ := hu
  rfl
theorem nodeCells_one (n : GNode) (T : Option Addr) (ac : Nat) (K : Option Addr) (kc : Nat) : ∀ u ∈ nodeCells n T ac K kc, u.oneCell' = true := by
  intro u hu
  simp [nodeCells] at hu
  rcases hu with rfl | rfl | rfl | rfl | rfl <;> rfl
theorem attrCells_at (l : List GAttr) (i : Nat) : (attrCells l)[i * 2]? = l[i]?.map (fun a => .string a.name) ∧ (attrCells l)[i * 2 + 1]? = l[i]?.map (fun a => .string a.val) := by
  induction l generalizing i with
  | nil => simp [attrCells]
  | cons a l ih =>
    have e : attrCells (a :: l) = .string a.name :: .string a.val :: attrCells l := by simp [attrCells]
    rw [e]
    cases i with
    | zero => simp
    | succ i =>
      have h1 : (i + 1) * 2 = i * 2 + 1 + 1 := by omega
      rw [h1]
      simp only [List.getElem?_cons_succ]
      exact ih i
theorem addr_add (b o j : Nat) : (⟨b, o, none⟩ : Addr).add j = ⟨b, o + j, none⟩ := by unfold Addr.add; split <;> simp_all
/-- the cells that a slice of attributes has -/
theorem AttrsAt.news {w : World} {B : Nat} {A : Option Addr} {l : List GAttr} (h : AttrsAt w B A l) : l.length ≠ 0 → ∃ ad, A = some ad ∧ ∀ j u, (attrCells l)[j]? = some u → w.cell? (ad.add j) = some u := by
  intro hl
  obtain ⟨b, o, rfl, _, hc⟩ := h (by intro e; subst e; simp at hl)
  refine ⟨_, rfl, fun j u hu => ?_⟩
  rw [addr_add]
  obtain ⟨i, r, rfl, hr⟩ : ∃ i r, j = i * 2 + r ∧ r < 2 := ⟨j / 2, j % 2, by omega, by omega⟩
  obtain ⟨e1, e2⟩ := attrCells_at l i
  match r, hr with
  | 0, _ =>
    rw [Nat.add_zero, e1, Option.map_eq_some_iff] at hu
    obtain ⟨a, ha, rfl⟩ := hu
    exact (hc i a ha).1
  | 1, _ =>
    rw [e2, Option.map_eq_some_iff] at hu
    obtain ⟨a, ha, rfl⟩ := hu
    rw [← Nat.add_assoc]
    exact (hc i a ha).2
theorem IntsAt.news {w : World} {B : Nat} {A : Option Addr} {l : List Int} (h : IntsAt w B A l) : l.length ≠ 0 → ∃ ad, A = some ad ∧ ∀ j u, (intCells l)[j]? = some u → w.cell? (ad.add j) = some u := by
  intro hl
  obtain ⟨b, o, rfl, _, hc⟩ := h (by intro e; subst e; simp at hl)
  refine ⟨_, rfl, fun j u hu => ?_⟩
  rw [addr_add]
  simp only [intCells, List.getElem?_map, Option.map_eq_some_iff] at hu
  obtain ⟨a, ha, rfl⟩ := hu
  exact hc j a ha
theorem owns_form {w : World} {base : Nat} {e : TypeId} {size : Nat} {v : Value} {n : Nat} {xs : List Value} (h : w.ownsRow base e size v n xs) (hn : n ≠ 0) :
    ∃ g cap, v = .slice (some ⟨g, 0, none⟩) n cap ∧ base ≤ g ∧ g < w.heap.size ∧ ∀ j, j < n * size → w.cell? ⟨g, j, none⟩ = xs[j]? := by
  obtain ⟨g, cap, rfl, hb, hg⟩ := h.form (by omega)
  exact ⟨g, cap, rfl, hb, hg, fun j hj => h.cellAt j hj⟩
theorem attrs_of_owns {w : World} {base : Nat} {T : Option Addr} {n c : Nat} {l : List GAttr} {e : TypeId} (h : w.ownsRow base e 2 (.slice T n c) l.length (attrCells l)) : AttrsAt w w.heap.size T l := by
  intro hl
  have hl0 : l.length ≠ 0 := fun e => hl (List.eq_nil_of_length_eq_zero e)
  obtain ⟨g, cap, e1, hb, hg, hc⟩ := owns_form h hl0
  cases e1
  refine ⟨g, 0, rfl, hg, fun i a hi => ?_⟩
  have hil : i < l.length := (List.getElem?_eq_some_iff.1 hi).1
  obtain ⟨e1, e2⟩ := attrCells_at l i
  rw [Nat.zero_add]
  exact ⟨by rw [hc _ (by omega), e1, hi]; rfl, by rw [hc _ (by omega), e2, hi]; rfl⟩
theorem ints_of_owns {w : World} {base : Nat} {T : Option Addr} {n c : Nat} {l : List Int} {e : TypeId} (h : w.ownsRow base e 1 (.slice T n c) l.length (intCells l)) : IntsAt w w.heap.size T l := by
  intro hl
  have hl0 : l.length ≠ 0 := fun e => hl (List.eq_nil_of_length_eq_zero e)
  obtain ⟨g, cap, e1, hb, hg, hc⟩ := owns_form h hl0
  cases e1
  refine ⟨g, 0, rfl, hg, fun i a hi => ?_⟩
  have hil : i < l.length := (List.getElem?_eq_some_iff.1 hi).1
  rw [Nat.zero_add, hc _ (by omega)]
  simp [intCells, hi]
theorem owns_slice {w : World} {base : Nat} {e : TypeId} {size : Nat} {v : Value} {n : Nat} {xs : List Value} (h : w.ownsRow base e size v n xs) : ∃ T c, v = .slice T n c := by
  rcases h.2 with ⟨rfl, rfl⟩ | ⟨g, cap, cur, rfl, _⟩
  · exact ⟨none, 0, rfl⟩
  · exact ⟨_, _, rfl⟩
/-- a slice of integers of the call's own -/
def OwnInts (w : World) (base : Nat) (v : Value) (l : List Int) : Prop := w.ownsRow base 3 1 v l.length (intCells l)
theorem OwnInts.kept {w w' : World} {base : Nat} {v : Value} {l : List Int} (h : OwnInts w base v l) (hg : w.grownBy w' none) : OwnInts w' base v l := World.ownsRow.kept h hg (by cases v.ownBlock <;> simp)
theorem OwnInts.below {w w' : World} {base : Nat} {v : Value} {l : List Int} (h : OwnInts w base v l) (hb : Below w.heap.size w w') : OwnInts w' base v l := h.kept ⟨hb.os, hb.tape, hb.output, hb.size, fun k hk _ => hb.block k hk⟩
theorem OwnInts.ints {w : World} {base : Nat} {T : Option Addr} {n c : Nat} {l : List Int} (h : OwnInts w base (.slice T n c) l) : IntsAt w w.heap.size T l := ints_of_owns h
theorem intCells_append (a b : List Int) : intCells a ++ intCells b = intCells (a ++ b) := by simp [intCells]
theorem owns_le {w : World} {base : Nat} {e : TypeId} {size : Nat} {T : Option Addr} {n c : Nat} {xs : List Value} {m : Nat} (h : w.ownsRow base e size (.slice T n c) m xs) : m ≤ c := by
  rcases h.2 with ⟨_, rfl⟩ | ⟨g, cap, cur, e1, _, _, hnc, _⟩
  · exact Nat.zero_le _
  · cases e1; exact hnc

/-- a struct of the call's own in memory, behind a pointer -/
def BoxAt (w : World) (t : TypeId) (g : Nat) (cs : List Value) : Prop := ∃ cur : Array Value, w.heap[g]? = some (.cells cur t (0, 0)) ∧ cur.toList = cs
theorem BoxAt.made (w : World) (t : TypeId) (cs : Array Value) : BoxAt (w.alloc (.cells cs t)) t w.heap.size cs.toList := ⟨cs, heap_alloc_new w _, rfl⟩
theorem BoxAt.cell {w : World} {t : TypeId} {g : Nat} {cs : List Value} (h : BoxAt w t g cs) {j : Nat} {v : Value} (hj : cs[j]? = some v) : w.cell? ⟨g, j, none⟩ = some v := by
  obtain ⟨cur, hg, rfl⟩ := h
  rw [cell_of_row w g j cur t (0, 0) hg]
  simpa using hj
theorem BoxAt.frozen {w : World} {t : TypeId} {g : Nat} {cs : List Value} (h : BoxAt w t g cs) (j : Nat) : w.frozen? ⟨g, j, none⟩ = false := by
  obtain ⟨cur, hg, rfl⟩ := h
  simp [World.frozen?, hg]
theorem BoxAt.set {w : World} {t : TypeId} {g : Nat} {cs : List Value} (h : BoxAt w t g cs) (j : Nat) (v : Value) : BoxAt (w.setCell ⟨g, j, none⟩ v) t g (cs.set j v) := by
  obtain ⟨cur, hg, rfl⟩ := h
  exact ⟨cur.setIfInBounds j v, heap_setCell_same w g j cur t v hg, by simp⟩
theorem BoxAt.kept {w w' : World} {t : TypeId} {g : Nat} {cs : List Value} {row : Option Nat} (h : BoxAt w t g cs) (hg : w.grownBy w' row) (hne : row ≠ some g) : BoxAt w' t g cs := by
  obtain ⟨cur, hc, rfl⟩ := h
  refine ⟨cur, ?_, rfl⟩
  rw [hg.block g (Array.getElem?_eq_some_iff.1 hc).1 (fun e => hne e.symm)]
  exact hc
theorem BoxAt.lt {w : World} {t : TypeId} {g : Nat} {cs : List Value} (h : BoxAt w t g cs) : g < w.heap.size := by
  obtain ⟨cur, hc, _⟩ := h
  exact (Array.getElem?_eq_some_iff.1 hc).1
theorem grown_set (w : World) (g j : Nat) (v : Value) : w.grownBy (w.setCell ⟨g, j, none⟩ v) (some g) :=
  ⟨rfl, rfl, rfl, by simp [World.setCell], fun k _ hk => Below.heap_setCell _ _ _ k (fun e => hk (by rw [e]))⟩
theorem grown_drew {w w' : World} {row : Option Nat} (h : w.grownBy w' row) : w.grownBy w'.drew row := ⟨h.os, h.tape, h.output, h.size, h.block⟩
theorem below_grown {B : Nat} {a w w' : World} {row : Option Nat} (h : Below B a w) (hg : w.grownBy w' row) (hB : B ≤ w.heap.size) (hr : ∀ k, row = some k → B ≤ k) : Below B a w' := h.grown hg hB hr
theorem grown_trans {a b c : World} {r : Option Nat} (h : a.grownBy b r) (k : b.grownBy c r) : a.grownBy c r :=
  ⟨k.os.trans h.os, k.tape.trans h.tape, k.output.trans h.output, Nat.le_trans h.size k.size, fun i hi hne => (k.block i (Nat.lt_of_lt_of_le hi h.size) hne).trans (h.block i hi hne)⟩
/-- what is written into a block made since does not count -/
theorem grown_new {a b c : World} {r r' : Option Nat} (h : a.grownBy b r) (k : b.grownBy c r') (hr : ∀ g, r' = some g → r = some g ∨ a.heap.size ≤ g) : a.grownBy c r :=
  ⟨k.os.trans h.os, k.tape.trans h.tape, k.output.trans h.output, Nat.le_trans h.size k.size, fun i hi hne => by
    refine (k.block i (Nat.lt_of_lt_of_le hi h.size) (fun e => ?_)).trans (h.block i hi hne)
    rcases hr i e.symm with h1 | h1
    · exact hne h1.symm
    · omega⟩

/-! ### a document of one's own -/
structure NodeOwn (w : World) (base : Nat) (own : Nat → Nat) (i : Nat) (n : GNode) (T : Option Addr) (ac : Nat) (K : Option Addr) (kc : Nat) : Prop where
  attrs : w.ownsRow base 68 2 (.slice T n.attrs.length ac) n.attrs.length (attrCells n.attrs)
  kids : w.ownsRow base 3 1 (.slice K n.kids.length kc) n.kids.length (intCells n.kids)
  ta : ∀ g, (Value.slice T n.attrs.length ac).ownBlock = some g → own g = 2 * i + 1
  ka : ∀ g, (Value.slice K n.kids.length kc).ownBlock = some g → own g = 2 * i + 2
structure DocX (w : World) (base : Nat) (own : Nat → Nat) (v : Value) (l : List GNode) (xs : List Value) : Prop where
  tag : ∀ g, v.ownBlock = some g → own g = 0
  row : w.ownsRow base 46 5 v l.length xs
  node : ∀ i n, l[i]? = some n → ∃ T ac K kc, (xs.drop (i * 5)).take 5 = nodeCells n T ac K kc ∧ NodeOwn w base own i n T ac K kc
def DocAt (w : World) (base : Nat) (v : Value) (l : List GNode) : Prop := ∃ own xs, DocX w base own v l xs

theorem NodeOwn.kept {w w' : World} {base : Nat} {own own' : Nat → Nat} {i : Nat} {n : GNode} {T : Option Addr} {ac : Nat} {K : Option Addr} {kc : Nat} {row : Option Nat} (h : NodeOwn w base own i n T ac K kc) (hg : w.grownBy w' row)
    (ht : ∀ g, row = some g → own g = 0) (ho : ∀ g, g < w.heap.size → own g ≠ 0 → own' g = own g) : NodeOwn w' base own' i n T ac K kc where
  attrs := h.attrs.kept hg (by
    cases e : (Value.slice T n.attrs.length ac).ownBlock with
    | none => exact .inl rfl
    | some g => refine .inr fun h1 => ?_; have := h.ta g e; have := ht g h1.symm; omega)
  kids := h.kids.kept hg (by
    cases e : (Value.slice K n.kids.length kc).ownBlock with
    | none => exact .inl rfl
    | some g => refine .inr fun h1 => ?_; have := h.ka g e; have := ht g h1.symm; omega)
  ta := fun g e => by rw [ho g (h.attrs.lt g e).2 (by have := h.ta g e; omega)]; exact h.ta g e
  ka := fun g e => by rw [ho g (h.kids.lt g e).2 (by have := h.ka g e; omega)]; exact h.ka g e
theorem grown_of_below {w w' : World} (h : Below w.heap.size w w') : w.grownBy w' none := ⟨h.os, h.tape, h.output, h.size, fun k hk _ => h.block k hk⟩
theorem DocX.keptB {w w' : World} {base : Nat} {own : Nat → Nat} {v : Value} {l : List GNode} {xs : List Value} (h : DocX w base own v l xs) (hg : w.grownBy w' none) : DocX w' base own v l xs where
  tag := h.tag
  row := h.row.kept hg (by cases v.ownBlock <;> simp)
  node := fun i n hi => by
    obtain ⟨T, ac, K, kc, e, ho⟩ := h.node i n hi
    exact ⟨T, ac, K, kc, e, ho.kept hg (fun g e => by cases e) (fun _ _ _ => rfl)⟩
theorem DocAt.keptB {w w' : World} {base : Nat} {v : Value} {l : List GNode} (h : DocAt w base v l) (hg : w.grownBy w' none) : DocAt w' base v l := by
  obtain ⟨own, xs, h⟩ := h
  exact ⟨own, xs, h.keptB hg⟩
theorem DocAt.below {w w' : World} {base : Nat} {v : Value} {l : List GNode} (h : DocAt w base v l) (hb : Below w.heap.size w w') : DocAt w' base v l := h.keptB (grown_of_below hb)
theorem DocAt.empty (w : World) (base : Nat) : DocAt w base (.slice none 0 0) [] :=
  ⟨fun _ => 0, [], ⟨fun _ _ => rfl, World.ownsRow_nil w base _ _, fun i n h => by simp at h⟩⟩
theorem owns_baseMono {w : World} {base base' : Nat} {e : TypeId} {size : Nat} {v : Value} {n : Nat} {xs : List Value} (h : w.ownsRow base e size v n xs) (hb : base' ≤ base) : w.ownsRow base' e size v n xs := by
  refine ⟨h.1, ?_⟩
  rcases h.2 with h1 | ⟨g, cap, cur, rfl, hbg, rest⟩
  · exact .inl h1
  · exact .inr ⟨g, cap, cur, rfl, by omega, rest⟩
theorem DocX.base {w : World} {base base' : Nat} {own : Nat → Nat} {v : Value} {l : List GNode} {xs : List Value} (h : DocX w base own v l xs) (hb : base' ≤ base) : DocX w base' own v l xs where
  tag := h.tag
  row := owns_baseMono h.row hb
  node := fun i n hi => by
    obtain ⟨T, ac, K, kc, e, ho⟩ := h.node i n hi
    exact ⟨T, ac, K, kc, e, owns_baseMono ho.attrs hb, owns_baseMono ho.kids hb, ho.ta, ho.ka⟩
theorem DocAt.base {w : World} {base base' : Nat} {v : Value} {l : List GNode} (h : DocAt w base v l) (hb : base' ≤ base) : DocAt w base' v l := by
  obtain ⟨own, xs, h⟩ := h
  exact ⟨own, xs, h.base hb⟩
/-- one's own document reads as nodes -/
theorem DocAt.nodes {w : World} {base : Nat} {v : Value} {l : List GNode} (h : DocAt w base v l) : ∃ A c, v = .slice A l.length c ∧ NodesAt w w.heap.size A l ∧ l.length ≤ c := by
  obtain ⟨own, xs, h⟩ := h
  by_cases hl : l = []
  · subst hl
    rcases h.row.2 with ⟨rfl, _⟩ | ⟨g, cap, cur, rfl, _⟩
    · exact ⟨none, 0, rfl, fun h => absurd rfl h, Nat.le_refl _⟩
    · exact ⟨_, _, rfl, fun h => absurd rfl h, Nat.zero_le _⟩
  have hl0 : l.length ≠ 0 := fun e => hl (List.eq_nil_of_length_eq_zero e)
  obtain ⟨g, cap, rfl, hb, hg, hc⟩ := owns_form h.row hl0
  refine ⟨_, _, rfl, fun _ => ⟨g, 0, rfl, hg, fun i n hi => ?_⟩, owns_le h.row⟩
  obtain ⟨T, ac, K, kc, e, ho⟩ := h.node i n hi
  have hil : i < l.length := (List.getElem?_eq_some_iff.1 hi).1
  have key : ∀ r, r < 5 → w.cell? ⟨g, 0 + i * 5 + r, none⟩ = (nodeCells n T ac K kc)[r]? := by
    intro r hr
    rw [← e, List.getElem?_take, if_pos hr, List.getElem?_drop, Nat.zero_add]
    exact hc _ (by omega)
  exact ⟨T, ac, K, kc, key 0 (by omega), key 1 (by omega), key 2 (by omega), key 3 (by omega), key 4 (by omega), attrs_of_owns ho.attrs, ints_of_owns ho.kids, owns_le ho.attrs, owns_le ho.kids⟩
/-- one more node, with rows of its own -/
theorem DocX.snoc {w w2 w3 : World} {base : Nat} {own : Nat → Nat} {v v3 : Value} {l : List GNode} {xs : List Value} {n : GNode} {T : Option Addr} {ac : Nat} {K : Option Addr} {kc : Nat}
    (h : DocX w base own v l xs) (hk : w.grownBy w2 none)
    (hT : w2.ownsRow base 68 2 (.slice T n.attrs.length ac) n.attrs.length (attrCells n.attrs)) (hTb : ∀ g, (Value.slice T n.attrs.length ac).ownBlock = some g → w.heap.size ≤ g)
    (hK : w2.ownsRow base 3 1 (.slice K n.kids.length kc) n.kids.length (intCells n.kids)) (hKb : ∀ g, (Value.slice K n.kids.length kc).ownBlock = some g → w.heap.size ≤ g)
    (hTK : ∀ g, (Value.slice T n.attrs.length ac).ownBlock = some g → ¬ (Value.slice K n.kids.length kc).ownBlock = some g)
    (hg : w2.grownBy w3 v.ownBlock) (hown : w3.ownsRow base 46 5 v3 (l.length + 1) (xs ++ nodeCells n T ac K kc))
    (hv3 : ∀ g, v3.ownBlock = some g → v.ownBlock = some g ∨ w2.heap.size ≤ g) : ∃ own', DocX w3 base own' v3 (l ++ [n]) (xs ++ nodeCells n T ac K kc) := by
  have hxl : xs.length = l.length * 5 := h.row.1
  refine ⟨fun g => if (Value.slice T n.attrs.length ac).ownBlock = some g then 2 * l.length + 1 else if (Value.slice K n.kids.length kc).ownBlock = some g then 2 * l.length + 2 else if v3.ownBlock = some g then 0 else own g, ?_, ?_, ?_⟩
  · intro g e
    have hne1 : ¬ (Value.slice T n.attrs.length ac).ownBlock = some g := by
      intro e1
      have a1 := hTb g e1
      have a2 := (hT.lt g e1).2
      rcases hv3 g e with h1 | h1
      · have := (h.row.lt g h1).2; omega
      · omega
    have hne2 : ¬ (Value.slice K n.kids.length kc).ownBlock = some g := by
      intro e1
      have a1 := hKb g e1
      have a2 := (hK.lt g e1).2
      rcases hv3 g e with h1 | h1
      · have := (h.row.lt g h1).2; omega
      · omega
    rw [if_neg hne1, if_neg hne2, if_pos e]
  · rw [List.length_append]; exact hown
  · intro i n' hi
    rcases Nat.lt_trichotomy i l.length with hlt | rfl | hgt
    · rw [List.getElem?_append_left hlt] at hi
      obtain ⟨T', ac', K', kc', e, ho⟩ := h.node i n' hi
      have hold : ∀ g, g < w.heap.size → own g ≠ 0 → (if (Value.slice T n.attrs.length ac).ownBlock = some g then 2 * l.length + 1 else if (Value.slice K n.kids.length kc).ownBlock = some g then 2 * l.length + 2 else if v3.ownBlock = some g then 0 else own g) = own g := by
        intro g hgw hne
        have hw2 := hk.size
        rw [if_neg (fun e1 => by have := hTb g e1; omega), if_neg (fun e1 => by have := hKb g e1; omega), if_neg]
        intro e1
        rcases hv3 g e1 with h1 | h1
        · exact hne (h.tag g h1)
        · omega
      refine ⟨T', ac', K', kc', ?_, (ho.kept (own' := fun g => if (Value.slice T n.attrs.length ac).ownBlock = some g then 2 * l.length + 1 else if (Value.slice K n.kids.length kc).ownBlock = some g then 2 * l.length + 2 else if v3.ownBlock = some g then 0 else own g) hk (fun g e => by cases e) hold).kept hg (fun g e => ?_) (fun _ _ _ => rfl)⟩
      · rw [List.drop_append_of_le_length (by omega), List.take_append_of_le_length (by rw [List.length_drop]; omega)]
        exact e
      · have hgw := (h.row.lt g e).2
        have t0 := h.tag g e
        show (if _ then _ else if _ then _ else if _ then _ else _) = 0
        rw [if_neg (fun e1 => by have := hTb g e1; omega), if_neg (fun e1 => by have := hKb g e1; omega)]
        split
        · rfl
        · exact t0
    · rw [List.getElem?_append_right (Nat.le_refl _)] at hi
      simp at hi
      subst hi
      refine ⟨T, ac, K, kc, ?_, ?_⟩
      · rw [← hxl, List.drop_left, List.take_of_length_le (by simp [nodeCells])]
      · have hv : ∀ g, v.ownBlock = some g → g < w.heap.size := fun g e => (h.row.lt g e).2
        refine ⟨hT.kept hg ?_, hK.kept hg ?_, fun g e => if_pos e, fun g e => (if_neg (fun e1 => hTK g e1 e)).trans (if_pos e)⟩
        · cases e : (Value.slice T n.attrs.length ac).ownBlock with
          | none => exact .inl rfl
          | some g => refine .inr fun h1 => ?_; have := hTb g e; have := hv g h1.symm; omega
        · cases e : (Value.slice K n.kids.length kc).ownBlock with
          | none => exact .inl rfl
          | some g => refine .inr fun h1 => ?_; have := hKb g e; have := hv g h1.symm; omega
    · rw [List.getElem?_eq_none (by rw [List.length_append]; simp; omega)] at hi
      cases hi
end Go.Proofs.Ytpgcaehbbdnhiaa

/- slices.Insert of one integer into a row of one's own, by the library's proved roads. -/
import Derived.Test.YtpgcaehbbdnhiaaB8
import Derived.Shelf.Spec.SlicesInsert
import Derived.Shelf.Spec.SlicesInsertGrow
namespace Go.Proofs.Ytpgcaehbbdnhiaa
open Go.RowKit Go.Shelf
def ren21 : Go.Shelf.Ren := ⟨fun | 21 => 71 | 27 => 84 | 28 => 85 | 35 => 90 | 39 => 54 | n => n, fun | 22 => 26 | 3 => 3 | 4 => 4 | 0 => 0 | n => n, fun n => n⟩
theorem lays21 : Lays2.n21 Try.prog ren21 := {
  mixed := by kernel_rfl
  f21 := Try.func71.trans (congrArg some (by kernel_rfl))
  f27 := Try.func84.trans (congrArg some (by kernel_rfl))
  f28 := Try.func85.trans (congrArg some (by kernel_rfl))
  f35 := Try.func90.trans (congrArg some (by kernel_rfl))
  f39 := Try.func54.trans (congrArg some (by kernel_rfl))
  t0 := Try.underlying0
  a0 := Try.isAgg0
  z0 := Try.sizeOf0
  v0 := Try.zeroValue0
  t3 := Try.underlying3
  a3 := Try.isAgg3
  z3 := Try.sizeOf3
  v3 := Try.zeroValue3
  t4 := Try.underlying4
  a4 := Try.isAgg4
  z4 := Try.sizeOf4
  v4 := Try.zeroValue4
  t22 := Try.underlying26
  a22 := Try.isAgg26
  z22 := Try.sizeOf26
  v22 := Try.zeroValue26
  i3 := by kernel_rfl }
/-- a row into which some cells were laid -/
def laid : Array Value → Nat → List Value → Array Value
  | cur, _, [] => cur
  | cur, o, v :: r => laid (cur.setIfInBounds o v) (o + 1) r
theorem laid_size : ∀ (vs : List Value) (cur : Array Value) (o : Nat), (laid cur o vs).size = cur.size
  | [], _, _ => rfl
  | v :: r, cur, o => by rw [laid, laid_size r]; simp
theorem laid_get : ∀ (vs : List Value) (cur : Array Value) (o j : Nat), o + vs.length ≤ cur.size → (laid cur o vs)[j]? = if o ≤ j ∧ j < o + vs.length then vs[j - o]? else cur[j]?
  | [], cur, o, j, _ => by rw [if_neg (fun h => by have := h.2; simp at this; omega)]; rfl
  | v :: r, cur, o, j, h => by
    rw [laid, laid_get r _ _ _ (by simp at h ⊢; omega)]
    by_cases h1 : o + 1 ≤ j ∧ j < o + 1 + r.length
    · rw [if_pos h1, if_pos (by simp; omega)]
      rw [show j - o = (j - (o + 1)) + 1 by omega, List.getElem?_cons_succ]
    · rw [if_neg h1]
      by_cases h2 : j = o
      · subst h2
        rw [if_pos (by simp), Nat.sub_self, List.getElem?_cons_zero, Array.getElem?_setIfInBounds, if_pos rfl, if_pos (by simp at h; omega)]
      · rw [if_neg (by simp; omega)]
        rw [Array.getElem?_setIfInBounds_ne (by omega)]
theorem setCells_heap (b : Nat) (t : TypeId) (fr : Nat × Nat) : ∀ (vs : List Value) (o : Nat) (w : World) (cur : Array Value), fr = (0, 0) → w.heap[b]? = some (.cells cur t fr) → (w.setCells b o vs).heap[b]? = some (.cells (laid cur o vs) t fr)
  | [], _, _, _, _, h => h
  | v :: r, o, w, cur, hf, h => by
    subst hf
    rw [World.setCells, laid]
    exact setCells_heap b t (0, 0) r (o + 1) _ _ rfl (heap_setCell_same w b o cur t v h)
theorem setCells_grown (b : Nat) : ∀ (vs : List Value) (o : Nat) (w : World), w.grownBy (w.setCells b o vs) (some b)
  | [], _, w => ⟨rfl, rfl, rfl, Nat.le_refl _, fun _ _ _ => rfl⟩
  | v :: r, o, w => by
    rw [World.setCells]
    exact grown_trans (grown_set w b o v) (setCells_grown b r (o + 1) _)
def insI (l : List Int) (i : Nat) (x : Int) : List Int := l.take i ++ x :: l.drop i
theorem insI_len {l : List Int} {i : Nat} {x : Int} : (insI l i x).length = l.length + 1 := by
  unfold insI
  rw [List.length_append, List.length_cons, List.length_take, List.length_drop]
  omega
theorem insI_end (l : List Int) (x : Int) : insI l l.length x = l ++ [x] := by simp [insI]
theorem insI_get {l : List Int} {i : Nat} {x : Int} (hi : i ≤ l.length) (j : Nat) : (intCells (insI l i x))[j]? = if j < i then (intCells l)[j]? else if j = i then some (.int .i64 x) else (intCells l)[j - 1]? := by
  unfold intCells insI
  simp only [List.getElem?_map]
  by_cases h1 : j < i
  · rw [if_pos h1, List.getElem?_append_left (by rw [List.length_take]; omega), List.getElem?_take, if_pos h1]
  · rw [if_neg h1, List.getElem?_append_right (by rw [List.length_take]; omega), List.length_take, Nat.min_eq_left hi]
    by_cases h2 : j = i
    · subst h2; rw [if_pos rfl, Nat.sub_self]; rfl
    · rw [if_neg h2, show j - i = (j - i - 1) + 1 by omega, List.getElem?_cons_succ, List.getElem?_drop, show i + (j - i - 1) = j - 1 by omega]
/-- a row is one's own, by its cells -/
theorem owns_by {w : World} {base g c n : Nat} {cur : Array Value} {xs : List Value} (hb : base ≤ g) (hg : w.heap[g]? = some (.cells cur 3 (0, 0))) (hc : cur.size = c) (hn : n ≤ c) (hm : c ≤ maxLen) (hx : xs.length = n) (hj : ∀ j, j < n → cur[j]? = xs[j]?) :
    w.ownsRow base 3 1 (.slice (some ⟨g, 0, none⟩) n c) n xs := by
  refine ⟨by omega, .inr ⟨g, c, cur, rfl, hb, hg, hn, hm, by omega, ?_⟩⟩
  refine List.ext_getElem? fun j => ?_
  rw [List.getElem?_take, Nat.mul_one]
  by_cases h : j < n
  · rw [if_pos h, ← hj j h]; simp
  · rw [if_neg h, List.getElem?_eq_none (by omega)]
set_option maxRecDepth 100000 in
set_option maxHeartbeats 1000000 in
theorem InsI_c (T : Option Addr) (c : Nat) (l : List Int) (i : Nat) (x : Int) (hi : i ≤ l.length) (W : World) (base : Nat) (hbase : base ≤ W.heap.size) (hll : l.length ≤ 100000) (hown : W.ownsRow base 3 1 (.slice T l.length c) l.length (intCells l)) :
    Calls Try.prog 71 #[.slice T l.length c, .int .i64 i, .slice (some ⟨W.heap.size, 0, none⟩) 1 1] (W.alloc (.cells #[.int .i64 x] 3))
      fun e w' => ∃ T' c', e = .returned (.slice T' (insI l i x).length c') ∧ w'.ownsRow base 3 1 (.slice T' (insI l i x).length c') (insI l i x).length (intCells (insI l i x)) ∧ W.grownBy w' (Value.slice T l.length c).ownBlock ∧
        ∀ g, (Value.slice T' (insI l i x).length c').ownBlock = some g → (Value.slice T l.length c).ownBlock = some g ∨ W.heap.size ≤ g := by
  rw [insI_len]
  have hw := World.grownBy_alloc W (.cells #[.int .i64 x] 3) (Value.slice T l.length c).ownBlock
  have hvs : ∀ j v, [Value.int .i64 x][j]? = some v → (W.alloc (.cells #[.int .i64 x] 3)).cell? ⟨W.heap.size, 0 + j, none⟩ = some v := fun j v hj => by
    match j, hj with
    | 0, hj => cases hj; go_simp
  have h1v : ∀ v ∈ [Value.int .i64 x], v.oneCell' = true := by simp [Value.oneCell']
  have hcl : (intCells l).length = l.length := by simp [intCells]
  have hnc := owns_le hown
  have hcells : ∀ a, T = some a → ∀ j v, (intCells l)[j]? = some v → (W.alloc (.cells #[.int .i64 x] 3)).cell? (a.add j) = some v := by
    intro a ha j v hj
    subst ha
    have hjl : j < l.length := by have := (List.getElem?_eq_some_iff.1 hj).1; omega
    rcases hown.2 with ⟨h1, _⟩ | ⟨g, cap, cur, e1, hb, hg, _⟩
    · cases h1
    · cases e1
      rw [addr_add, Nat.zero_add]
      exact (((Below.refl W.heap.size W).alloc (Nat.le_refl _) _).cell (p := ⟨g, j, none⟩) (Array.getElem?_eq_some_iff.1 hg).1).trans ((hown.cellAt j (by omega)).trans hj)
  by_cases hend : i = l.length
  · subst hend
    rw [insI_end]
    have hcells2 : intCells (l ++ [x]) = intCells l ++ [.int .i64 x] := by simp [intCells]
    by_cases hroom : l.length + 1 ≤ c
    · rcases hown.2 with ⟨h1, _⟩ | ⟨g, cap, cur, e1, hb, hg, hnc', hcm, hcs, htk⟩
      · simp at h1; omega
      · cases e1
        have hgl := (Array.getElem?_eq_some_iff.1 hg).1
        have hgW : (W.alloc (.cells #[.int .i64 x] 3)).heap[g]? = some (.cells cur 3 (0, 0)) := (Below.heap_alloc W _ g hgl).trans hg
        refine (Any2.slices_Insert_int_end_room lays21 g 0 l.length c W.heap.size 0 1 1 [.int .i64 x] _ (by omega) hroom (by simp only [maxLen] at hcm; omega) rfl (fun j hj => ?_) (fun j hj => ?_) hvs h1v).mono ?_
        · rw [cell_of_row _ g _ cur _ _ hgW]; simp; omega
        · simp [World.frozen?, hgW]
        · rintro e w' ⟨rfl, rfl⟩
          refine ⟨some ⟨g, 0, none⟩, c, rfl, owns_by hb (setCells_heap g _ (0, 0) _ _ _ _ rfl hgW) (by rw [laid_size]; omega) hroom hcm (by rw [hcells2]; simp [hcl]) (fun j hj => ?_), grown_trans hw (setCells_grown g _ _ _), fun _ e => .inl e⟩
          rw [laid_get _ _ _ _ (by simp; omega), hcells2]
          by_cases h2 : j < l.length
          · rw [if_neg (by omega), List.getElem?_append_left (by omega), ← htk, List.getElem?_take, if_pos (by omega)]; simp
          · obtain rfl : j = l.length := by omega
            rw [if_pos (by simp), List.getElem?_append_right (by omega), hcl]
            simp
    · refine (Any2.slices_Insert_int_end_grow lays21 T l.length c W.heap.size 0 1 1 (intCells l) [.int .i64 x] _ (by omega) hnc (by omega) (by omega) hcl rfl (fun e => ?_) hcells hvs h1v).mono ?_
      · subst e
        rcases hown.2 with ⟨_, h2⟩ | ⟨g, cap, cur, e1, _⟩
        · exact h2
        · cases e1
      · rintro e w' ⟨rfl, rfl⟩
        have hge := grownCap_ge (W.alloc (.cells #[.int .i64 x] 3)) (l.length + 1) c 3
        have hle := grownCap_le_maxLen (W.alloc (.cells #[.int .i64 x] 3)) (l.length + 1) c 3 (by simp only [maxLen]; omega)
        refine ⟨_, _, rfl, owns_by (by simp; omega) (heap_alloc_new (W.alloc (.cells #[.int .i64 x] 3)).drew _) ?_ hge hle (by rw [hcells2]; simp [hcl]) (fun j hj => ?_), grown_trans hw (grown_trans (grown_drew ⟨rfl, rfl, rfl, Nat.le_refl _, fun _ _ _ => rfl⟩) (World.grownBy_alloc (W.alloc (.cells #[.int .i64 x] 3)).drew _ _)), fun g e => .inr ?_⟩
        · simp only [Array.size_append, List.size_toArray, List.length_append, hcl, List.length_singleton, size_zeroCells]
          show _ + (grownCap _ _ _ _ - _) * 1 = grownCap _ _ _ _
          have : ren21.t 3 = 3 := rfl
          rw [this]
          omega
        · rw [hcells2, Array.getElem?_append_left (by simp [hcl]; omega)]
          simp
        · have e2 : (W.alloc (.cells #[.int .i64 x] 3)).heap.size = g := by simpa [Value.ownBlock] using e
          rw [← e2]; simp
  · have hlt : i < l.length := by omega
    have h1c : ∀ v ∈ intCells l, v.oneCell' = true := intCells_one l
    have hdl : ((intCells l).drop i).length = l.length - i := by rw [List.length_drop, hcl]
    rcases hown.2 with ⟨h1, h2⟩ | ⟨g, cap, cur, e1, hb, hg, hnc', hcm, hcs, htk⟩
    · omega
    · cases e1
      have hgl := (Array.getElem?_eq_some_iff.1 hg).1
      have hgW : (W.alloc (.cells #[.int .i64 x] 3)).heap[g]? = some (.cells cur 3 (0, 0)) := (Below.heap_alloc W _ g hgl).trans hg
      have hcs0 : ∀ j v, (intCells l)[j]? = some v → (W.alloc (.cells #[.int .i64 x] 3)).cell? ⟨g, 0 + j, none⟩ = some v := fun j v hj => by
        have := hcells _ rfl j v hj
        rwa [addr_add] at this
      have hold : ∀ j, j < l.length → cur[j]? = (intCells l)[j]? := fun j hj => by
        rw [← htk, List.getElem?_take, if_pos (by omega)]; simp
      have hvb := heap_alloc_new W (.cells #[.int .i64 x] 3)
      by_cases hroom : l.length + 1 ≤ c
      · refine (Any2.slices_Insert_int_shift lays21 g 0 l.length c i W.heap.size 0 1 1 (intCells l) [.int .i64 x] _ hlt (by omega) hroom (by simp only [maxLen] at hcm; omega) (by omega) hcl rfl hcs0 (fun j hj => ?_) (fun j hj => ?_) hvs h1c h1v 3 3 1 cur.size ?_ ?_ (by omega) ?_ ?_).mono ?_
        · rw [cell_of_row _ g _ cur _ _ hgW]; simp; omega
        · simp [World.frozen?, hgW]
        · unfold World.shape?; rw [hvb]; rfl
        · simp [World.shape?, hgW]
        · unfold World.frozen?; simp only [hvb]; rfl
        · unfold World.frozen?; simp only [hvb]; rfl
        · rintro e w' ⟨rfl, rfl⟩
          have hh1 := setCells_heap g 3 (0, 0) ((intCells l).drop i) (0 + (i + 1)) (W.alloc (.cells #[.int .i64 x] 3)).drew cur rfl hgW
          have hh2 := setCells_heap g 3 (0, 0) [.int .i64 x] (0 + i) _ _ rfl hh1
          refine ⟨some ⟨g, 0, none⟩, c, rfl, owns_by hb hh2 (by rw [laid_size, laid_size]; omega) hroom hcm (by simp [intCells, insI_len]) (fun j hj => ?_), grown_trans hw (grown_trans (grown_drew ⟨rfl, rfl, rfl, Nat.le_refl _, fun _ _ _ => rfl⟩) (grown_trans (setCells_grown g _ _ _) (setCells_grown g _ _ _))), fun _ e => .inl e⟩
          rw [laid_get _ _ _ _ (by rw [laid_size]; simp; omega), insI_get (by omega)]
          by_cases h2 : j = i
          · subst h2
            rw [if_pos (by simp), if_neg (by omega), if_pos rfl]; simp
          · rw [if_neg (by simp; omega), laid_get _ _ _ _ (by rw [hdl]; omega)]
            by_cases h3 : j < i
            · rw [if_neg (by omega), if_pos h3, hold j (by omega)]
            · rw [if_pos (by rw [hdl]; omega), if_neg h3, if_neg h2, List.getElem?_drop]
              congr 1
              omega
      · refine (Any2.slices_Insert_int_grow lays21 g 0 l.length c i W.heap.size 0 1 1 (intCells l) [.int .i64 x] _ hlt (by omega) hnc (by omega) (by omega) hcl rfl hcs0 hvs h1c h1v).mono ?_
        rintro e w' ⟨rfl, rfl⟩
        have hge := grownCap_ge (W.alloc (.cells #[.int .i64 x] 3)) (l.length + 1) c 3
        have hle := grownCap_le_maxLen (W.alloc (.cells #[.int .i64 x] 3)) (l.length + 1) c 3 (by simp only [maxLen]; omega)
        have hren : ren21.t 3 = 3 := rfl
        rw [hren]
        obtain ⟨A, hA⟩ : ∃ A : Array Value, A = ((intCells l).take i).toArray ++ Builtin.zeroCells (Value.int .i64 0).cells (l.length + 1 - i) ++ Builtin.zeroCells (Value.int .i64 0).cells (grownCap (W.alloc (.cells #[.int .i64 x] 3)) (l.length + 1) c 3 - (l.length + 1)) := ⟨_, rfl⟩
        rw [← hA]
        have hAs : A.size = grownCap (W.alloc (.cells #[.int .i64 x] 3)) (l.length + 1) c 3 := by
          rw [hA]
          simp only [Array.size_append, List.size_toArray, List.length_take, hcl, size_zeroCells]
          show _ + _ * 1 + _ * 1 = _
          omega
        generalize grownCap (W.alloc (.cells #[.int .i64 x] 3)) (l.length + 1) c 3 = C at hge hle hAs hA
        have hh0 := heap_alloc_new (W.alloc (.cells #[.int .i64 x] 3)) (.cells A 3)
        have hh1 := setCells_heap (W.alloc (.cells #[.int .i64 x] 3)).heap.size 3 (0, 0) [.int .i64 x] i ((W.alloc (.cells #[.int .i64 x] 3)).alloc (.cells A 3)).drew A rfl hh0
        have hh2 := setCells_heap (W.alloc (.cells #[.int .i64 x] 3)).heap.size 3 (0, 0) ((intCells l).drop i) (i + 1) (((W.alloc (.cells #[.int .i64 x] 3)).alloc (.cells A 3)).drew.setCells (W.alloc (.cells #[.int .i64 x] 3)).heap.size i [.int .i64 x]).drew _ rfl hh1
        have hdr : ∀ V : World, V.grownBy V.drew none := fun V => ⟨rfl, rfl, rfl, Nat.le_refl _, fun _ _ _ => rfl⟩
        have hWz : W.heap.size ≤ (W.alloc (.cells #[.int .i64 x] 3)).heap.size := by simp
        refine ⟨_, _, rfl, owns_by (by omega) hh2 (by rw [laid_size, laid_size]; exact hAs) (by omega) hle (by simp [intCells, insI_len]) (fun j hj => ?_), ?_, fun gg e => .inr ?_⟩
        · rw [laid_get _ _ _ _ (by rw [laid_size, hdl]; omega), insI_get (by omega)]
          by_cases h3 : j < i
          · rw [if_neg (by omega), if_pos h3, laid_get _ _ _ _ (by simp; omega), if_neg (by omega), hA, Array.append_assoc, Array.getElem?_append_left (by simp [hcl]; omega)]
            simp [h3]
          · by_cases h2 : j = i
            · subst h2
              rw [if_neg (by omega), if_neg (by omega), if_pos rfl, laid_get _ _ _ _ (by simp; omega), if_pos (by simp)]; simp
            · rw [if_pos (by rw [hdl]; omega), if_neg h3, if_neg h2, List.getElem?_drop]
              congr 1
              omega
        · refine grown_new (grown_new (grown_new (grown_new (grown_new hw (World.grownBy_alloc _ _ none) (fun _ e => by cases e)) (hdr _) (fun _ e => by cases e)) (setCells_grown _ _ _ _) (fun _ e => ?_)) (hdr _) (fun _ e => by cases e)) (setCells_grown _ _ _ _) (fun _ e => ?_)
          · cases e; exact .inr hWz
          · cases e; exact .inr hWz
        · have e2 : (W.alloc (.cells #[.int .i64 x] 3)).heap.size = gg := by simpa [Value.ownBlock] using e
          rw [← e2]; exact hWz
end Go.Proofs.Ytpgcaehbbdnhiaa

/- Listeners in memory, and the calls that an event makes of them: plain, no program in sight. -/
import Derived.Test.YtpgcaehbbdnhiaaR2
namespace Go.Proofs.Ytpgcaehbbdnhiaa
open Go.RowKit
abbrev Vis := Int × Int × Bool
def encV (v : Vis) : Array Value := #[.agg #[.int .i64 v.1, .int .i64 v.2.1, .bool v.2.2]]
/-- the visits -/
def visL (L : List Int) (bub : Bool) : List Vis :=
  ((List.range (L.length - 1)).map fun (i : Nat) => (L.getD i 0, 1, true)) ++ ([(L.getD (L.length - 1) 0, 2, true), (L.getD (L.length - 1) 0, 2, false)] ++ (if bub then ((List.range (L.length - 1)).map fun (i : Nat) => (L.getD (L.length - 1 - 1 - i) 0, 3, false)) else []))
/-- a listener -/
structure Lis where
  node : Int
  type : ByteArray
  cap : Bool
  acts : Option Addr × Nat × Nat
def LisIn (w : World) (b o : Nat) (x : Lis) : Prop := w.cell? ⟨b, o, none⟩ = some (.int .i64 x.node) ∧ w.cell? ⟨b, o + 1, none⟩ = some (.string x.type) ∧ w.cell? ⟨b, o + 2, none⟩ = some (.bool x.cap) ∧ w.cell? ⟨b, o + 3, none⟩ = some (.slice x.acts.1 x.acts.2.1 x.acts.2.2)
/-- a slice reads as listeners, below block B -/
def LisAt (w : World) (B : Nat) (A : Option Addr) (l : List Lis) : Prop :=
  l ≠ [] → ∃ b o, A = some ⟨b, o, none⟩ ∧ b < B ∧ ∀ i x, l[i]? = some x → LisIn w b (o + i * 4) x
theorem LisAt.keep {w w' : World} {B : Nat} {A : Option Addr} {l : List Lis} (h : LisAt w B A l) (hk : ∀ p : Addr, p.block < B → w'.cell? p = w.cell? p) : LisAt w' B A l := by
  intro hl
  obtain ⟨b, o, e, hb, hc⟩ := h hl
  exact ⟨b, o, e, hb, fun i a hi => ⟨(hk _ hb).trans (hc i a hi).1, (hk _ hb).trans (hc i a hi).2.1, (hk _ hb).trans (hc i a hi).2.2.1, (hk _ hb).trans (hc i a hi).2.2.2⟩⟩
theorem LisAt.below {w w' : World} {B : Nat} {A : Option Addr} {l : List Lis} (h : LisAt w B A l) (hb : Below B w w') : LisAt w' B A l := h.keep fun _ hp => hb.cell hp
theorem LisAt.mono {w : World} {B B' : Nat} {A : Option Addr} {l : List Lis} (h : LisAt w B A l) (hB : B ≤ B') : LisAt w B' A l := by
  intro hl
  obtain ⟨b, o, e, hb, hc⟩ := h hl
  exact ⟨b, o, e, by omega, hc⟩
theorem LisAt.at_ {w : World} {B : Nat} {A : Option Addr} {l : List Lis} (h : LisAt w B A l) {i : Nat} (hi : i < l.length) :
    ∃ b o, A = some ⟨b, o, none⟩ ∧ b < B ∧ LisIn w b (o + i * 4) l[i] := by
  obtain ⟨b, o, e, hb, hc⟩ := h (by intro e; subst e; simp at hi)
  exact ⟨b, o, e, hb, hc i _ (List.getElem?_eq_getElem hi)⟩
theorem LisAt.at2 {w : World} {B : Nat} {b o : Nat} {l : List Lis} (h : LisAt w B (some ⟨b, o, none⟩) l) {i : Nat} (hi : i < l.length) : LisIn w b (o + i * 4) l[i] := by
  obtain ⟨b', o', e, hb, hc⟩ := h.at_ hi
  cases e
  exact hc
def lisCells (l : List Lis) : List Value := l.flatMap fun x => [.int .i64 x.node, .string x.type, .bool x.cap, .slice x.acts.1 x.acts.2.1 x.acts.2.2]
theorem lisCells_length (l : List Lis) : (lisCells l).length = l.length * 4 := by
  induction l with
  | nil => rfl
  | cons a l ih => simp only [lisCells, List.flatMap_cons, List.length_append, List.length_cons, List.length_nil] at ih ⊢; omega
theorem lisCells_append (a b : List Lis) : lisCells a ++ lisCells b = lisCells (a ++ b) := by simp [lisCells]
theorem lisCells_one (l : List Lis) : ∀ u ∈ lisCells l, u.oneCell' = true := by
  intro u hu
  simp only [lisCells, List.mem_flatMap] at hu
  obtain ⟨a, _, ha⟩ := hu
  simp at ha
  rcases ha with rfl | rfl | rfl | rfl <;> rfl
theorem lisCells_at (l : List Lis) (i : Nat) : (lisCells l)[i * 4]? = l[i]?.map (fun a => .int .i64 a.node) ∧ (lisCells l)[i * 4 + 1]? = l[i]?.map (fun a => .string a.type) ∧ (lisCells l)[i * 4 + 2]? = l[i]?.map (fun a => .bool a.cap) ∧ (lisCells l)[i * 4 + 3]? = l[i]?.map (fun a => .slice a.acts.1 a.acts.2.1 a.acts.2.2) := by
  induction l generalizing i with
  | nil => simp [lisCells]
  | cons a l ih =>
    have e : lisCells (a :: l) = .int .i64 a.node :: .string a.type :: .bool a.cap :: .slice a.acts.1 a.acts.2.1 a.acts.2.2 :: lisCells l := by simp [lisCells]
    rw [e]
    cases i with
    | zero => simp
    | succ i =>
      have h1 : (i + 1) * 4 = i * 4 + 1 + 1 + 1 + 1 := by omega
      rw [h1]
      simp only [List.getElem?_cons_succ]
      exact ih i
theorem LisAt.news {w : World} {B : Nat} {A : Option Addr} {l : List Lis} (h : LisAt w B A l) : l.length ≠ 0 → ∃ ad, A = some ad ∧ ∀ j u, (lisCells l)[j]? = some u → w.cell? (ad.add j) = some u := by
  intro hl
  obtain ⟨b, o, rfl, _, hc⟩ := h (by intro e; subst e; simp at hl)
  refine ⟨_, rfl, fun j u hu => ?_⟩
  rw [addr_add]
  obtain ⟨i, r, rfl, hr⟩ : ∃ i r, j = i * 4 + r ∧ r < 4 := ⟨j / 4, j % 4, by omega, by omega⟩
  obtain ⟨e1, e2, e3, e4⟩ := lisCells_at l i
  match r, hr with
  | 0, _ =>
    rw [Nat.add_zero, e1, Option.map_eq_some_iff] at hu
    obtain ⟨a, ha, rfl⟩ := hu
    exact (hc i a ha).1
  | 1, _ =>
    rw [e2, Option.map_eq_some_iff] at hu
    obtain ⟨a, ha, rfl⟩ := hu
    rw [← Nat.add_assoc]
    exact (hc i a ha).2.1
  | 2, _ =>
    rw [e3, Option.map_eq_some_iff] at hu
    obtain ⟨a, ha, rfl⟩ := hu
    rw [← Nat.add_assoc]
    exact (hc i a ha).2.2.1
  | 3, _ =>
    rw [e4, Option.map_eq_some_iff] at hu
    obtain ⟨a, ha, rfl⟩ := hu
    rw [← Nat.add_assoc]
    exact (hc i a ha).2.2.2
theorem lis_of_owns {w : World} {base : Nat} {T : Option Addr} {n c : Nat} {l : List Lis} {e : TypeId} (h : w.ownsRow base e 4 (.slice T n c) l.length (lisCells l)) : LisAt w w.heap.size T l := by
  intro hl
  have hl0 : l.length ≠ 0 := fun e => hl (List.eq_nil_of_length_eq_zero e)
  obtain ⟨g, cap, e1, hb, hg, hc⟩ := owns_form h hl0
  cases e1
  refine ⟨g, 0, rfl, hg, fun i a hi => ?_⟩
  have hil : i < l.length := (List.getElem?_eq_some_iff.1 hi).1
  obtain ⟨e1, e2, e3, e4⟩ := lisCells_at l i
  rw [Nat.zero_add]
  exact ⟨by rw [hc _ (by omega), e1, hi]; rfl, by rw [hc _ (by omega), e2, hi]; rfl, by rw [hc _ (by omega), e3, hi]; rfl, by rw [hc _ (by omega), e4, hi]; rfl⟩
/-- the cells of a row of one's own, as a source of an append -/
theorem news_of_owns {w : World} {base : Nat} {T : Option Addr} {n c size : Nat} {e : TypeId} {xs : List Value} (h : w.ownsRow base e size (.slice T n c) n xs) : n ≠ 0 → ∃ ad, T = some ad ∧ ∀ j u, xs[j]? = some u → w.cell? (ad.add j) = some u := by
  intro hn
  obtain ⟨g, cap, e1, hb, hg, hc⟩ := owns_form h hn
  cases e1
  refine ⟨_, rfl, fun j u hu => ?_⟩
  have hj : j < xs.length := (List.getElem?_eq_some_iff.1 hu).1
  rw [addr_add, Nat.zero_add, hc j (by rw [← h.1]; exact hj), hu]
/-! ### calls -/
abbrev GCall := Int × Int × Int
def callCells (cs : List GCall) : List Value := cs.flatMap fun c => [.int .i64 c.1, .int .i64 c.2.1, .int .i64 c.2.2]
theorem callCells_length (l : List GCall) : (callCells l).length = l.length * 3 := by
  induction l with
  | nil => rfl
  | cons a l ih => simp only [callCells, List.flatMap_cons, List.length_append, List.length_cons, List.length_nil] at ih ⊢; omega
theorem callCells_append (a b : List GCall) : callCells a ++ callCells b = callCells (a ++ b) := by simp [callCells]
theorem callCells_one (l : List GCall) : ∀ u ∈ callCells l, u.oneCell' = true := by
  intro u hu
  simp only [callCells, List.mem_flatMap] at hu
  obtain ⟨a, _, ha⟩ := hu
  simp at ha
  rcases ha with rfl | rfl | rfl <;> rfl
theorem callCells_at (l : List GCall) (i : Nat) : (callCells l)[i * 3]? = l[i]?.map (fun a => .int .i64 a.1) ∧ (callCells l)[i * 3 + 1]? = l[i]?.map (fun a => .int .i64 a.2.1) ∧ (callCells l)[i * 3 + 2]? = l[i]?.map (fun a => .int .i64 a.2.2) := by
  induction l generalizing i with
  | nil => simp [callCells]
  | cons a l ih =>
    have e : callCells (a :: l) = .int .i64 a.1 :: .int .i64 a.2.1 :: .int .i64 a.2.2 :: callCells l := by simp [callCells]
    rw [e]
    cases i with
    | zero => simp
    | succ i =>
      have h1 : (i + 1) * 3 = i * 3 + 1 + 1 + 1 := by omega
      rw [h1]
      simp only [List.getElem?_cons_succ]
      exact ih i
/-- a slice reads as calls, below block B -/
def CallsAt (w : World) (B : Nat) (A : Option Addr) (l : List GCall) : Prop :=
  l ≠ [] → ∃ b o, A = some ⟨b, o, none⟩ ∧ b < B ∧ ∀ i (x : GCall), l[i]? = some x → w.cell? ⟨b, o + i * 3, none⟩ = some (.int .i64 x.1) ∧ w.cell? ⟨b, o + i * 3 + 1, none⟩ = some (.int .i64 x.2.1) ∧ w.cell? ⟨b, o + i * 3 + 2, none⟩ = some (.int .i64 x.2.2)
theorem CallsAt.keep {w w' : World} {B : Nat} {A : Option Addr} {l : List GCall} (h : CallsAt w B A l) (hk : ∀ p : Addr, p.block < B → w'.cell? p = w.cell? p) : CallsAt w' B A l := by
  intro hl
  obtain ⟨b, o, e, hb, hc⟩ := h hl
  exact ⟨b, o, e, hb, fun i a hi => ⟨(hk _ hb).trans (hc i a hi).1, (hk _ hb).trans (hc i a hi).2.1, (hk _ hb).trans (hc i a hi).2.2⟩⟩
theorem CallsAt.below {w w' : World} {B : Nat} {A : Option Addr} {l : List GCall} (h : CallsAt w B A l) (hb : Below B w w') : CallsAt w' B A l := h.keep fun _ hp => hb.cell hp
theorem CallsAt.mono {w : World} {B B' : Nat} {A : Option Addr} {l : List GCall} (h : CallsAt w B A l) (hB : B ≤ B') : CallsAt w B' A l := by
  intro hl
  obtain ⟨b, o, e, hb, hc⟩ := h hl
  exact ⟨b, o, e, by omega, hc⟩
theorem CallsAt.at_ {w : World} {B : Nat} {A : Option Addr} {l : List GCall} (h : CallsAt w B A l) {i : Nat} (hi : i < l.length) :
    ∃ b o, A = some ⟨b, o, none⟩ ∧ b < B ∧ w.cell? ⟨b, o + i * 3, none⟩ = some (.int .i64 l[i].1) ∧ w.cell? ⟨b, o + i * 3 + 1, none⟩ = some (.int .i64 l[i].2.1) ∧ w.cell? ⟨b, o + i * 3 + 2, none⟩ = some (.int .i64 l[i].2.2) := by
  obtain ⟨b, o, e, hb, hc⟩ := h (by intro e; subst e; simp at hi)
  exact ⟨b, o, e, hb, hc i _ (List.getElem?_eq_getElem hi)⟩
theorem calls_of_owns {w : World} {base : Nat} {T : Option Addr} {n c : Nat} {l : List GCall} {e : TypeId} (h : w.ownsRow base e 3 (.slice T n c) l.length (callCells l)) : CallsAt w w.heap.size T l := by
  intro hl
  have hl0 : l.length ≠ 0 := fun e => hl (List.eq_nil_of_length_eq_zero e)
  obtain ⟨g, cap, e1, hb, hg, hc⟩ := owns_form h hl0
  cases e1
  refine ⟨g, 0, rfl, hg, fun i a hi => ?_⟩
  have hil : i < l.length := (List.getElem?_eq_some_iff.1 hi).1
  obtain ⟨e1, e2, e3⟩ := callCells_at l i
  rw [Nat.zero_add]
  exact ⟨by rw [hc _ (by omega), e1, hi]; rfl, by rw [hc _ (by omega), e2, hi]; rfl, by rw [hc _ (by omega), e3, hi]; rfl⟩
/-- a listener that counts at a visit -/
def fitB (kind : ByteArray) (v : Vis) (x : Lis) : Bool := x.node == v.1 && (x.type.toList == kind.toList && x.cap == v.2.2)
/-- the calls of the first k listeners at a visit -/
def hits (all : List Lis) (kind : ByteArray) (v : Vis) : Nat → List GCall
  | 0 => []
  | k + 1 => hits all kind v k ++ (match all[k]? with | some x => if fitB kind v x then [((k : Int), v.1, v.2.1)] else [] | none => [])
theorem hits_yes {all : List Lis} {kind : ByteArray} {v : Vis} {k : Nat} (hk : k < all.length) (h : fitB kind v all[k] = true) : hits all kind v (k + 1) = hits all kind v k ++ [((k : Int), v.1, v.2.1)] := by
  show _ ++ _ = _
  rw [List.getElem?_eq_getElem hk]
  simp only [h, if_true]
theorem hits_no {all : List Lis} {kind : ByteArray} {v : Vis} {k : Nat} (hk : k < all.length) (h : fitB kind v all[k] = false) : hits all kind v (k + 1) = hits all kind v k := by
  show _ ++ _ = _
  rw [List.getElem?_eq_getElem hk]
  simp [h]
theorem hits_len (all : List Lis) (kind : ByteArray) (v : Vis) : ∀ k, (hits all kind v k).length ≤ k
  | 0 => Nat.le_refl _
  | k + 1 => by
    have ih := hits_len all kind v k
    rw [hits, List.length_append]
    split
    · split <;> simp <;> omega
    · simp; omega
/-- the calls of visits -/
def callsL (all : List Lis) (kind : ByteArray) (vs : List Vis) : List GCall := vs.flatMap fun v => hits all kind v all.length
theorem callsL_succ {all : List Lis} {kind : ByteArray} {vs : List Vis} {k : Nat} {v : Vis} (h : vs[k]? = some v) : callsL all kind (vs.take (k + 1)) = callsL all kind (vs.take k) ++ hits all kind v all.length := by
  obtain ⟨hk, rfl⟩ := List.getElem?_eq_some_iff.1 h
  rw [List.take_succ_eq_append_getElem hk]
  simp only [callsL, List.flatMap_append, List.flatMap_cons, List.flatMap_nil, List.append_nil]
theorem callsL_len (all : List Lis) (kind : ByteArray) : ∀ vs : List Vis, (callsL all kind vs).length ≤ vs.length * all.length
  | [] => by simp [callsL]
  | v :: vs => by
    have h1 := callsL_len all kind vs
    have h2 := hits_len all kind v all.length
    simp only [callsL, List.flatMap_cons, List.length_append, List.length_cons] at h1 ⊢
    rw [Nat.succ_mul]
    omega
theorem visL_len (L : List Int) (bub : Bool) : (visL L bub).length ≤ 2 * L.length + 2 := by
  unfold visL
  cases bub <;> simp <;> omega
theorem info_call : (Try.prog.info? 39).map (fun i => (i.zero, i.size, i.bytes)) = some (some (.agg #[.int .i64 0, .int .i64 0, .int .i64 0]), 3, 24) := by kernel_rfl
theorem info_lis : (Try.prog.info? 42).map (fun i => (i.zero, i.size, i.bytes)) = some (some (.agg #[.int .i64 0, .string ⟨#[]⟩, .bool false, .slice none 0 0]), 4, 56) := by kernel_rfl
/-- a path is not empty, and ends at its node -/
theorem path_last {l : List GNode} {t : Int} {L : List Int} (ht : Is l t) (h : PathP l t L) : ∃ m, L.length = m + 1 ∧ L.getD m 0 = t := by
  obtain ⟨j, rfl, hj, _⟩ := h
  cases j with
  | zero => exact absurd hj (by show ¬ (t < 0); have := ht.1; omega)
  | succ m =>
    refine ⟨m, by simp, ?_⟩
    rw [List.getD, List.getElem?_reverse (by simp)]
    simp [climb]
theorem path_size {l : List GNode} (hr : RightP l) {t : Int} {L : List Int} (ht : Is l t) (h : PathP l t L) : L.length ≤ l.length + 1 := by
  obtain ⟨j, rfl, _, hn⟩ := h
  simpa using path_len hr ht hn
end Go.Proofs.Ytpgcaehbbdnhiaa

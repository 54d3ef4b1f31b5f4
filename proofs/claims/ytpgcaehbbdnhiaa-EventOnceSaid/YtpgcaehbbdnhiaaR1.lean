/- A range over a function of which the rounds always go on, where the iterator itself ranges over a function. -/
import Derived.RangeFuncNested
import Derived.RangeFuncBound
import Derived.RangeFuncCalls
import Derived.RangeFuncLeaves
import Derived.Test.YtpgcaehbbdnhiaaOwn
namespace Go.Proofs.Ytpgcaehbbdnhiaa
open Go.RowKit
/-- blocks of cells of the types ts lie as they lay -/
def KeepT (ts : TypeId → Bool) (W W' : World) : Prop := ∀ (g : Nat) (c : Array Value) (t : TypeId) (r : Nat × Nat), W.heap[g]? = some (Obj.cells c t r) → ts t = true → W'.heap[g]? = some (Obj.cells c t r)
theorem KeepT.refl (ts : TypeId → Bool) (W : World) : KeepT ts W W := fun _ _ _ _ h _ => h
theorem KeepT.trans {ts : TypeId → Bool} {A B C : World} (h : KeepT ts A B) (k : KeepT ts B C) : KeepT ts A C := fun g c t r e ht => k g c t r (h g c t r e ht) ht
theorem KeepT.grown {ts : TypeId → Bool} {A B : World} {row : Option Nat} (hg : A.grownBy B row) (hr : ∀ g, row = some g → ∀ c t r, A.heap[g]? = some (Obj.cells c t r) → ts t = false) : KeepT ts A B := fun g c t r e ht => by
  refine (hg.block g (Array.getElem?_eq_some_iff.1 e).1 fun e2 => ?_).trans e
  rw [hr g e2.symm c t r e] at ht
  cases ht
theorem KeepT.other {ts : TypeId → Bool} {A B : World} {row : Option Nat} (hg : A.grownBy B row) (hr : ∀ g, row = some g → ∃ o : Obj, A.heap[g]? = some o ∧ o.isCells = false) : KeepT ts A B :=
  .grown hg fun g e c t r h => by
    obtain ⟨o, ho, hc⟩ := hr g e
    rw [ho] at h; cases h; cases hc
theorem keepT_own {β : Type} {ts : TypeId → Bool} {W0 : World} : Own (fun (_ : β) W => KeepT ts W0 W) := fun _ _ _ _ h hg hr => h.trans (.other hg hr)
theorem KeepT.box {ts : TypeId → Bool} {W W' : World} (h : KeepT ts W W') {B : Nat} {t : TypeId} {v : Value} (hb : Boxed W B t v) (ht : ts t = true) : Boxed W' B t v := h B _ t _ hb ht
theorem KeepT.row {ts : TypeId → Bool} {W W' : World} (h : KeepT ts W W') {base : Nat} {e : TypeId} {size n : Nat} {v : Value} {xs : List Value} (hr : W.ownsRow base e size v n xs) (ht : ts e = true) : W'.ownsRow base e size v n xs := by
  refine ⟨hr.1, ?_⟩
  rcases hr.2 with h0 | ⟨g, cap, cur, e1, hb, hg, h4⟩
  · exact .inl h0
  · exact .inr ⟨g, cap, cur, e1, hb, h g _ _ _ hg ht, h4⟩
theorem keepsUp {B B' : Nat} {W W' : World} (h : KeepsFrom B W W') (hb : B ≤ B') : KeepsFrom B' W W' := ⟨h.size, fun k o hk => h.same k o (Nat.le_trans hb hk)⟩
theorem round_anyDepth {m m' : Nat} {P : Program} {l : Nat} {f : FuncId} {tmps : Array Value} {assign body : Code} {w : World} {R : Ending → World → Prop} (h : RoundIn Fence.wide m P l f tmps assign body w R) : RoundIn Fence.wide m' P l f tmps assign body w R :=
  ⟨h.1, fun c cs _ => h.2 c cs (room_wide _)⟩
/-- a round that goes on -/
abbrev GoesOn (P : Program) (ts : TypeId → Bool) (B l : Nat) (args : Array Value) (J' : World → Prop) (W : World) : Prop :=
  YieldAt Fence.wide 8 P l args W fun e W' => e = .returned (.bool true) ∧ J' W' ∧ KeepT ts W W' ∧ KeepsFrom B W W'
/-- an iterator that hands out xs, whatever the body be that goes on and keeps the blocks of the types ts -/
def SeqAll {α : Type} (P : Program) (g : Nat) (lb : Array Value) (encs : α → Array Value) (ts : TypeId → Bool) (xs : List α) (w : World) : Prop :=
  ∀ (l : Nat) (J : Nat → World → Prop) (W : World), Below w.heap.size w W → OwnFrom W.heap.size J →
    (∀ k x W1, xs[k]? = some x → J k W1 → GoesOn P ts W.heap.size l (encs x) (J (k + 1)) W1) →
    J 0 W → CallsIn Fence.wide 9 P g (#[.func (.yield l) #[] #[]] ++ lb) W fun e W' => (∃ v, e = .returned v) ∧ J xs.length W'
theorem wide_n {n n' : Nat} {P : Program} {c : Code} {Q : Exit → Act → World → Prop} {a : Act} {w : World} (h : c.wpIn Fence.wide n P Q a w) : c.wpIn Fence.wide n' P Q a w := wpIn_wide.2 (wpIn_wide.1 h)
theorem range_all {n : Nat} {α : Type} {P : Program} {g : Operand} {ps : Array Tmp} {assign body : Code} {Q : Exit → Act → World → Prop} {a : Act} {w : World}
    {gf : Nat} {lb : Array Value} (hg : a.eval g = .func (.func gf) #[] lb) (eg : ∀ args w, (callFunc gf args).run P w = .ok (.enter gf args) w)
    {encs : α → Array Value} {ts : TypeId → Bool} {xs : List α} (hseq : SeqAll P gf lb encs ts xs w) (hps : ∀ x, (encs x).size = ps.size)
    (I : Nat → World → Prop) (hI : OwnFrom w.heap.size I) (h0 : I 0 w) (Ax : Nat → α → Act → World → Prop) (hAx : ∀ k x a', OwnFrom w.heap.size (fun (_ : Unit) W => Ax k x a' W))
    (hassign : ∀ (l k : Nat) (x : α) (W : World) (K : Act → World → Prop), xs[k]? = some x → I k W → (∀ a' W', KeepsFrom w.heap.size W W' → KeepT ts W W' → Ax k x a' W' → K a' W') →
      assign.wpIn (Fence.wide.inRound l) 8 P (Exit.then K (fun _ _ _ => False)) { tmps := (ps.zip (encs x)).foldl (fun t (p, v) => t.setIfInBounds p v) a.tmps, defers := [] } W)
    (hbody : ∀ (l k : Nat) (x : α) (a' : Act) (W : World), xs[k]? = some x → Ax k x a' W →
      body.wpIn (Fence.wide.inRound l) 8 P (Exit.then (fun _ W' => KeepsFrom w.heap.size W W' ∧ KeepT ts W W' ∧ I (k + 1) W') (fun _ _ _ => False)) a' W)
    (hdone : ∀ (D : Nat) (W : World), w.heap.size ≤ D → I xs.length W → W.heap[D]? = some (.deferred (some [])) → Q .normal { a with defers := { target := .collected D, args := #[] } :: a.defers } W) :
    (Code.rangeFunc g ps assign body).wpIn Fence.wide n P Q a w := by
  refine wide_n (n := 10) ?_
  refine wpIn_rangeFunc fun fn hfn => ?_
  let rec_ : LoopState → Loop := fun st => { state := st, pending := none, fn, tmps := a.tmps, params := ps, assign, body, defers := w.heap.size }
  obtain ⟨rc, hrc⟩ : ∃ rc, rc = rec_ := ⟨_, rfl⟩
  let W1 := (w.alloc (.deferred (some []))).alloc (.loop (rc .ready))
  have z1 : W1.heap.size = w.heap.size + 2 := by simp [W1]
  have l1 : W1.heap[w.heap.size + 1]? = some (.loop (rc .ready)) := by
    have := World.alloc_heap_new (w.alloc (.deferred (some []))) (.loop (rc .ready))
    rwa [World.size_alloc] at this
  have d1 : W1.heap[w.heap.size]? = some (.deferred (some [])) := (Below.heap_alloc _ _ _ (by simp)).trans (World.alloc_heap_new w _)
  have i1 : I 0 W1 := hI.alloc _ (hI.alloc _ h0)
  have b1 : Below w.heap.size w W1 := ((Below.refl _ w).alloc (Nat.le_refl _) _).alloc (by simp) _
  refine ⟨w.heap.size + 1, [{ target := .collected w.heap.size, args := #[] }], W1, { target := .fn (.func gf) lb, args := #[.func (.yield (w.heap.size + 1)) #[] #[]] }, W1, gf,
    #[.func (.yield (w.heap.size + 1)) #[] #[]] ++ lb, W1, ?_, ?_, fun _ _ => trivial, ?_, fun _ => by omega, ?_⟩
  · have := run_enterLoop_outer (P := P) (w := w) fn a.tmps ps assign body
    simp only [W1, hrc]
    exact this
  · simp only [resolve, hg]
    simp [go_sem]
  · simp [invoke, go_sem, eg]
  have step : ∀ {k : Nat} {W W' : World} {row : Option Nat}, (I k W ∧ W.heap[w.heap.size + 1]? = some (.loop (rc .ready)) ∧ W.heap[w.heap.size]? = some (.deferred (some []))) → W.grownBy W' row → (∀ r, row = some r → W1.heap.size ≤ r ∧ ∃ o : Obj, W.heap[r]? = some o ∧ o.isCells = false) →
      (I k W' ∧ W'.heap[w.heap.size + 1]? = some (.loop (rc .ready)) ∧ W'.heap[w.heap.size]? = some (.deferred (some []))) := by
    rintro k W W' row ⟨hi, hl, hd⟩ hgr hr
    have hne : ∀ j, j < W1.heap.size → some j ≠ row := fun j hj e => by have := (hr j e.symm).1; omega
    exact ⟨hI k W W' row hi hgr fun r e => ⟨by have := (hr r e).1; omega, (hr r e).2⟩,
      (hgr.block _ (Array.getElem?_eq_some_iff.1 hl).1 (hne _ (by omega))).trans hl, (hgr.block _ (Array.getElem?_eq_some_iff.1 hd).1 (hne _ (by omega))).trans hd⟩
  refine (hseq (w.heap.size + 1) (fun k W => I k W ∧ W.heap[w.heap.size + 1]? = some (.loop (rc .ready)) ∧ W.heap[w.heap.size]? = some (.deferred (some []))) W1 b1 (fun k W W' row hs hgr hr => step hs hgr hr) ?_ ⟨i1, l1, d1⟩).mono ?_
  · rintro k x W hx ⟨hi, hl, hd⟩
    have hy := run_yield (P := P) (args := encs x) hl (by simp only [hrc, rec_]; exact hps x)
    refine ⟨_, _, _, _, hy, ?_⟩
    have hf1 : (rc .ready).fn = fn := by rw [hrc]
    have hf2 : (rc .ready).params = ps := by rw [hrc]
    have hf3 : (rc .ready).tmps = a.tmps := by rw [hrc]
    have hf4 : (rc .ready).assign = assign := by rw [hrc]
    have hf5 : (rc .ready).body = body := by rw [hrc]
    rw [hf1, hf2, hf3, hf4, hf5]
    clear hy
    refine roundIn_of_wpIn hfn (hassign _ k x W _ hx hi fun a' Wa hka hta hax => ?_)
    have la := hka.same _ _ (by omega) hl rfl
    have da := hka.same _ _ (Nat.le_refl _) hd rfl
    have hlt : w.heap.size + 1 < Wa.heap.size := (Array.getElem?_eq_some_iff.1 la).1
    refine ⟨_, run_beginRound la (by simp only [hrc, rec_]), ?_⟩
    have hrb : { rc .ready with state := .busy } = rc .busy := by simp only [hrc, rec_]
    rw [hrb]
    have lb := World.putObj_heap_same (o := .loop (rc .busy)) hlt
    have db := (World.putObj_heap_other (w := Wa) (o := .loop (rc .busy)) (r := w.heap.size + 1) (k := w.heap.size) (by omega)).trans da
    have tb : KeepT ts Wa (Wa.putObj (w.heap.size + 1) (.loop (rc .busy))) := .other (grownBy_putObj' _ _ _) fun r e => by cases e; exact ⟨_, la, rfl⟩
    have kb : KeepsFrom W1.heap.size Wa (Wa.putObj (w.heap.size + 1) (.loop (rc .busy))) := KeepsFrom.of_grownBy (grownBy_putObj' _ _ _) fun j e => by cases e; omega
    refine wpIn_mono (hbody _ k x a' _ hx ((hAx k x a').putObj (s := ()) _ hax (by omega) la rfl)) ?_
    rintro e a3 W3 hp
    cases e with
    | normal =>
      obtain ⟨hk3, ht3, hi3⟩ := hp
      have l3 := hk3.same _ _ (by omega) lb rfl
      have d3 := hk3.same _ _ (Nat.le_refl _) db rfl
      have hlt3 : w.heap.size + 1 < W3.heap.size := (Array.getElem?_eq_some_iff.1 l3).1
      have hre : { rc .busy with state := .ready, pending := none } = rc .ready := by simp only [hrc, rec_]
      have he := run_endRound (P := P) none l3
      simp only [Option.isNone_none, if_true, hre] at he
      refine ⟨_, _, he, rfl, ⟨hI.putObj _ hi3 (by omega) l3 rfl, World.putObj_heap_same hlt3, (World.putObj_heap_other (by omega)).trans d3⟩, ?_, ?_⟩
      · exact ((hta.trans tb).trans ht3).trans (.other (grownBy_putObj' _ _ _) fun r e => by cases e; exact ⟨_, l3, rfl⟩)
      · exact (((keepsUp hka (by omega)).trans kb).trans (keepsUp hk3 (by omega))).trans (KeepsFrom.of_grownBy (grownBy_putObj' _ _ _) fun j e => by cases e; omega)
    | ret => exact hp.elim
    | exit id => exact hp.elim
    | goto t => exact hp.elim
    | panic ch => exact hp.elim
    | outgrown => exact hp.elim
  · rintro e W2 ⟨⟨v, rfl⟩, hi, hl, hd⟩
    have he := run_endLoop (P := P) hl (by simp [hrc, rec_])
    have hpe : (rc .ready).pending = none := by rw [hrc]
    rw [hpe] at he
    exact ⟨none, _, he, hdone _ _ (Nat.le_refl _) (hI.putObj _ hi (by omega) hl rfl) ((World.putObj_heap_other (by omega)).trans hd)⟩
theorem round_in {m m' l0 : Nat} {P : Program} {l : Nat} {f : FuncId} {tmps : Array Value} {assign body : Code} {w : World} {R : Ending → World → Prop} (h : RoundIn Fence.wide m P l f tmps assign body w R) : RoundIn (Fence.wide.inRound l0) m' P l f tmps assign body w R :=
  ⟨h.1, fun c cs _ => h.2 c cs (room_wide _)⟩
/-- where the assignment lays no block -/
theorem range_all1 {n : Nat} {α : Type} {P : Program} {g : Operand} {ps : Array Tmp} {assign body : Code} {Q : Exit → Act → World → Prop} {a : Act} {w : World}
    {gf : Nat} {lb : Array Value} (hg : a.eval g = .func (.func gf) #[] lb) (eg : ∀ args w, (callFunc gf args).run P w = .ok (.enter gf args) w)
    {encs : α → Array Value} {ts : TypeId → Bool} {xs : List α} (hseq : SeqAll P gf lb encs ts xs w) (hps : ∀ x, (encs x).size = ps.size)
    (I : Nat → World → Prop) (hI : OwnFrom w.heap.size I) (h0 : I 0 w) (A1 : α → Act)
    (hassign : ∀ (l : Nat) (x : α) (W : World) (K : Act → World → Prop), K (A1 x) W →
      assign.wpIn (Fence.wide.inRound l) 8 P (Exit.then K (fun _ _ _ => False)) { tmps := (ps.zip (encs x)).foldl (fun t (p, v) => t.setIfInBounds p v) a.tmps, defers := [] } W)
    (hbody : ∀ (l k : Nat) (x : α) (W : World), xs[k]? = some x → I k W →
      body.wpIn (Fence.wide.inRound l) 8 P (Exit.then (fun _ W' => KeepsFrom w.heap.size W W' ∧ KeepT ts W W' ∧ I (k + 1) W') (fun _ _ _ => False)) (A1 x) W)
    (hdone : ∀ (D : Nat) (W : World), w.heap.size ≤ D → I xs.length W → W.heap[D]? = some (.deferred (some [])) → Q .normal { a with defers := { target := .collected D, args := #[] } :: a.defers } W) :
    (Code.rangeFunc g ps assign body).wpIn Fence.wide n P Q a w :=
  range_all hg eg hseq hps I hI h0 (fun k x a' W => I k W ∧ a' = A1 x) (fun k _ _ _ A B row h hg hr => ⟨hI k A B row h.1 hg hr, h.2⟩)
    (fun l _ x W K _ hi hK => hassign l x W K (hK _ _ (KeepsFrom.refl _ _) (KeepT.refl _ _) ⟨hi, rfl⟩)) (fun l k x _ W hx h => by obtain ⟨h, rfl⟩ := h; exact hbody l k x W hx h) hdone
end Go.Proofs.Ytpgcaehbbdnhiaa

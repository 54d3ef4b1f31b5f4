/- The program's calls. -/
import Derived.Test.YtpgcaehbbdnhiaaE3
import Derived.Test.YtpgcaehbbdnhiaaR3
import Derived.Sort.CutIn
import Derived.Lib.SliceRun
namespace Go.Proofs.Ytpgcaehbbdnhiaa
open Go.RowKit Go.Shelf
attribute [local go_sem] Oper.semAt_some
/-- a range over a function where the assignment lays one block of cells -/
theorem range_all2 {n : Nat} {α : Type} {P : Program} {g : Operand} {ps : Array Tmp} {assign body : Code} {Q : Exit → Act → World → Prop} {a : Act} {w : World}
    {gf : Nat} {lb : Array Value} (hg : a.eval g = .func (.func gf) #[] lb) (eg : ∀ args w, (callFunc gf args).run P w = .ok (.enter gf args) w)
    {encs : α → Array Value} {ts : TypeId → Bool} {xs : List α} (hseq : SeqAll P gf lb encs ts xs w) (hps : ∀ x, (encs x).size = ps.size)
    (I : Nat → World → Prop) (hI : OwnFrom w.heap.size I) (h0 : I 0 w) (t : TypeId) (cs : α → List Value) (A2 : α → Nat → Act)
    (hassign : ∀ (l : Nat) (x : α) (W : World) (N : Nat) (K : Act → World → Prop), N = W.heap.size → (∀ W', W.grownBy W' none → BoxAt W' t N (cs x) → K (A2 x N) W') →
      assign.wpIn (Fence.wide.inRound l) 8 P (Exit.then K (fun _ _ _ => False)) { tmps := (ps.zip (encs x)).foldl (fun t (p, v) => t.setIfInBounds p v) a.tmps, defers := [] } W)
    (hbody : ∀ (l k : Nat) (x : α) (N : Nat) (W : World), xs[k]? = some x → I k W → BoxAt W t N (cs x) → w.heap.size ≤ N →
      body.wpIn (Fence.wide.inRound l) 8 P (Exit.then (fun _ W' => KeepsFrom w.heap.size W W' ∧ KeepT ts W W' ∧ I (k + 1) W') (fun _ _ _ => False)) (A2 x N) W)
    (hlo : ∀ k W, I k W → w.heap.size ≤ W.heap.size)
    (hdone : ∀ (D : Nat) (W : World), w.heap.size ≤ D → I xs.length W → W.heap[D]? = some (.deferred (some [])) → Q .normal { a with defers := { target := .collected D, args := #[] } :: a.defers } W) :
    (Code.rangeFunc g ps assign body).wpIn Fence.wide n P Q a w :=
  range_all hg eg hseq hps I hI h0 (fun k x a' W => ∃ N, I k W ∧ BoxAt W t N (cs x) ∧ w.heap.size ≤ N ∧ a' = A2 x N)
    (fun k x a' _ A B row h hg hr => by
      obtain ⟨N, h1, h2, h3, h4⟩ := h
      refine ⟨N, hI k A B row h1 hg hr, h2.kept hg fun e => ?_, h3, h4⟩
      obtain ⟨o, ho, hc⟩ := (hr N e).2
      obtain ⟨c, hc2, _⟩ := h2
      rw [hc2] at ho
      cases ho
      cases hc)
    (fun l k x W K _ hi hK => hassign l x W _ K rfl fun W' hg hb => hK _ W' (KeepsFrom.of_grownBy hg fun j e => by cases e) (.grown hg fun g e => by cases e)
      ⟨W.heap.size, hI k W W' none hi hg (fun r e => by cases e), hb, hlo k W hi, rfl⟩)
    (fun l k x a' W hx h => by obtain ⟨N, h1, h2, h3, rfl⟩ := h; exact hbody l k x N W hx h1 h2 h3) hdone
theorem KeepT.appended {W w1 : World} {n₀ B : Nat} {t e : TypeId} {size : Nat} {v v' : Value} {k : Nat} {xs : List Value} {tmp : Obj} {ts : TypeId → Bool} (htt : ts t = false) (hte : ts e = false)
    (hrow : W.ownsRow n₀ e size v k xs) (hv1 : Boxed w1 B t v) (hgrow : (W.alloc tmp).grownBy w1 v.ownBlock) : KeepT ts W (w1.setCell ⟨B, 0, none⟩ v') := by
  refine (KeepT.grown (World.grownBy_alloc W tmp none) (fun _ e => by cases e)).trans ((KeepT.grown hgrow fun g eg c u r hc => ?_).trans (KeepT.grown (grownBy_setCell' w1 B v') fun g eg c u r hc => ?_))
  · rcases (World.ownsRow.alloc hrow tmp).2 with ⟨rfl, _⟩ | ⟨g', cap, cur, rfl, _, hgb, _⟩
    · cases eg
    · obtain rfl : g' = g := by simpa [Value.ownBlock] using eg
      rw [hgb] at hc
      cases hc
      exact hte
  · obtain rfl : B = g := by cases eg; rfl
    have h := (show w1.heap[B]? = _ from hv1).symm.trans hc
    cases h
    exact htt
/-- what is collected so far -/
structure ColSt (W : World) (n0 Bo : Nat) (cs : List GCall) (w1 : World) (lo : Nat) : Prop where
  out : ∃ v, Boxed W Bo 34 v ∧ OwnCalls W n0 v cs
  bel : Below n0 w1 W
  lo : lo ≤ W.heap.size
theorem colSt_own (n0 Bo : Nat) (f : Nat → List GCall) (w1 : World) (lo : Nat) (h1 : n0 ≤ w1.heap.size) (h2 : n0 ≤ lo) : OwnFrom lo (fun k W => ColSt W n0 Bo (f k) w1 lo) := by
  intro k W W' row hs hg hr
  obtain ⟨v, hb, ho⟩ := hs.out
  obtain ⟨v', hb', ho', -⟩ := holdsRow_own n0 Bo 34 39 3 (fun _ : Unit => (f k).length) (fun _ => callCells (f k)) (fun _ _ => True) () W W' row ⟨v, hb, ho, trivial⟩ hg (fun r e => (hr r e).2)
  exact ⟨⟨v', hb', ho'⟩, hs.bel.grown hg (Nat.le_trans h1 hs.bel.size) (fun g e => Nat.le_trans h2 (hr g e).1), Nat.le_trans hs.lo hg.size⟩
/-- within a visit: what is collected so far -/
structure InSt (W wr : World) (lo n0 N : Nat) (w1 : World) (cx : List Value) (cs : List GCall) : Prop where
  kf : KeepsFrom lo W wr
  kt : KeepT tsP W wr
  bel : Below n0 w1 wr
  box : BoxAt wr 81 N cx
  out : ∃ v, Boxed wr n0 34 v ∧ OwnCalls wr n0 v cs
theorem InSt.alloc {W wr : World} {lo n0 N : Nat} {w1 : World} {cx : List Value} {cs : List GCall} (h : InSt W wr lo n0 N w1 cx cs) (hn : n0 ≤ w1.heap.size) (o : Obj) : InSt W (wr.alloc o) lo n0 N w1 cx cs where
  kf := h.kf.trans ((KeepsOthers.alloc wr o).from lo)
  kt := h.kt.trans (.grown (World.grownBy_alloc wr o none) (fun _ e => by cases e))
  bel := h.bel.alloc (Nat.le_trans hn h.bel.size) o
  box := h.box.kept (World.grownBy_alloc wr o none) (by simp)
  out := by
    obtain ⟨v, h1, h2⟩ := h.out
    exact ⟨v, h1.alloc o, World.ownsRow.alloc h2 o⟩
theorem InSt.append {W wr w9 : World} {lo n0 N : Nat} {w1 : World} {cx : List Value} {cs : List GCall} (h : InSt W wr lo n0 N w1 cx cs) {v v' : Value} {tmp : Obj} (hv : Boxed wr n0 34 v) (ho : OwnCalls wr n0 v cs) (hgrow : (wr.alloc tmp).grownBy w9 v.ownBlock)
    (hv1 : Boxed w9 n0 34 v) (hv2 : Boxed (w9.setCell ⟨n0, 0, none⟩ v') n0 34 v') (hk2 : KeepsOthers wr (w9.setCell ⟨n0, 0, none⟩ v')) (hb2 : Below n0 wr (w9.setCell ⟨n0, 0, none⟩ v')) {c : GCall}
    (hr2 : (w9.setCell ⟨n0, 0, none⟩ v').ownsRow n0 39 3 v' (cs.length + 1) (callCells cs ++ [.int .i64 c.1, .int .i64 c.2.1, .int .i64 c.2.2])) : InSt W (w9.setCell ⟨n0, 0, none⟩ v') lo n0 N w1 cx (cs ++ [c]) where
  kf := h.kf.trans (hk2.from lo)
  kt := h.kt.trans (.appended (by rfl) (by rfl) ho hv1 hgrow)
  bel := h.bel.trans hb2
  box := by
    have hN0 : some n0 ≠ some N := fun e => by
      obtain rfl : n0 = N := by cases e; rfl
      obtain ⟨c, hc, _⟩ := h.box
      have := (show wr.heap[n0]? = _ from hv).symm.trans hc
      cases this
    refine ((h.box.kept (World.grownBy_alloc wr tmp none) (by simp)).kept hgrow ?_).kept (grownBy_setCell' w9 n0 v') hN0
    rcases (World.ownsRow.alloc ho tmp).2 with ⟨rfl, _⟩ | ⟨g', cap, cur, rfl, _, hgb, _⟩
    · simp [Value.ownBlock]
    · intro e
      obtain rfl : g' = N := by simpa [Value.ownBlock] using e
      obtain ⟨c, hc, _⟩ := h.box.kept (World.grownBy_alloc wr tmp none) (by simp)
      have := hgb.symm.trans hc
      cases this
  out := ⟨v', hv2, by
    unfold OwnCalls
    rw [List.length_append, ← callCells_append]
    exact hr2⟩
set_option maxRecDepth 100000 in
set_option maxHeartbeats 1000000 in
theorem CallsOk_c (A : Option Addr) (c : Nat) (l : List GNode) (hr : RightP l) (t : Int) (ht : Is l t) (Al : Option Addr) (ca : Nat) (all : List Lis) (hal : all.length ≤ 1000) (kind : ByteArray) (bub : Bool) (w : World) (B : Nat) (hB : B ≤ w.heap.size) (hs : ∀ n ∈ l, NodeSmall reachBytes n) (h : NodesAt w B A l) (hl : LisAt w B Al all) :
    Calls Try.prog 25 #[.slice A l.length c, .slice Al all.length ca, .int .i64 t, .string kind, .bool bub] w fun e w' => ∃ v L, e = .returned v ∧ PathP l t L ∧ OwnCalls w' w.heap.size v (callsL all kind (visL L bub)) ∧ Below w.heap.size w w' := by
  obtain ⟨⟨_, h400, _⟩, _⟩ := id hr
  have HT := Lib.hid ht
  have HPS := Lib.hid (fun L (hp : PathP l t L) => path_size hr ht hp)
  have HPL := Lib.hid (fun L (hp : PathP l t L) => path_last ht hp)
  have HCP := Lib.hid (fun w1 (hb : Below w.heap.size w w1) => PathOk_c A c l hr t ht w1 B (by have := hb.size; omega) hs (h.below (hb.mono hB)))
  obtain ⟨ii, ii0, iiz, ii1, ii2⟩ := info_parts info_call
  clear ht h
  have qT : ∀ (w : World) (a : Option Addr) (n c n' c' : Nat), (binOp .eql 26 (.slice a n c) (.slice none n' c')).run Try.prog w = .ok (.bool a.isNone) w := fun w a n c n' c' => Lib.run_eql_slice_nil w _ _ a n c n' c' Try.underlying26
  refine (callsIn_wide (n := 10)).1 ?_
  refine callsIn_of_wp_marks Try.func25 rfl trivial ?_ rfl
  simp only [Try.ntmps25, List.size_toArray, List.length_cons, List.length_nil, Nat.reduceAdd, Nat.reduceSub, Array.replicate_succ, Array.replicate_zero, List.push_toArray, List.append_toArray, List.nil_append, List.cons_append]
  have hz1 : Below w.heap.size w ((w.alloc (.cells #[.slice Al all.length ca] 30)).alloc (.cells #[.string kind] 9)) := ((Below.refl _ w).alloc (Nat.le_refl _) _).alloc (by simp) _
  gi_wp2_with (first | (refine ⟨trivial, ?_⟩; gi_at_call 21; refine (callsIn_wide.2 (HCP.out _ hz1)).mono ?_; rintro e w1 ⟨TL, cL, L, rfl, hp, hoL, hb1⟩; obtain ⟨m, hm, -⟩ := HPL.out L hp; obtain ⟨bL, oL, rfl, hbL, -⟩ := (show IntsAt w1 w1.heap.size TL L from ints_of_owns hoL).at_ (i := 0) (by omega)) | (refine ⟨trivial, ?_⟩; gi_at_call 56; refine (callsIn_wide.2 (visits_c (some ⟨bL, oL, none⟩) (m + 1) cL bub (w1.alloc (.cells #[.slice none 0 0] 34)))).mono ?_; rintro e w2 ⟨rfl, rfl⟩))
  have hsz := HPS.out L hp
  have bA : Boxed w1 w.heap.size 30 (.slice Al all.length ca) := ((Boxed.new w 30 (.slice Al all.length ca)).alloc _).kept (grown_of_below hb1) (by simp)
  have bK : Boxed w1 (w.heap.size + 1) 9 (.string kind) := (show Boxed _ (w.heap.size + 1) 9 (.string kind) by have := Boxed.new (w.alloc (.cells #[.slice Al all.length ca] 30)) 9 (.string kind); rwa [World.size_alloc] at this).kept (grown_of_below hb1) (by simp)
  have hl1 : LisAt w1 B Al all := (hl.below (hz1.mono hB)).below (hb1.mono (by simp; omega))
  have hwz : Below w.heap.size w w1 := hz1.trans (hb1.mono (by simp; omega))
  have hsw : w.heap.size + 2 ≤ w1.heap.size := by have := hb1.size; simp at this; omega
  clear hb1 hz1 hl
  have bP : Boxed ((w1.alloc (.cells #[.slice none 0 0] 34)).alloc (.cells #[.slice (some ⟨bL, oL, none⟩) (m + 1) cL] 26)) (w1.heap.size + 1) 26 (.slice (some ⟨bL, oL, none⟩) L.length cL) := by
    have := Boxed.new (w1.alloc (.cells #[.slice none 0 0] 34)) 26 (.slice (some ⟨bL, oL, none⟩) (m + 1) cL)
    rw [World.size_alloc] at this
    rw [hm]
    exact this
  have bB := Boxed.new ((w1.alloc (.cells #[.slice none 0 0] 34)).alloc (.cells #[.slice (some ⟨bL, oL, none⟩) (m + 1) cL] 26)) 4 (.bool bub)
  rw [World.size_alloc, World.size_alloc] at bB
  replace bP := bP.alloc (.cells #[.bool bub] 4)
  have bO := (((Boxed.new w1 34 (.slice none 0 0)).alloc (.cells #[.slice (some ⟨bL, oL, none⟩) (m + 1) cL] 26)).alloc (.cells #[.bool bub] 4))
  have hrow := World.ownsRow.alloc (World.ownsRow.alloc (World.ownsRow.alloc hoL (.cells #[.slice none 0 0] 34)) (.cells #[.slice (some ⟨bL, oL, none⟩) (m + 1) cL] 26)) (.cells #[.bool bub] 4)
  have hb2 : Below w1.heap.size w1 (((w1.alloc (.cells #[.slice none 0 0] 34)).alloc (.cells #[.slice (some ⟨bL, oL, none⟩) (m + 1) cL] 26)).alloc (.cells #[.bool bub] 4)) := (((Below.refl _ w1).alloc (Nat.le_refl _) _).alloc (by simp) _).alloc (by simp; omega) _
  have hsz2 : (((w1.alloc (.cells #[.slice none 0 0] 34)).alloc (.cells #[.slice (some ⟨bL, oL, none⟩) (m + 1) cL] 26)).alloc (.cells #[.bool bub] 4)).heap.size = w1.heap.size + 3 := by simp
  have hseq := vis_all L (by omega) (by omega) _ cL _ _ _ bub _ bP bB hrow
  have HBD := Lib.hid (fun k => callsL_bd (L := L) (by omega) hal kind bub k)
  have HS := Lib.hid (fun k v (h : (visL L bub)[k]? = some v) => callsL_succ (all := all) (kind := kind) h)
  have HP := Lib.hid hp
  generalize ((w1.alloc (.cells #[.slice none 0 0] 34)).alloc (.cells #[.slice (some ⟨bL, oL, none⟩) (m + 1) cL] 26)).alloc (.cells #[.bool bub] 4) = w2 at bP bB bO hrow hb2 hsz2 hseq ⊢
  clear bP bB hrow hp hm hsz hoL hbL
  refine range_all2 (gf := 78) (lb := #[.pointer (some ⟨w1.heap.size + 1, 0, none⟩), .pointer (some ⟨w1.heap.size + 1 + 1, 0, none⟩)]) rfl (enters_of Try.func78 (by kernel_rfl) rfl) hseq (fun _ => rfl)
    (fun k W => ColSt W w1.heap.size w1.heap.size (callsL all kind ((visL L bub).take k)) w1 w2.heap.size) (colSt_own _ _ _ _ _ (Nat.le_refl _) (by omega)) ⟨⟨_, bO, World.ownsRow_nil _ _ _ _⟩, hb2, Nat.le_refl _⟩ 81 (fun v => [.int .i64 v.1, .int .i64 v.2.1, .bool v.2.2]) ?A2 ?assign ?body (fun k W h => h.lo) ?done
  case assign =>
    intro l2 x W N K hN hK
    dsimp only [encV]
    gi_wp2
    rw [← hN]
    exact hK _ (World.grownBy_alloc W _ none) (by rw [hN]; exact BoxAt.made W _ _)
  case body =>
    rintro l2 k x N W hx ⟨hout, hbw, hlo⟩ hNb hNlo
    have HX := Lib.hid (HS.out k x hx)
    have hbd := HBD.out k
    generalize callsL all kind ((visL L bub).take k) = cs at hout HX hbd
    clear hx HS HBD bO hseq HP
    obtain ⟨x1, x2, x3⟩ := x
    dsimp only at hNb ⊢
    have cA := (bA.kept (grown_of_below hbw) (by simp)).cell
    have hst : InSt W W w2.heap.size w1.heap.size N w1 [.int .i64 x1, .int .i64 x2, .bool x3] (cs ++ hits all kind (x1, x2, x3) 0) := ⟨KeepsFrom.refl _ _, KeepT.refl _ _, hbw, hNb, by simpa [hits] using hout⟩
    clear hout hNb
    gi_wp2
    clear cA
    gi_loopw [14, 15, 27] (fun _ _ iv wr => ∃ i : Nat, i ≤ all.length ∧ iv = .int .i64 i ∧ InSt W wr w2.heap.size w1.heap.size N w1 [.int .i64 x1, .int .i64 x2, .bool x3] (cs ++ hits all kind (x1, x2, x3) i)) (fun _ _ iv _ => all.length - (intOf iv).toNat)
    case atStart => exact ⟨0, by omega, rfl, hst⟩
    case round =>
      obtain ⟨i, hi, rfl, hs⟩ := hrel
      clear hst
      have hzr := hs.bel.size
      have hbA := bA.kept (grown_of_below hs.bel) (by simp)
      have hbK := bK.kept (grown_of_below hs.bel) (by simp)
      by_cases hlt : i < all.length
      · obtain ⟨b, o, rfl, hbB, hc0, hc1, hc2, hc3⟩ := (hl1.below (hs.bel.mono (by omega))).at_ hlt
        have HY := Lib.hid (hits_yes (kind := kind) (v := (x1, x2, x3)) hlt)
        have HN := Lib.hid (hits_no (kind := kind) (v := (x1, x2, x3)) hlt)
        have hL := hits_len all kind (x1, x2, x3) i
        generalize hits all kind (x1, x2, x3) i = H at hs HY HN hL
        generalize all[i] = y at hc0 hc1 hc2 hc3 HY HN
        obtain ⟨xn, xt, xc, xa⟩ := y
        obtain ⟨xa1, xa2, xa3⟩ := xa
        dsimp only at hc0 hc1 hc2 hc3
        have k0 : (0 : Int) ≤ (i : Int) := by omega
        have k1 : (i : Int) < (all.length : Int) := by omega
        have cN0 := hs.box.cell (j := 0) rfl
        have cN1 := hs.box.cell (j := 1) rfl
        have cN2 := hs.box.cell (j := 2) rfl
        have hNlt := hs.box.lt
        have cK := hbK.cell
        have hKlt := hbK.lt
        have hstA := hs.alloc (Nat.le_refl _) (.cells #[.int .i64 xn, .string xt, .bool xc, .slice xa1 xa2 xa3] 42)
        obtain ⟨v, hv, ho⟩ := hs.out
        have hvc := hv.cell
        have hvl := hv.lt
        have HNW := Lib.hid (fun (o1 o2 : Obj) => show ((wr.alloc o1).alloc o2).heap[wr.heap.size + 1]? = some o2 by have := heap_alloc_new (wr.alloc o1) o2; rwa [World.size_alloc] at this)
        cases h1 : (xn == x1) with
        | false =>
          have HR := Lib.hid (HN.out (by unfold fitB; simp only [h1, Bool.false_and]))
          clear HY HN
          gi_wp2
          go_roundw
          case rel => exact ⟨i + 1, by omega, by go_num, by rw [HR.out]; exact hstA⟩
          case measure => simp [intOf]; omega
        | true =>
          cases h2 : (xt.toList == kind.toList) with
          | false =>
            have HR := Lib.hid (HN.out (by unfold fitB; simp only [h1, h2, Bool.false_and, Bool.true_and]))
            clear HY HN
            gi_wp2
            go_roundw
            case rel => exact ⟨i + 1, by omega, by go_num, by rw [HR.out]; exact hstA⟩
            case measure => simp [intOf]; omega
          | true =>
            cases h3 : (xc == x3) with
            | false =>
              have HR := Lib.hid (HN.out (by unfold fitB; simp only [h1, h2, h3, Bool.true_and]))
              clear HY HN
              gi_wp2
              go_roundw
              case rel => exact ⟨i + 1, by omega, by go_num, by rw [HR.out]; exact hstA⟩
              case measure => simp [intOf]; omega
            | true =>
              have HR := Lib.hid (HY.out (by unfold fitB; simp only [h1, h2, h3, Bool.true_and]))
              clear HY HN
              gi_wp2_with (gi_at_builtin; refine wpListIn_append_own _ rfl _ _ 34 rfl w1.heap.size 39 ii _ 3 24 Try.underlying34 ii0 iiz ii1 ii2 rfl (by decide) _ _ _ rfl (World.ownsRow.alloc (World.ownsRow.alloc ho _) _) ⟨_, 0, none⟩ 1 1 [.int .i64 i, .int .i64 x1, .int .i64 x2] rfl rfl (World.news_of_block (HNW.out _ _)) (by simp [Value.oneCell']) (by simp only [maxLen, List.length_append]; omega) (by simp only [List.length_append]; omega) (by simp; omega) ?_; intro v' w9 hown' hgrow _; obtain ⟨g', cap', rfl⟩ := ownsRow_succ hown'; obtain ⟨hv1, hv2, hr2, hk2, hb2⟩ := (hv.alloc _).appended (by decide) (World.ownsRow.alloc ho _) (by simp; omega) (Nat.le_refl _) hown' hgrow; have hc1 := hv1.cell; have hf1 := hv1.frozen; have hst9 := hstA.append (c := ((i : Int), x1, x2)) (hv.alloc _) (World.ownsRow.alloc ho _) hgrow hv1 hv2 hk2 hb2 hr2)
              go_roundw
              case rel => exact ⟨i + 1, by omega, by go_num, by rw [HR.out, ← List.append_assoc]; rw [List.length_append] at hst9; exact hst9⟩
              case measure => simp [intOf]; omega
      · obtain rfl : i = all.length := by omega
        gi_wp2
        exact ⟨hs.kf, hs.kt, by rw [HX.out]; exact hs.out, hs.bel, Nat.le_trans hlo hs.kf.size⟩
  case done =>
    rintro D W hD ⟨⟨v, hv, ho⟩, hbw, hlo⟩ hK
    rw [List.take_length] at ho
    have hc := hv.cell
    gi_wp2
    refine ⟨by simp, .inl ⟨_, _, rfl, run_takeDeferred hK, ?_⟩⟩
    exact ⟨_, results_tmp rfl _ _ _, v, L, rfl, HP.out, owns_baseMono (ownsRow_putObj ho _ hK rfl) (by omega), (hwz.trans (hbw.mono (by omega))).trans (belowK_b (w := w) (Nat.le_refl _) W D _ _ (by omega) hK rfl rfl)⟩
theorem CallsNo_c (A : Option Addr) (c : Nat) (l : List GNode) (t : Int) (hn : hasB l t = false) (Al : Option Addr) (ca : Nat) (n : Nat) (kind : ByteArray) (bub : Bool) (w : World) (B : Nat) (hB : B ≤ w.heap.size) (hll : l.length ≤ 4611686018427387904) (hs : ∀ n ∈ l, NodeSmall reachBytes n) (h : NodesAt w B A l) :
    Calls Try.prog 25 #[.slice A l.length c, .slice Al n ca, .int .i64 t, .string kind, .bool bub] w fun e w' => e = .returned (.slice none 0 0) ∧ Below w.heap.size w w' := by
  have HCP := Lib.hid (fun w1 (hb : Below w.heap.size w w1) => PathNo_c A c l t hn w1 B (by have := hb.size; omega) hll hs (h.below (hb.mono hB)))
  clear hn h hs
  have qT : ∀ (w : World) (a : Option Addr) (n c n' c' : Nat), (binOp .eql 26 (.slice a n c) (.slice none n' c')).run Try.prog w = .ok (.bool a.isNone) w := fun w a n c n' c' => Lib.run_eql_slice_nil w _ _ a n c n' c' Try.underlying26
  refine (callsIn_wide (n := 10)).1 ?_
  refine callsIn_of_wp_marks Try.func25 rfl trivial ?_ rfl
  simp only [Try.ntmps25, List.size_toArray, List.length_cons, List.length_nil, Nat.reduceAdd, Nat.reduceSub, Array.replicate_succ, Array.replicate_zero, List.push_toArray, List.append_toArray, List.nil_append, List.cons_append]
  have hz1 : Below w.heap.size w ((w.alloc (.cells #[.slice Al n ca] 30)).alloc (.cells #[.string kind] 9)) := ((Below.refl _ w).alloc (Nat.le_refl _) _).alloc (by simp) _
  gi_wp2_with (refine ⟨trivial, ?_⟩; gi_at_call 21; refine (callsIn_wide.2 (HCP.out _ hz1)).mono ?_; rintro e w1 ⟨rfl, hb1⟩)
  exact ⟨_, results_tmp rfl _ _ _, rfl, hz1.trans (hb1.mono (by simp; omega))⟩
end Go.Proofs.Ytpgcaehbbdnhiaa

/- The law EventCalls, walked. -/
import Derived.Test.YtpgcaehbbdnhiaaE7
import Derived.Deep.RegionHeld3
namespace Go.Proofs.Ytpgcaehbbdnhiaa
open Go.RowKit
theorem AttrsAt.keep2 {w w' : World} {B : Nat} {A : Option Addr} {l : List GAttr} (h : AttrsAt w B A l) (hk : ∀ (p : Addr) v, w.cell? p = some v → w'.cell? p = some v) : AttrsAt w' B A l := by
  intro hl
  obtain ⟨b, o, e, hb, hc⟩ := h hl
  exact ⟨b, o, e, hb, fun i a hi => ⟨hk _ _ (hc i a hi).1, hk _ _ (hc i a hi).2⟩⟩
theorem IntsAt.keep2 {w w' : World} {B : Nat} {A : Option Addr} {l : List Int} (h : IntsAt w B A l) (hk : ∀ (p : Addr) v, w.cell? p = some v → w'.cell? p = some v) : IntsAt w' B A l := by
  intro hl
  obtain ⟨b, o, e, hb, hc⟩ := h hl
  exact ⟨b, o, e, hb, fun i a hi => hk _ _ (hc i a hi)⟩
theorem NodesAt.keep2 {w w' : World} {B : Nat} {A : Option Addr} {l : List GNode} (h : NodesAt w B A l) (hk : ∀ (p : Addr) v, w.cell? p = some v → w'.cell? p = some v) : NodesAt w' B A l := by
  intro hl
  obtain ⟨b, o, e, hb, hc⟩ := h hl
  refine ⟨b, o, e, hb, fun i a hi => ?_⟩
  obtain ⟨T, ac, K, kc, h0, h1, h2, h3, h4, hT, hK, ha, hc⟩ := hc i a hi
  exact ⟨T, ac, K, kc, hk _ _ h0, hk _ _ h1, hk _ _ h2, hk _ _ h3, hk _ _ h4, hT.keep2 hk, hK.keep2 hk, ha, hc⟩
/-- growth at a block that has no cells turns no cell -/
theorem grown_none {w w' : World} {g : Nat} {t : TypeId} {r : Nat × Nat} (hg : w.grownBy w' (some g)) (he : w.heap[g]? = some (.cells #[] t r)) (p : Addr) (v : Value) (h : w.cell? p = some v) : w'.cell? p = some v := by
  by_cases hp : p.block = g
  · have : w.cell? p = none := by
      unfold World.cell?
      rw [hp, he]
      split <;> simp_all
    rw [this] at h
    cases h
  · rw [hg.cell_far p (block_lt_of_cell h) (fun e => hp (by cases e; rfl))]
    exact h
theorem lis_copied {X w9 wb : World} {base g n B c9 : Nat} {A2 T9 : Option Addr} {l : List GNode} {all : List Lis} (hk : Below base wb X) (hb : base ≤ wb.heap.size) (hgb : base ≤ g) (he : X.heap[g]? = some (.cells #[] 42 (0, 0))) (hg : X.grownBy w9 (Value.slice (some ⟨g, 0, none⟩) 0 n).ownBlock)
    (hn : NodesAt X B A2 l) (ho : w9.ownsRow base 42 4 (.slice T9 (0 + all.length) c9) (0 + all.length) ([] ++ lisCells all)) : Below base wb w9 ∧ NodesAt w9 B A2 l ∧ LisAt w9 w9.heap.size T9 all := by
  refine ⟨hk.grown hg (Nat.le_trans hb hk.size) fun j e => by cases e; exact hgb, hn.keep2 (grown_none hg he), ?_⟩
  rw [Nat.zero_add, List.nil_append] at ho
  exact lis_of_owns ho
theorem row_none {w : World} {g base : Nat} {t : TypeId} (he : w.heap[g]? = some (.cells #[] t (0, 0))) (hb : base ≤ g) : w.ownsRow base t 4 (.slice (some ⟨g, 0, none⟩) 0 0) 0 [] :=
  ⟨rfl, .inr ⟨g, 0, #[], rfl, hb, he, Nat.le_refl _, Nat.zero_le _, rfl, rfl⟩⟩
set_option maxRecDepth 100000 in
set_option maxHeartbeats 1000000 in
theorem EventCalls_w (a : Option Addr × List GNode × Nat) (b : Option Addr × List Lis × Nat) (q : Int × ByteArray × Bool) (w : World) (hd : DocIn w a.1 a.2.1) (hb : LisDoc w b.1 b.2.1) (_hq : (Lit.int .i64 q.1).wf = true ∧ q.2.1.size ≤ reachBytes) :
    Calls Try.prog 5 #[.slice a.1 a.2.1.length a.2.2, .slice b.1 b.2.1.length b.2.2, .agg #[.int .i64 q.1, .string q.2.1, .bool q.2.2]] w fun e w' => e = .returned (.bool true) ∧ Below w.heap.size w w' := by
  obtain ⟨A, l, c⟩ := a
  obtain ⟨Al, all, ca⟩ := b
  obtain ⟨t, kind, bub⟩ := q
  dsimp only at hd hb ⊢
  obtain ⟨h, -, hs, hln⟩ := hd
  obtain ⟨hl, hll2⟩ := hb
  have hll : l.length ≤ 4611686018427387904 := by unfold reachBytes at hln; omega
  by_cases hbig : 200 < all.length
  · have hbig' : (200 : Int) < (all.length : Int) := by omega
    go_enter Try.func5, Try.ntmps5
    go_wp2_with (go_at_call 19; refine (wakes23_c _).mono ?_; rintro e w1 ⟨rfl, hb1⟩)
    go_ret
    exact ⟨rfl, ((Below.refl _ w).alloc (Nat.le_refl _) _).trans (hb1.mono (by simp))⟩
  have hbig' : decide ((200 : Int) < (all.length : Int)) = false := decide_eq_false (by omega)
  cases hh : hasB l t with
  | true =>
    have ht : Is l t := (hasB_iff.1 hh).1
    have hr : RightP l := (hasB_iff.1 hh).2
    have HR := Lib.hid hr
    have HT := Lib.hid ht
    have HS := Lib.hid hs
    obtain ⟨⟨_, h400, _⟩, _⟩ := id hr
    have HSM := Lib.hid (fun L L' (hp : PathP l t L) (hp' : PathP l t L') => path_same hp hp')
    have HBD := Lib.hid (fun L (hp : PathP l t L) => (show (callsL all kind (visL L bub)).length ≤ 804000 by have := callsL_bd (L := L) (by have := path_size hr ht hp; omega) (all := all) (by omega) kind bub (visL L bub).length; rwa [List.take_length] at this))
    obtain ⟨il, il0, ilz, il1, il2⟩ := info_parts info_lis
    clear hh ht hr hs
    go_enter Try.func5, Try.ntmps5
    go_wp2_with (go_at_call 19; refine (wakes23_c _).mono ?_; rintro e w1 ⟨rfl, hb1⟩)
    rw [World.size_alloc] at hb1
    have hwb : Below w.heap.size w (w.alloc (.cells #[.int .i64 t, .string kind, .bool bub] 32)) := (Below.refl _ w).alloc (Nat.le_refl _) _
    have hbx := BoxAt.made w 32 #[.int .i64 t, .string kind, .bool bub]
    have hwz : (w.alloc (.cells #[.int .i64 t, .string kind, .bool bub] 32)).heap.size = w.heap.size + 1 := by simp
    generalize w.alloc (.cells #[.int .i64 t, .string kind, .bool bub] 32) = wb at hb1 hwb hbx hwz
    have hcur := hwb.trans (hb1.mono (Nat.le_succ _))
    have HBX := Lib.hid (fun (W : World) (hk : Below (w.heap.size + 1) wb W) => (show W.cell? ⟨w.heap.size, 0, none⟩ = some (.int .i64 t) ∧ W.cell? ⟨w.heap.size, 1, none⟩ = some (.string kind) ∧ W.cell? ⟨w.heap.size, 2, none⟩ = some (.bool bub) from ⟨(hk.cell (p := ⟨w.heap.size, 0, none⟩) (Nat.lt_succ_self _)).trans (hbx.cell (j := 0) rfl), (hk.cell (p := ⟨w.heap.size, 1, none⟩) (Nat.lt_succ_self _)).trans (hbx.cell (j := 1) rfl), (hk.cell (p := ⟨w.heap.size, 2, none⟩) (Nat.lt_succ_self _)).trans (hbx.cell (j := 2) rfl)⟩))
    obtain ⟨b0, b1, b2⟩ := HBX.out _ hb1
    have hkA := hb1.drew
    have hkB : Below (w.heap.size + 1) wb (w1.alloc (.cells #[] 42)).drew := (hb1.alloc (by have := hb1.size; omega) _).drew
    have hcA := hwb.trans (hkA.mono (Nat.le_succ _))
    have hcB := hwb.trans (hkB.mono (Nat.le_succ _))
    have hsA := hkA.size
    have hsB := hkB.size
    rw [hwz] at hsA hsB
    have HEB : ((w1.alloc (.cells #[] 42)).drew).heap[w1.heap.size]? = some (.cells #[] 42 (0, 0)) := heap_alloc_new w1 _
    have hsw1 := hb1.size
    clear hbx
    go_region_held3 (fun w' => w'.cell? ⟨w.heap.size, 0, none⟩ = some (.int .i64 t) ∧ w'.cell? ⟨w.heap.size, 1, none⟩ = some (.string kind) ∧ w'.cell? ⟨w.heap.size, 2, none⟩ = some (.bool bub)) (go_keep) (first | (go_at_call 22; refine (rCopied_c A c l _ w.heap.size (by first | exact hcA.size | exact hcB.size) HS.out hln (by first | exact h.below hcA | exact h.below hcB)).mono ?_; rintro e w2 ⟨v2, rfl, hdoc2, hb2⟩; have hk2 : Below (w.heap.size + 1) wb w2 := (by first | exact hkA.trans (hb2.mono hsA) | exact hkB.trans (hb2.mono hsB)); obtain ⟨b0, b1, b2⟩ := HBX.out _ hk2; have hc2 := hwb.trans (hk2.mono (Nat.le_succ _)); obtain ⟨A2, c2, rfl, hn2, -⟩ := hdoc2.nodes) | (have he := (hb2.block w1.heap.size (by simp)).trans HEB; have hl9 := (hl.below hc2).news; have hs2 := hb2.size; refine step_append_src _ (by rfl) _ _ _ (by rfl) (w.heap.size + 1) 42 il _ 4 56 Try.underlying30 il0 ilz il1 il2 rfl (by omega) _ 0 [] (by rfl) (row_none he (by omega)) Al all.length ca (lisCells all) (by rfl) (lisCells_length _) hl9 (lisCells_one _) (by simp only [maxLen]; omega) (by omega) (by simp at hs2; omega) ?_; intro T9 c9 w9 hown9 hg9 hat9; obtain ⟨hk9, hn9, hz9⟩ := lis_copied hk2 (by omega) (by omega) he hg9 hn2 hown9; have hs9 := hg9.size; rw [Nat.zero_add]; obtain ⟨b0, b1, b2⟩ := HBX.out _ hk9; have hc9 := hwb.trans (hk9.mono (Nat.le_succ _)); clear hn2 hk2 hc2) | (have hs2 := hk2.size; have he : (w2.alloc (.cells #[] 42)).heap[w2.heap.size]? = some (.cells #[] 42 (0, 0)) := heap_alloc_new w2 _; have hk2' : Below (w.heap.size + 1) wb (w2.alloc (.cells #[] 42)) := hk2.alloc (by omega) _; have hl9 := (hl.below (hwb.trans (hk2'.mono (Nat.le_succ _)))).news; have hn2' := hn2.below ((Below.refl w2.heap.size w2).alloc (Nat.le_refl _) (.cells #[] 42)); refine step_append_src _ (by rfl) _ _ _ (by rfl) (w.heap.size + 1) 42 il _ 4 56 Try.underlying30 il0 ilz il1 il2 rfl (by omega) _ 0 [] (by rfl) (row_none he (by omega)) Al all.length ca (lisCells all) (by rfl) (lisCells_length _) hl9 (lisCells_one _) (by simp only [maxLen]; omega) (by omega) (by simp; omega) ?_; intro T9 c9 w9 hown9 hg9 hat9; obtain ⟨hk9, hn9, hz9⟩ := lis_copied hk2' (by omega) (by omega) he hg9 hn2' hown9; have hs9 : w2.heap.size ≤ w9.heap.size := (by have := hg9.size; simp at this; omega); rw [Nat.zero_add]; obtain ⟨b0, b1, b2⟩ := HBX.out _ hk9; have hc9 := hwb.trans (hk9.mono (Nat.le_succ _)); clear hn2 hk2 hc2) | (go_at_call 25; refine (CallsOk_c A2 c2 l HR.out t HT.out T9 c9 all (by omega) kind bub w9 _ (Nat.le_refl _) HS.out (hn9.mono hs9) hz9).mono ?_; rintro e w10 ⟨v10, L, rfl, hp, ho10, hb10⟩; have hk10 := hk9.trans (hb10.mono (by have := hk9.size; omega)); obtain ⟨b0, b1, b2⟩ := HBX.out _ hk10; have hc10 := hwb.trans (hk10.mono (Nat.le_succ _)); obtain ⟨T10, c10, rfl⟩ := owns_slice ho10; have hq10 := calls_of_owns ho10; have hbd := HBD.out L hp; clear ho10 hb10) | (go_at_call 26; refine (rCallsOk_c A c l HR.out t HT.out Al ca all (by omega) kind bub w10 w.heap.size hc10.size HS.out (h.below hc10) (hl.below hc10)).mono ?_; rintro e w11 ⟨v11, L', rfl, hp', ho11, hb11⟩; obtain rfl := HSM.out L' L hp' hp; have hk11 := hk10.trans (hb11.mono (by have := hk10.size; omega)); obtain ⟨b0, b1, b2⟩ := HBX.out _ hk11; have hc11 := hwb.trans (hk11.mono (Nat.le_succ _)); obtain ⟨T11, c11, rfl⟩ := owns_slice ho11; have hq11 := calls_of_owns ho11; have hq12 := (hq10.below hb11).mono hb11.size; clear ho11 hb11) | (go_at_call 24; refine (CallsSame_c T10 c10 T11 c11 _ w11 _ (by omega) hq12 hq11).mono ?_; rintro e w12 ⟨rfl, m12, rfl⟩; have hk12 : Below (w.heap.size + 1) wb (w11.drewN m12) := Below.drewN_ hk11 _; obtain ⟨b0, b1, b2⟩ := HBX.out _ hk12; have hc12 := hwb.trans (hk12.mono (Nat.le_succ _))))
    all_goals go_wp2_with fail
    all_goals go_ret
    all_goals exact ⟨rfl, hc12⟩
  | false =>
    have HN := Lib.hid hh
    have HS := Lib.hid hs
    obtain ⟨il, il0, ilz, il1, il2⟩ := info_parts info_lis
    clear hh hs
    go_enter Try.func5, Try.ntmps5
    go_wp2_with (go_at_call 19; refine (wakes23_c _).mono ?_; rintro e w1 ⟨rfl, hb1⟩)
    rw [World.size_alloc] at hb1
    have hwb : Below w.heap.size w (w.alloc (.cells #[.int .i64 t, .string kind, .bool bub] 32)) := (Below.refl _ w).alloc (Nat.le_refl _) _
    have hbx := BoxAt.made w 32 #[.int .i64 t, .string kind, .bool bub]
    have hwz : (w.alloc (.cells #[.int .i64 t, .string kind, .bool bub] 32)).heap.size = w.heap.size + 1 := by simp
    generalize w.alloc (.cells #[.int .i64 t, .string kind, .bool bub] 32) = wb at hb1 hwb hbx hwz
    have hcur := hwb.trans (hb1.mono (Nat.le_succ _))
    have HBX := Lib.hid (fun (W : World) (hk : Below (w.heap.size + 1) wb W) => (show W.cell? ⟨w.heap.size, 0, none⟩ = some (.int .i64 t) ∧ W.cell? ⟨w.heap.size, 1, none⟩ = some (.string kind) ∧ W.cell? ⟨w.heap.size, 2, none⟩ = some (.bool bub) from ⟨(hk.cell (p := ⟨w.heap.size, 0, none⟩) (Nat.lt_succ_self _)).trans (hbx.cell (j := 0) rfl), (hk.cell (p := ⟨w.heap.size, 1, none⟩) (Nat.lt_succ_self _)).trans (hbx.cell (j := 1) rfl), (hk.cell (p := ⟨w.heap.size, 2, none⟩) (Nat.lt_succ_self _)).trans (hbx.cell (j := 2) rfl)⟩))
    obtain ⟨b0, b1, b2⟩ := HBX.out _ hb1
    have hkA := hb1.drew
    have hkB : Below (w.heap.size + 1) wb (w1.alloc (.cells #[] 42)).drew := (hb1.alloc (by have := hb1.size; omega) _).drew
    have hcA := hwb.trans (hkA.mono (Nat.le_succ _))
    have hcB := hwb.trans (hkB.mono (Nat.le_succ _))
    have hsA := hkA.size
    have hsB := hkB.size
    rw [hwz] at hsA hsB
    have HEB : ((w1.alloc (.cells #[] 42)).drew).heap[w1.heap.size]? = some (.cells #[] 42 (0, 0)) := heap_alloc_new w1 _
    have hsw1 := hb1.size
    clear hbx
    go_region_held3 (fun w' => w'.cell? ⟨w.heap.size, 0, none⟩ = some (.int .i64 t) ∧ w'.cell? ⟨w.heap.size, 1, none⟩ = some (.string kind) ∧ w'.cell? ⟨w.heap.size, 2, none⟩ = some (.bool bub)) (go_keep) (first | (go_at_call 22; refine (rCopied_c A c l _ w.heap.size (by first | exact hcA.size | exact hcB.size) HS.out hln (by first | exact h.below hcA | exact h.below hcB)).mono ?_; rintro e w2 ⟨v2, rfl, hdoc2, hb2⟩; have hk2 : Below (w.heap.size + 1) wb w2 := (by first | exact hkA.trans (hb2.mono hsA) | exact hkB.trans (hb2.mono hsB)); obtain ⟨b0, b1, b2⟩ := HBX.out _ hk2; have hc2 := hwb.trans (hk2.mono (Nat.le_succ _)); obtain ⟨A2, c2, rfl, hn2, -⟩ := hdoc2.nodes) | (have he := (hb2.block w1.heap.size (by simp)).trans HEB; have hl9 := (hl.below hc2).news; have hs2 := hb2.size; refine step_append_src _ (by rfl) _ _ _ (by rfl) (w.heap.size + 1) 42 il _ 4 56 Try.underlying30 il0 ilz il1 il2 rfl (by omega) _ 0 [] (by rfl) (row_none he (by omega)) Al all.length ca (lisCells all) (by rfl) (lisCells_length _) hl9 (lisCells_one _) (by simp only [maxLen]; omega) (by omega) (by simp at hs2; omega) ?_; intro T9 c9 w9 hown9 hg9 hat9; obtain ⟨hk9, hn9, hz9⟩ := lis_copied hk2 (by omega) (by omega) he hg9 hn2 hown9; have hs9 := hg9.size; rw [Nat.zero_add]; obtain ⟨b0, b1, b2⟩ := HBX.out _ hk9; have hc9 := hwb.trans (hk9.mono (Nat.le_succ _)); clear hn2 hk2 hc2) | (have hs2 := hk2.size; have he : (w2.alloc (.cells #[] 42)).heap[w2.heap.size]? = some (.cells #[] 42 (0, 0)) := heap_alloc_new w2 _; have hk2' : Below (w.heap.size + 1) wb (w2.alloc (.cells #[] 42)) := hk2.alloc (by omega) _; have hl9 := (hl.below (hwb.trans (hk2'.mono (Nat.le_succ _)))).news; have hn2' := hn2.below ((Below.refl w2.heap.size w2).alloc (Nat.le_refl _) (.cells #[] 42)); refine step_append_src _ (by rfl) _ _ _ (by rfl) (w.heap.size + 1) 42 il _ 4 56 Try.underlying30 il0 ilz il1 il2 rfl (by omega) _ 0 [] (by rfl) (row_none he (by omega)) Al all.length ca (lisCells all) (by rfl) (lisCells_length _) hl9 (lisCells_one _) (by simp only [maxLen]; omega) (by omega) (by simp; omega) ?_; intro T9 c9 w9 hown9 hg9 hat9; obtain ⟨hk9, hn9, hz9⟩ := lis_copied hk2' (by omega) (by omega) he hg9 hn2' hown9; have hs9 : w2.heap.size ≤ w9.heap.size := (by have := hg9.size; simp at this; omega); rw [Nat.zero_add]; obtain ⟨b0, b1, b2⟩ := HBX.out _ hk9; have hc9 := hwb.trans (hk9.mono (Nat.le_succ _)); clear hn2 hk2 hc2) | (go_at_call 25; refine (CallsNo_c A2 c2 l t HN.out T9 c9 all.length kind bub w9 _ (Nat.le_refl _) hll HS.out (hn9.mono hs9)).mono ?_; rintro e w10 ⟨rfl, hb10⟩; have hk10 := hk9.trans (hb10.mono (by have := hk9.size; omega)); obtain ⟨b0, b1, b2⟩ := HBX.out _ hk10; have hc10 := hwb.trans (hk10.mono (Nat.le_succ _)); clear hb10) | (go_at_call 26; refine (rCallsNo_c A c l t HN.out Al ca all.length kind bub w10 w.heap.size hc10.size hll HS.out (h.below hc10)).mono ?_; rintro e w11 ⟨rfl, hb11⟩; have hk11 := hk10.trans (hb11.mono (by have := hk10.size; omega)); obtain ⟨b0, b1, b2⟩ := HBX.out _ hk11; have hc11 := hwb.trans (hk11.mono (Nat.le_succ _)); clear hb11) | (go_at_call 24; refine (CallsSame_c none 0 none 0 [] w11 w11.heap.size (by decide) (fun h => absurd rfl h) (fun h => absurd rfl h)).mono ?_; rintro e w12 ⟨rfl, m12, rfl⟩; have hk12 : Below (w.heap.size + 1) wb (w11.drewN m12) := Below.drewN_ hk11 _; obtain ⟨b0, b1, b2⟩ := HBX.out _ hk12; have hc12 := hwb.trans (hk12.mono (Nat.le_succ _))))
    all_goals go_wp2_with fail
    all_goals go_ret
    all_goals exact ⟨rfl, hc12⟩
end Go.Proofs.Ytpgcaehbbdnhiaa

/- The law EventOnce, walked. -/
import Derived.Test.YtpgcaehbbdnhiaaE8
import Derived.Deep.RegionHeld3
namespace Go.Proofs.Ytpgcaehbbdnhiaa
open Go.RowKit
theorem pair_take {α : Type} {R : α → α → Prop} {cs : List α} (hp : cs.Pairwise R) {k : Nat} (hk : k < cs.length) : ∀ c ∈ cs.take k, R c cs[k] := by
  intro c hc
  obtain ⟨i, hi, rfl⟩ := List.mem_iff_getElem.1 hc
  rw [List.length_take] at hi
  rw [List.getElem_take]
  exact List.pairwise_iff_getElem.1 hp i k (by omega) hk (by omega)
theorem pair_drop {α : Type} {R : α → α → Prop} {cs : List α} (hp : cs.Pairwise R) {k : Nat} (hk : k < cs.length) : ∀ c ∈ cs.drop (k + 1), R cs[k] c := by
  intro c hc
  obtain ⟨i, hi, rfl⟩ := List.mem_iff_getElem.1 hc
  rw [List.length_drop] at hi
  rw [List.getElem_drop]
  exact List.pairwise_iff_getElem.1 hp k (k + 1 + i) hk (by omega) (by omega)
/-- was listener i called among the first k calls? -/
def seenB (cs : List GCall) (k : Nat) (i : Nat) : Bool := (cs.take k).any fun c => c.1 == (i : Int)
theorem seen_succ {cs : List GCall} {k : Nat} (hk : k < cs.length) (i : Nat) : seenB cs (k + 1) i = (seenB cs k i || cs[k].1 == (i : Int)) := by
  unfold seenB
  rw [List.take_succ_eq_append_getElem hk, List.any_append]
  simp
theorem seen_no {cs : List GCall} (hp : cs.Pairwise (fun c c' => c.2.2 ≤ c'.2.2 ∧ c.1 ≠ c'.1)) {k : Nat} (hk : k < cs.length) {i : Nat} (hi : cs[k].1 = i) : seenB cs k i = false := by
  unfold seenB
  rw [List.any_eq_false]
  intro c hc
  have := (pair_take hp hk c hc).2
  rw [hi] at this
  simpa using this
/-- the row of the listeners that were called -/
structure SeenRow (wr : World) (base g n : Nat) (cs : List GCall) (k : Nat) : Prop where
  row : ∃ xs, wr.ownsRow base 4 1 (.slice (some ⟨g, 0, none⟩) n n) n xs ∧ ∀ i, i < n → xs[i]? = some (.bool (seenB cs k i))
theorem SeenRow.kept {wr w' : World} {base g n : Nat} {cs : List GCall} {k : Nat} (h : SeenRow wr base g n cs k) (hg : wr.grownBy w' none) : SeenRow w' base g n cs k := by
  obtain ⟨xs, h1, h2⟩ := h.row
  exact ⟨xs, World.ownsRow.kept h1 hg (.inr (by simp [Value.ownBlock])), h2⟩
theorem SeenRow.step {wr : World} {base g n : Nat} {cs : List GCall} {k : Nat} (h : SeenRow wr base g n cs k) (hk : k < cs.length) {i : Nat} (hi : cs[k].1 = i) : SeenRow (wr.setCell ⟨g, i, none⟩ (.bool true)) base g n cs (k + 1) := by
  obtain ⟨xs, h1, h2⟩ := h.row
  refine ⟨xs.set i (.bool true), (h1.stored i (.bool true)).1, fun j hj => ?_⟩
  rw [seen_succ hk, hi, List.getElem?_set]
  by_cases e : i = j
  · subst e
    have hl := h1.1
    rw [if_pos rfl, if_pos (by omega)]
    simp
  · rw [if_neg e, h2 j hj]
    have : ((i : Int) == (j : Int)) = false := by rw [beq_eq_false_iff_ne]; omega
    rw [this, Bool.or_false]
theorem SeenRow.cell {wr : World} {base g n : Nat} {cs : List GCall} {k : Nat} (h : SeenRow wr base g n cs k) {i : Nat} (hi : i < n) : wr.cell? ⟨g, i, none⟩ = some (.bool (seenB cs k i)) ∧ wr.frozen? ⟨g, i, none⟩ = false ∧ g < wr.heap.size := by
  obtain ⟨xs, h1, h2⟩ := h.row
  exact ⟨by rw [h1.cellAt i (by omega), h2 i hi], owns_frozen h1 i, (h1.lt g rfl).2⟩
set_option maxRecDepth 100000 in
set_option maxHeartbeats 8000000 in
theorem EventOnce_yes (A : Option Addr) (l : List GNode) (c : Nat) (Al : Option Addr) (all : List Lis) (ca : Nat) (t : Int) (kind : ByteArray) (bub : Bool) (w : World) (h : NodesAt w w.heap.size A l) (hs : ∀ n ∈ l, NodeSmall reachBytes n) (hln : l.length * 88 ≤ reachBytes) (hl : LisAt w w.heap.size Al all) (hll : l.length ≤ 4611686018427387904) (hbig : ¬ 200 < all.length) (hbig' : decide ((200 : Int) < (all.length : Int)) = false) (hh : hasB l t = true) :
    Calls Try.prog 6 #[.slice A l.length c, .slice Al all.length ca, .agg #[.int .i64 t, .string kind, .bool bub]] w fun e w' => e = .returned (.bool true) ∧ Below w.heap.size w w' := by
  obtain ⟨ib, ib0, ibz, ib1, ib2⟩ := info_parts info_bool
  have hmk : ∀ W : World, (Instr.makeSlice 37 (.int .i64 (all.length : Int)) (.int .i64 (all.length : Int))).run Try.prog W = .ok (.slice (some ⟨W.heap.size, 0, none⟩) all.length all.length) (W.alloc (.cells (madeCells #[.bool false] all.length) 4)) := by
    intro W
    have := run_make (P := Try.prog) W 37 4 ib _ Try.underlying37 ib0 ibz .i64 .i64 (all.length : Int) (all.length : Int) (by omega) (by omega) (by rw [ib2]; omega) (by omega)
    rw [ib1] at this
    rw [show ((all.length : Int)).toNat = all.length by omega, Nat.mul_one] at this
    exact this
  have hmz : (madeCells #[Value.bool false] all.length).toList = List.replicate all.length (.bool false) := toList_madeCells_one _ _
  have hms : (madeCells #[Value.bool false] all.length).size = all.length := size_madeCells _ _
  generalize madeCells #[Value.bool false] all.length = mc at hmk hmz hms
  have HS := Lib.hid hs
  clear hs
  have HMZ := Lib.hid hmz
  clear hmz
  have ht : Is l t := (hasB_iff.1 hh).1
  have hr : RightP l := (hasB_iff.1 hh).2
  have HR := Lib.hid hr
  have HT := Lib.hid ht
  obtain ⟨⟨_, h400, _⟩, _⟩ := id hr
  have HOK := Lib.hid (fun L (hp : PathP l t L) => calls_ok hr ht hp all kind bub)
  have HBD := Lib.hid (fun L (hp : PathP l t L) => (show (callsL all kind (visL L bub)).length ≤ 804000 by have := callsL_bd (L := L) (by have := path_size hr ht hp; omega) (all := all) (by omega) kind bub (visL L bub).length; rwa [List.take_length] at this))
  clear hh ht hr
  go_enter Try.func6, Try.ntmps6
  go_wp2_with (go_at_call 19; refine (wakes23_c _).mono ?_; rintro e w1 ⟨rfl, hb1⟩)
  rw [World.size_alloc] at hb1
  have hwb : Below w.heap.size w (w.alloc (.cells #[.int .i64 t, .string kind, .bool bub] 32)) := (Below.refl _ w).alloc (Nat.le_refl _) _
  have hbx := BoxAt.made w 32 #[.int .i64 t, .string kind, .bool bub]
  have hwz : (w.alloc (.cells #[.int .i64 t, .string kind, .bool bub] 32)).heap.size = w.heap.size + 1 := by simp
  generalize w.alloc (.cells #[.int .i64 t, .string kind, .bool bub] 32) = wb at hb1 hwb hbx hwz
  have HBX := Lib.hid (fun (W : World) (hk : Below (w.heap.size + 1) wb W) => (show W.cell? ⟨w.heap.size, 0, none⟩ = some (.int .i64 t) ∧ W.cell? ⟨w.heap.size, 1, none⟩ = some (.string kind) ∧ W.cell? ⟨w.heap.size, 2, none⟩ = some (.bool bub) from ⟨(hk.cell (p := ⟨w.heap.size, 0, none⟩) (Nat.lt_succ_self _)).trans (hbx.cell (j := 0) rfl), (hk.cell (p := ⟨w.heap.size, 1, none⟩) (Nat.lt_succ_self _)).trans (hbx.cell (j := 1) rfl), (hk.cell (p := ⟨w.heap.size, 2, none⟩) (Nat.lt_succ_self _)).trans (hbx.cell (j := 2) rfl)⟩))
  have hsw := hb1.size
  have hks : Below (w.heap.size + 1) wb (w1.alloc (.cells mc 4)) := hb1.alloc (by omega) _
  have hseen : SeenRow (w1.alloc (.cells mc 4)) (w.heap.size + 1) w1.heap.size all.length [] 0 := ⟨_, World.ownsRow_lit w1 mc all.length (by omega) (by simp only [maxLen]; omega) (by rw [hms, Nat.mul_one]), fun i hi => by rw [HMZ.out]; simp [hi, seenB]⟩
  have hwsz : (w1.alloc (.cells mc 4)).heap.size = w1.heap.size + 1 := by simp
  generalize w1.alloc (.cells mc 4) = ws at hks hseen hwsz ⊢
  clear hbx hmk hms
  obtain ⟨b0, b1, b2⟩ := HBX.out _ hks
  have hkA := hks.drew
  have hcA := hwb.trans (hkA.mono (Nat.le_succ _))
  have hsA := hkA.size
  rw [hwz] at hsA
  go_region_held3 (fun w' => w'.cell? ⟨w.heap.size, 0, none⟩ = some (.int .i64 t) ∧ w'.cell? ⟨w.heap.size, 1, none⟩ = some (.string kind) ∧ w'.cell? ⟨w.heap.size, 2, none⟩ = some (.bool bub)) (go_keep) (first | (go_at_call 22; refine (rCopied_c A c l _ w.heap.size hcA.size HS.out hln (h.below hcA)).mono ?_; rintro e w2 ⟨v2, rfl, hdoc2, hb2⟩; have hk2 : Below (w.heap.size + 1) wb w2 := hkA.trans (hb2.mono hsA); obtain ⟨b0, b1, b2⟩ := HBX.out _ hk2; have hc2 := hwb.trans (hk2.mono (Nat.le_succ _)); obtain ⟨A2, c2, rfl, hn2, -⟩ := hdoc2.nodes) | (go_at_call 25; refine (CallsOk_c A2 c2 l HR.out t HT.out Al ca all (by omega) kind bub w2 _ (Nat.le_refl _) HS.out hn2 ((hl.below hc2).mono hc2.size)).mono ?_; rintro e w10 ⟨v10, L, rfl, hp, ho10, hb10⟩; have hk10 := hk2.trans (hb10.mono (by have := hk2.size; omega)); obtain ⟨b0, b1, b2⟩ := HBX.out _ hk10; have hc10 := hwb.trans (hk10.mono (Nat.le_succ _)); obtain ⟨T10, c10, rfl⟩ := owns_slice ho10; have hbd := HBD.out L hp))
  have hcok := (HOK.out L hp).1
  have hcp := (HOK.out L hp).2
  generalize callsL all kind (visL L bub) = cs at ho10 hbd hcok hcp
  have hpw := Lib.hid hcp
  have HCK := Lib.hid hcok
  have hse := (hseen.kept (w' := ws.drew) ⟨rfl, rfl, rfl, Nat.le_refl _, fun _ _ _ => rfl⟩).kept (grown_of_below hb2)
  have hse10 := hse.kept (grown_of_below hb10)
  have hz2 : w1.heap.size < w2.heap.size := by have := hse.row.choose_spec.1.lt w1.heap.size rfl; exact this.2
  have hp0 : ∀ c ∈ cs.drop 0, (0 : Int) ≤ c.2.2 := fun c hc => by
    obtain ⟨i, hi, -, -, -, h1, -⟩ := hcok c (List.mem_of_mem_drop hc)
    omega
  have HP0 := Lib.hid hp0
  have hse0 : SeenRow w10 (w.heap.size + 1) w1.heap.size all.length cs 0 := by
    obtain ⟨xs, h1, h2⟩ := hse10.row
    exact ⟨xs, h1, fun i hi => by rw [h2 i hi]; simp [seenB]⟩
  clear hcok hcp hp0 hse hse10 hb2 hb10 hdoc2 hn2 hseen hkA hcA hk2 hc2 b0 b1 b2
  go_wp2_with fail
  go_loopw [8, 10, 30] (fun ph _ iv wr => Below (w.heap.size + 1) wb wr ∧ ∃ k : Nat, k ≤ cs.length ∧ iv = .int .i64 k ∧ ∃ p : Int, ph = .int .i64 p ∧ (∀ c ∈ cs.drop k, p ≤ c.2.2) ∧ SeenRow wr (w.heap.size + 1) w1.heap.size all.length cs k ∧ OwnCalls wr w2.heap.size (.slice T10 cs.length c10) cs) (fun _ _ iv _ => cs.length - (intOf iv).toNat)
  case atStart => exact ⟨hk10, 0, by omega, rfl, 0, rfl, HP0.out, hse0, ho10⟩
  case round =>
    obtain ⟨hk, k, hkl, rfl, p, rfl, hph, hse, ho⟩ := hrel
    have hcr := hwb.trans (hk.mono (Nat.le_succ _))
    by_cases hlt : k < cs.length
    · obtain ⟨i, hil, e1, en, ety, h1, h3, h2eq, h3b⟩ := HCK.out cs[k] (List.getElem_mem hlt)
      have HOC := Lib.hid ho
      obtain ⟨bC, oC, rfl, hbC, z1, z2, z3⟩ := (calls_of_owns ho).at_ hlt
      have HNE := Lib.hid (show (Value.slice (some ⟨bC, oC, none⟩) cs.length c10).ownBlock ≠ some w1.heap.size from fun e => by have := (ho.lt _ e).1; omega)
      have hsn := seen_no hpw.out hlt e1
      have HST := Lib.hid (fun W (hW : SeenRow W (w.heap.size + 1) w1.heap.size all.length cs k) => hW.step hlt e1)
      have hphase : ∀ c ∈ cs.drop (k + 1), cs[k].2.2 ≤ c.2.2 := fun c hc => (pair_drop hpw.out hlt c hc).1
      have hpp : p ≤ cs[k].2.2 := hph _ (by rw [List.drop_eq_getElem_cons hlt]; exact List.mem_cons_self ..)
      obtain ⟨sc, sf, sg⟩ := hse.cell hil
      rw [hsn] at sc
      obtain ⟨bA, oA, rfl, hbA, y0, y1, -, -⟩ := (hl.below hcr).at_ hil
      rw [ba_ext ety] at y1
      rw [en] at y0
      rw [e1] at z1
      generalize cs[k].2.1 = cn at z2 y0 h2eq
      generalize cs[k].2.2 = cp at z3 h1 h3 h2eq h3b hpp hphase
      have HPH := Lib.hid hphase
      obtain ⟨b0, b1, b2⟩ := HBX.out _ hk
      have hw0 : w.heap.size < wr.heap.size := by have := hk.size; omega
      have hbA' : bA < wr.heap.size := by omega
      have k0 : (0 : Int) ≤ (i : Int) := by omega
      have k1 : (i : Int) < (all.length : Int) := by omega
      have k2 : (0 : Int) ≤ (k : Int) := by omega
      have k3 : (k : Int) < (cs.length : Int) := by omega
      have d1 : decide ((i : Int) < 0) = false := decide_eq_false (by omega)
      have d2 : decide ((all.length : Int) ≤ (i : Int)) = false := decide_eq_false (by omega)
      have d2' : decide (all.length ≤ i) = false := decide_eq_false (by omega)
      have d3 : decide (cp < p) = false := decide_eq_false (by omega)
      have d4 : decide ((3 : Int) < cp) = false := decide_eq_false (by omega)
      clear hph hphase ho hsn e1 en ety hlt
      generalize hbe : (cn == t) = β at h2eq
      cases e3 : (cp == 3) with
      | false =>
        go_wp2_with fail
        have hB := BoxAt.made wr 39 #[.int .i64 i, .int .i64 cn, .int .i64 cp]
        have hA := World.grownBy_alloc wr (Obj.cells #[.int .i64 i, .int .i64 cn, .int .i64 cp] 39) none
        generalize hWA : wr.alloc (Obj.cells #[.int .i64 i, .int .i64 cn, .int .i64 cp] 39) = WA at hB hA ⊢
        refine reg10_no WA _ bA oA all.length ca w.heap.size w1.heap.size wr.heap.size i p cn cp t kind bub β k0 k1 d1 d2' d3 d4 hbe h2eq e3 (hB.cell (j := 0) rfl) (hB.cell (j := 1) rfl) (hB.cell (j := 2) rfl) ((hA.cell_far ⟨_, _, none⟩ sg (by simp)).trans sc) ((hA.cell_far ⟨_, _, none⟩ hbA' (by simp)).trans y0) ((hA.cell_far ⟨_, _, none⟩ hbA' (by simp)).trans y1) ((hA.cell_far ⟨_, _, none⟩ hw0 (by simp)).trans b0) ((hA.cell_far ⟨_, _, none⟩ hw0 (by simp)).trans b1) ((hA.cell_far ⟨_, _, none⟩ hw0 (by simp)).trans b2) ?_
        intros
        rename_i nq
        have sc' := (hA.cell_far ⟨w1.heap.size, i, none⟩ sg (by simp)).trans sc
        have sf' := (hA.frozen_far ⟨w1.heap.size, i, none⟩ sg (by simp)).trans sf
        have c0' := hB.cell (j := 0) rfl
        have c2' := hB.cell (j := 2) rfl
        subst hWA
        go_wp2_with fail
        have hX : Below wr.heap.size wr ((wr.alloc (Obj.cells #[.int .i64 i, .int .i64 cn, .int .i64 cp] 39)).drewN nq) := Below.drewN_ ((Below.refl _ wr).alloc (Nat.le_refl _) _) nq
        go_roundw
        case rel => exact ⟨(hk.trans (hX.mono (by have := hk.size; omega))).setCell (p := ⟨w1.heap.size, i, none⟩) (by show w.heap.size + 1 ≤ w1.heap.size; omega) _, k + 1, by omega, by go_num, _, rfl, HPH.out, HST.out _ (hse.kept (grown_of_below hX)), World.ownsRow.kept (HOC.out.below hX) (grown_set _ _ _ _) (.inr HNE.out)⟩
        case measure => simp [intOf]; omega
      | true =>
        obtain rfl : bub = true := h3b (by simpa using e3)
        go_wp2_with fail
        have hB := BoxAt.made wr 39 #[.int .i64 i, .int .i64 cn, .int .i64 cp]
        have hA := World.grownBy_alloc wr (Obj.cells #[.int .i64 i, .int .i64 cn, .int .i64 cp] 39) none
        generalize hWA : wr.alloc (Obj.cells #[.int .i64 i, .int .i64 cn, .int .i64 cp] 39) = WA at hB hA ⊢
        refine reg10_yes WA _ bA oA all.length ca w.heap.size w1.heap.size wr.heap.size i p cn cp t kind true β k0 k1 d1 d2' d3 d4 hbe h2eq e3 rfl (hB.cell (j := 0) rfl) (hB.cell (j := 1) rfl) (hB.cell (j := 2) rfl) ((hA.cell_far ⟨_, _, none⟩ sg (by simp)).trans sc) ((hA.cell_far ⟨_, _, none⟩ hbA' (by simp)).trans y0) ((hA.cell_far ⟨_, _, none⟩ hbA' (by simp)).trans y1) ((hA.cell_far ⟨_, _, none⟩ hw0 (by simp)).trans b0) ((hA.cell_far ⟨_, _, none⟩ hw0 (by simp)).trans b1) ((hA.cell_far ⟨_, _, none⟩ hw0 (by simp)).trans b2) ?_
        intros
        rename_i nq
        have sc' := (hA.cell_far ⟨w1.heap.size, i, none⟩ sg (by simp)).trans sc
        have sf' := (hA.frozen_far ⟨w1.heap.size, i, none⟩ sg (by simp)).trans sf
        have c0' := hB.cell (j := 0) rfl
        have c2' := hB.cell (j := 2) rfl
        subst hWA
        go_wp2_with fail
        have hX : Below wr.heap.size wr ((wr.alloc (Obj.cells #[.int .i64 i, .int .i64 cn, .int .i64 cp] 39)).drewN nq) := Below.drewN_ ((Below.refl _ wr).alloc (Nat.le_refl _) _) nq
        go_roundw
        case rel => exact ⟨(hk.trans (hX.mono (by have := hk.size; omega))).setCell (p := ⟨w1.heap.size, i, none⟩) (by show w.heap.size + 1 ≤ w1.heap.size; omega) _, k + 1, by omega, by go_num, _, rfl, HPH.out, HST.out _ (hse.kept (grown_of_below hX)), World.ownsRow.kept (HOC.out.below hX) (grown_set _ _ _ _) (.inr HNE.out)⟩
        case measure => simp [intOf]; omega
    · obtain rfl : k = cs.length := by omega
      clear hph
      go_wp2_with fail
      go_ret
      exact ⟨rfl, hcr⟩
end Go.Proofs.Ytpgcaehbbdnhiaa

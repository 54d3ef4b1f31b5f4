/- The visits of a path, handed out. -/
import Derived.Test.YtpgcaehbbdnhiaaE1
import Derived.Sort.CutIn
namespace Go.Proofs.Ytpgcaehbbdnhiaa
open Go.RowKit Go.Shelf
attribute [local go_sem] Oper.semAt_some
set_option maxRecDepth 100000 in
set_option maxHeartbeats 1000000 in
theorem Backward_c (A : Option Addr) (n c : Nat) (w : World) :
    Calls Try.prog 79 #[.slice A n c] w fun e w' => e = .returned (.func (.func 88) #[] #[.pointer (some ⟨w.heap.size, 0, none⟩)]) ∧ w' = w.alloc (.cells #[.slice A n c] 26) := by
  go_enter Try.func79, Try.ntmps79
  go_wp2_with fail
  go_ret
  exact ⟨rfl, rfl⟩
theorem visits_c (A : Option Addr) (n c : Nat) (bub : Bool) (w : World) :
    Calls Try.prog 56 #[.slice A n c, .bool bub] w fun e w' => e = .returned (.func (.func 78) #[] #[.pointer (some ⟨w.heap.size, 0, none⟩), .pointer (some ⟨w.heap.size + 1, 0, none⟩)]) ∧ w' = (w.alloc (.cells #[.slice A n c] 26)).alloc (.cells #[.bool bub] 4) := by
  go_enter Try.func56, Try.ntmps56
  go_wp2_with fail
  go_ret
  exact ⟨rfl, rfl⟩
/-- what the iterator reads between two rounds -/
structure VisSt (W : World) (By Bp Bb l base g c : Nat) (bub : Bool) (L : List Int) (m : Nat) : Prop where
  y : Boxed W By 93 (.func (.yield l) #[] #[])
  p : Boxed W Bp 26 (.slice (some ⟨g, 0, none⟩) (m + 1) c)
  b : Boxed W Bb 4 (.bool bub)
  row : W.ownsRow base 3 1 (.slice (some ⟨g, 0, none⟩) (m + 1) c) (m + 1) (intCells L)
theorem VisSt.keep {W W' : World} {By Bp Bb l base g c : Nat} {bub : Bool} {L : List Int} {m : Nat} (h : VisSt W By Bp Bb l base g c bub L m) (k : KeepT tsP W W') : VisSt W' By Bp Bb l base g c bub L m :=
  ⟨k.box h.y rfl, k.box h.p rfl, k.box h.b rfl, k.row h.row rfl⟩
theorem VisSt.at_ {W : World} {By Bp Bb l base g c : Nat} {bub : Bool} {L : List Int} {m : Nat} (h : VisSt W By Bp Bb l base g c bub L m) (hm : L.length = m + 1) {i : Nat} (hi : i < m + 1) : W.cell? ⟨g, i, none⟩ = some (.int .i64 (L.getD i 0)) := by
  rw [h.row.cellAt i (by omega)]
  simp [intCells, List.getD, show i < L.length by omega]
set_option maxRecDepth 100000 in
set_option maxHeartbeats 4000000 in
theorem vis_all (L : List Int) (hpos : 0 < L.length) (hL : L.length ≤ 1000000) (A : Option Addr) (c Bp Bb base : Nat) (bub : Bool) (w : World) (hb : Boxed w Bp 26 (.slice A L.length c)) (hbb : Boxed w Bb 4 (.bool bub)) (hrow : w.ownsRow base 3 1 (.slice A L.length c) L.length (intCells L)) :
    SeqAll Try.prog 78 #[.pointer (some ⟨Bp, 0, none⟩), .pointer (some ⟨Bb, 0, none⟩)] encV tsP (visL L bub) w := by
  obtain ⟨m, hm⟩ : ∃ m, L.length = m + 1 := ⟨L.length - 1, by omega⟩
  have HV0 : ∀ k, k < m → (visL L bub)[k]? = some (L.getD k 0, 1, true) := fun k hk => by unfold visL; rw [hm, List.getElem?_append_left (by simp; omega)]; simp [hk]
  have HV1 : (visL L bub)[m]? = some (L.getD m 0, 2, true) := by unfold visL; rw [hm, List.getElem?_append_right (by simp)]; simp
  have HV2 : (visL L bub)[m + 1]? = some (L.getD m 0, 2, false) := by unfold visL; rw [hm, List.getElem?_append_right (by simp)]; simp
  have HV3 : bub = true → ∀ j, j < m → (visL L bub)[m + 2 + j]? = some (L.getD (m - 1 - j) 0, 3, false) := fun hb j hj => by
    unfold visL
    rw [hm, List.getElem?_append_right (by simp; omega), List.getElem?_append_right (by simp; omega), hb]
    simp [show m + 2 + j - m - 2 = j by omega, hj]
  have HVN : (visL L bub).length = m + 2 + (if bub then m else 0) := by unfold visL; rw [hm]; cases bub <;> simp <;> omega
  clear hpos
  rw [hm] at hb hrow hL
  intro l J W hW hJ hY h0
  have hb' : Boxed W Bp 26 (.slice A (m + 1) c) := hb.kept (grown_of_below hW) (by simp)
  have hbb' : Boxed W Bb 4 (.bool bub) := hbb.kept (grown_of_below hW) (by simp)
  have hrow' : W.ownsRow base 3 1 (.slice A (m + 1) c) (m + 1) (intCells L) := owns_block hrow fun g hg => hW.block g (hrow.lt g hg).2
  obtain ⟨g, cap, hT, hgb, hgl, -⟩ := owns_form hrow' (by omega)
  injection hT with hT1 hT2 hT3
  subst hT1 hT3
  have hcl := owns_le hrow'
  have HM := Lib.hid hm
  clear hb hbb hrow hT2 hm
  have hby := Boxed.new W 93 (.func (.yield l) #[] #[])
  replace hb' := hb'.alloc (.cells #[.func (.yield l) #[] #[]] 93)
  replace hbb' := hbb'.alloc (.cells #[.func (.yield l) #[] #[]] 93)
  replace hrow' := World.ownsRow.alloc hrow' (.cells #[.func (.yield l) #[] #[]] 93)
  have hJ0 := hJ.alloc (.cells #[.func (.yield l) #[] #[]] 93) h0
  have HV0' := Lib.hid HV0
  have HV1' := Lib.hid HV1
  have HV2' := Lib.hid HV2
  have HV3' := Lib.hid HV3
  have HVN' := Lib.hid HVN
  have HY := Lib.hid hY
  clear HV0 HV1 HV2 HV3 HVN hY h0
  refine callsIn_of_wp_marks Try.func78 rfl trivial ?_ rfl
  simp only [Try.ntmps78, List.size_toArray, List.length_cons, List.length_nil, Nat.reduceAdd, Nat.reduceSub, Array.replicate_succ, Array.replicate_zero, List.push_toArray, List.append_toArray, List.nil_append, List.cons_append]
  have cb := hb'.cell
  have hmc : m ≤ c := by omega
  have hmc' : (m : Int) ≤ (c : Int) := by omega
  have hst : VisSt _ W.heap.size Bp Bb l base g c bub L m := ⟨hby, hb', hbb', hrow'⟩
  clear hby hb' hbb' hrow'
  gi_wp2
  clear cb
  generalize (W.alloc (.cells #[.func (.yield l) #[] #[]] 93)) = W0 at hst hJ0 ⊢
  gi_loopw [6, 16] (fun _ iv wr => ∃ i : Nat, i ≤ m ∧ iv = .int .i64 i ∧ J i wr ∧ VisSt wr W.heap.size Bp Bb l base g c bub L m) (fun _ iv _ => m - (intOf iv).toNat)
  case atStart => exact ⟨0, Nat.zero_le _, rfl, hJ0, hst⟩
  case round =>
    obtain ⟨i, hi, rfl, hJi, hsi⟩ := hrel
    have cy := hsi.y.cell
    have cp := hsi.p.cell
    have cbb := hsi.b.cell
    clear hJ0 hst
    by_cases hlt : i < m
    · have ci := hsi.at_ HM.out (i := i) (by omega)
      obtain ⟨fn, tmps, assign, body, hy, hR⟩ := HY.out i _ wr (HV0'.out i hlt) hJi
      replace hR := hR.mono (R' := fun e W' => e = .returned (.bool true) ∧ J (i + 1) W' ∧ VisSt W' W.heap.size Bp Bb l base g c bub L m) (fun e W' h => ⟨h.1, h.2.1, hsi.keep h.2.2.1⟩)
      dsimp only [encV] at hy
      generalize L.getD i 0 = x at ci hy
      gi_wp2
      refine hR.mono ?_
      rintro e W3 ⟨rfl, hJ3, hs3⟩
      gi_wp2
      go_roundw
      case rel => exact ⟨i + 1, by omega, by go_num, hJ3, hs3⟩
      case measure => simp [intOf]; omega
    · obtain rfl : i = m := by omega
      have hJd : J i wr.drew := hJ i wr wr.drew none hJi ⟨rfl, rfl, rfl, Nat.le_refl _, fun _ _ _ => rfl⟩ (fun r e => by cases e)
      have hsd : VisSt wr.drew W.heap.size Bp Bb l base g c bub L i := ⟨hsi.y, hsi.p, hsi.b, hsi.row⟩
      have hx : ∃ x, L.getD i 0 = x := ⟨_, rfl⟩
      obtain ⟨x, hx⟩ := hx
      have HA : ∀ wz, VisSt wz W.heap.size Bp Bb l base g c bub L i → wz.cell? ⟨g, i, none⟩ = some (.int .i64 x) := fun wz hz => by rw [hz.at_ HM.out (by omega), hx]
      have ca := HA wr hsi
      have HAH := Lib.hid HA
      obtain ⟨fn, tmps, assign, body, hy, hR⟩ := HY.out i _ wr.drew HV1'.out hJd
      have HR2 := Lib.hid (show ∀ wz, J (i + 1) wz → VisSt wz W.heap.size Bp Bb l base g c bub L i → YieldAt Fence.wide 8 Try.prog l #[.agg #[.int .i64 x, .int .i64 2, .bool false]] wz (fun e W' => e = .returned (.bool true) ∧ J (i + 2) W' ∧ VisSt W' W.heap.size Bp Bb l base g c bub L i) from fun wz hz1 hz2 => by
        have h := HY.out (i + 1) _ wz HV2'.out hz1
        simp only [encV, hx] at h
        exact YieldAt.mono h fun e W' h => ⟨h.1, h.2.1, hz2.keep h.2.2.1⟩)
      replace hR := hR.mono (R' := fun e W' => e = .returned (.bool true) ∧ J (i + 1) W' ∧ VisSt W' W.heap.size Bp Bb l base g c bub L i) (fun e W' h => ⟨h.1, h.2.1, hsd.keep h.2.2.1⟩)
      dsimp only [encV] at hy
      rw [hx] at hy
      clear hx HA HV0' hlt hi hJi hJd
      have hil : (i : Int) < (i : Int) + 1 := by omega
      gi_wp2
      gi_cut [47] from 26 (fun b7 wx => b7 = .bool (!bub) ∧ J (i + 2) wx ∧ VisSt wx W.heap.size Bp Bb l base g c bub L i)
      case first =>
        rename_i J1 K1 hJ1 hK1
        refine wpIn_mono (Q := Exit.then K1 (fun _ _ _ => False)) ?_ (fun e a w hq => by cases e <;> first | exact hq | exact hq.elim)
        gi_region_with (first | (refine hR.mono ?_; clear hR; rintro e W3 ⟨rfl, hJ3, hs3⟩; obtain ⟨fn2, tmps2, assign2, body2, hy2, hR2⟩ := HR2.out W3 hJ3 hs3; have ca3 := HAH.out W3 hs3; have cy3 := hs3.y.cell; have cp3 := hs3.p.cell) | (refine hR2.mono ?_; rintro e W4 ⟨rfl, hJ4, hs4⟩; have cb4 := hs4.b.cell))
        all_goals gi_wp2
        all_goals gi_meet
        all_goals exact ⟨rfl, hJ4, hs4⟩
      case rest =>
        obtain ⟨rfl, hJx, hsx⟩ := hcut
        clear hy hR HR2 cy cp cbb ca
        cases bub with
        | false =>
          gi_wp2
          refine ⟨_, results_none rfl _ _ _, ⟨_, rfl⟩, ?_⟩
          rw [HVN'.out]
          exact hJx
        | true =>
          have cpx := hsx.p.cell
          have hzx : W.heap.size < wc.heap.size := hsx.y.lt
          gi_wp2_with (refine ⟨trivial, ?_⟩; gi_at_call 79; refine (callsIn_wide.2 (Backward_c (some ⟨g, 0, none⟩) i c wc)).mono ?_; rintro e w' ⟨rfl, rfl⟩)
          have hsb : VisSt (wc.alloc (.cells #[.slice (some ⟨g, 0, none⟩) i c] 26)) W.heap.size Bp Bb l base g c true L i := ⟨hsx.y.alloc _, hsx.p.alloc _, hsx.b.alloc _, World.ownsRow.alloc hsx.row _⟩
          have hJb := hJ.alloc (.cells #[.slice (some ⟨g, 0, none⟩) i c] 26) hJx
          have bxB := Boxed.new wc 26 (.slice (some ⟨g, 0, none⟩) i c)
          have hzb : W.heap.size ≤ (wc.alloc (.cells #[.slice (some ⟨g, 0, none⟩) i c] 26)).heap.size := by simp; omega
          have hLt : (L.take i).length = i := by rw [List.length_take, HM.out]; omega
          have rowB : (wc.alloc (.cells #[.slice (some ⟨g, 0, none⟩) i c] 26)).ownsRow base 3 1 (.slice (some ⟨g, 0, none⟩) i c) i (intCells (L.take i)) := by
            have := owns_shrink hsb.row (m := i) (by omega) (by simp)
            rw [Nat.mul_one] at this
            rwa [show intCells (L.take i) = (intCells L).take i by simp [intCells]]
          generalize hwb : wc.alloc (.cells #[.slice (some ⟨g, 0, none⟩) i c] 26) = wb at hsb hJb bxB hzb rowB ⊢
          have hseq := back_all (L.take i) (by omega) (some ⟨g, 0, none⟩) c wc.heap.size base wb (by rw [hLt]; exact bxB) (by rw [hLt]; exact rowB)
          refine range_all1 (gf := 88) (lb := #[.pointer (some ⟨wc.heap.size, 0, none⟩)]) rfl (enters_of Try.func88 (by kernel_rfl) rfl) hseq (fun _ => rfl)
            (fun k W' => J (i + 2 + k) W' ∧ VisSt W' W.heap.size Bp Bb l base g c true L i) ?own ⟨hJb, hsb⟩ ?A1 ?assign ?body ?done
          case own => exact fun k A B row h hg hr => ⟨hJ _ A B row h.1 hg fun r e => ⟨by have := (hr r e).1; omega, (hr r e).2⟩, h.2.keep (.other hg fun r e => (hr r e).2)⟩
          case assign =>
            intro l2 x W' K hK
            gi_wp2
            exact hK
          case body =>
            rintro l2 k x W' hx ⟨hJk, hsk⟩
            have hk : k < i := by
              have := (List.getElem?_eq_some_iff.1 hx).1
              rw [bw_len, hLt] at this
              exact this
            have hx2 : x = (((i - 1 - k : Nat) : Int), L.getD (i - 1 - k) 0) := by
              have h := bw_at (xs := L.take i) (i := i - 1 - k) (by rw [hLt]; omega)
              rw [hLt, show i - 1 - (i - 1 - k) = k by omega, hx] at h
              injection h with h
              rw [h]
              congr 1
              simp [List.getD, show i - 1 - k < i by omega]
            obtain ⟨fn, tmps, assign, body, hy, hR⟩ := HY.out (i + 2 + k) _ W' (HV3'.out (by trivial) k hk) hJk
            have hR' := round_in (l0 := l2) (m' := 8 - 1) hR
            dsimp only [encV] at hy
            subst hx2
            have cyk := hsk.y.cell
            generalize L.getD (i - 1 - k) 0 = xk at hy ⊢
            clear hR HY hx
            gi_wp2
            refine hR'.mono ?_
            rintro e W3 ⟨rfl, hJ3, ht3, hk3⟩
            gi_wp2
            exact ⟨keepsUp hk3 hzb, ht3, hJ3, hsk.keep ht3⟩
          case done =>
            rintro D W' hD ⟨hJk, hsk⟩ hK
            rw [bw_len, hLt] at hJk
            gi_wp2
            refine ⟨by simp, .inl ⟨_, _, rfl, run_takeDeferred hK, ?_⟩⟩
            refine ⟨_, results_none rfl _ _ _, ⟨_, rfl⟩, ?_⟩
            rw [HVN'.out]
            exact hJ.putObj _ hJk (by omega) hK rfl
end Go.Proofs.Ytpgcaehbbdnhiaa

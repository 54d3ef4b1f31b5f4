/- The document's calls. -/
import Derived.Test.YtpgcaehbbdnhiaaE2
namespace Go.Proofs.Ytpgcaehbbdnhiaa
open Go.RowKit
theorem OwnCalls.kept {w w' : World} {base : Nat} {v : Value} {l : List GCall} (h : OwnCalls w base v l) (hg : w.grownBy w' none) : OwnCalls w' base v l := World.ownsRow.kept h hg (by cases v.ownBlock <;> simp)
theorem OwnCalls.below {w w' : World} {base : Nat} {v : Value} {l : List GCall} (h : OwnCalls w base v l) (hb : Below w.heap.size w w') : OwnCalls w' base v l := h.kept (grown_of_below hb)
theorem owns_calls_append {w : World} {base : Nat} {T : Option Addr} {c : Nat} {a b : List GCall} (h : w.ownsRow base 39 3 (.slice T (a.length + b.length) c) (a.length + b.length) (callCells a ++ callCells b)) : OwnCalls w base (.slice T (a.length + b.length) c) (a ++ b) := by
  unfold OwnCalls
  rw [List.length_append, ← callCells_append]
  exact h
theorem callsL_bd {L : List Int} (hL : L.length ≤ 401) {all : List Lis} (hal : all.length ≤ 1000) (kind : ByteArray) (bub : Bool) (k : Nat) : (callsL all kind ((visL L bub).take k)).length ≤ 804000 := by
  have h1 := callsL_len all kind ((visL L bub).take k)
  have h2 := visL_len L bub
  have h3 : ((visL L bub).take k).length ≤ 804 := by rw [List.length_take]; omega
  have h4 : ((visL L bub).take k).length * all.length ≤ 804 * 1000 := Nat.mul_le_mul h3 hal
  omega
theorem visL_0 {L : List Int} {m : Nat} (hm : L.length = m + 1) (bub : Bool) : ∀ k, k < m → (visL L bub)[k]? = some (L.getD k 0, 1, true) := fun k hk => by unfold visL; rw [hm, List.getElem?_append_left (by simp; omega)]; simp [hk]
theorem visL_1 {L : List Int} {m : Nat} (hm : L.length = m + 1) (bub : Bool) : (visL L bub)[m]? = some (L.getD m 0, 2, true) := by unfold visL; rw [hm, List.getElem?_append_right (by simp)]; simp
theorem visL_2 {L : List Int} {m : Nat} (hm : L.length = m + 1) (bub : Bool) : (visL L bub)[m + 1]? = some (L.getD m 0, 2, false) := by unfold visL; rw [hm, List.getElem?_append_right (by simp)]; simp
theorem visL_3 {L : List Int} {m : Nat} (hm : L.length = m + 1) : ∀ j, j < m → (visL L true)[m + 2 + j]? = some (L.getD (m - 1 - j) 0, 3, false) := fun j hj => by
  unfold visL
  rw [hm, List.getElem?_append_right (by simp; omega), List.getElem?_append_right (by simp; omega)]
  simp [show m + 2 + j - m - 2 = j by omega, hj]
theorem visL_n {L : List Int} {m : Nat} (hm : L.length = m + 1) (bub : Bool) : (visL L bub).length = m + 2 + (if bub then m else 0) := by unfold visL; rw [hm]; cases bub <;> simp <;> omega
theorem ints_at2 {w : World} {B : Nat} {b o : Nat} {l : List Int} (h : IntsAt w B (some ⟨b, o, none⟩) l) {i : Nat} (hi : i < l.length) : w.cell? ⟨b, o + i, none⟩ = some (.int .i64 l[i]) := by
  obtain ⟨b', o', e, hb, hc⟩ := h.at_ hi
  cases e
  exact hc
set_option maxRecDepth 100000 in
set_option maxHeartbeats 1000000 in
theorem rCallsOk_c (A : Option Addr) (c : Nat) (l : List GNode) (hr : RightP l) (t : Int) (ht : Is l t) (Al : Option Addr) (ca : Nat) (all : List Lis) (hal : all.length ≤ 1000) (kind : ByteArray) (bub : Bool) (w : World) (B : Nat) (hB : B ≤ w.heap.size) (hs : ∀ n ∈ l, NodeSmall reachBytes n) (h : NodesAt w B A l) (hl : LisAt w B Al all) :
    Calls Try.prog 26 #[.slice A l.length c, .slice Al all.length ca, .int .i64 t, .string kind, .bool bub] w fun e w' => ∃ v L, e = .returned v ∧ PathP l t L ∧ OwnCalls w' w.heap.size v (callsL all kind (visL L bub)) ∧ Below w.heap.size w w' := by
  obtain ⟨⟨_, h400, _⟩, _⟩ := id hr
  have HT := Lib.hid ht
  have HPS := Lib.hid (fun L (hp : PathP l t L) => path_size hr ht hp)
  have HPL := Lib.hid (fun L (hp : PathP l t L) => path_last ht hp)
  have HRP := Lib.hid (rPathOk_c A c l hr t ht w B hB hs h)
  obtain ⟨ii, ii0, iiz, ii1, ii2⟩ := info_parts info_call
  clear ht h
  go_enter Try.func26, Try.ntmps26
  go_wp2_with (go_at_call 23; refine HRP.out.mono ?_; clear HRP; rintro e w1 ⟨vL, L, rfl, hp, hoL, hb1⟩; obtain ⟨TL, cL, rfl⟩ := owns_slice hoL; obtain ⟨m, hm, hlast⟩ := HPL.out L hp; have hP := hoL.ints; obtain ⟨bL, oL, rfl, hbL, -⟩ := hP.at_ (i := 0) (by omega); clear hoL; rw [hm])
  have hsz := HPS.out L hp
  have HPP := Lib.hid hp
  have hm1 : m ≤ 400 := by omega
  have HBD := Lib.hid (fun k => callsL_bd (L := L) (by omega) hal kind bub k)
  have HS := Lib.hid (fun k v (h : (visL L bub)[k]? = some v) => callsL_succ (all := all) (kind := kind) h)
  have HV0 := Lib.hid (visL_0 hm bub)
  have HV1 := Lib.hid (visL_1 hm bub)
  have HV2 := Lib.hid (visL_2 hm bub)
  have HV3 := Lib.hid (visL_3 hm)
  have HVN := Lib.hid (visL_n hm bub)
  have HM := Lib.hid hm
  have HB1 := Lib.hid hb1
  have hs1 := hb1.size
  have hl1 : LisAt w1 B Al all := hl.below (hb1.mono hB)
  have HHL := Lib.hid (fun v => hits_len all kind v all.length)
  clear hl hp hsz hm hb1 HPS HPL
  go_loopw [11, 14] (fun v iv wr => Below w1.heap.size w1 wr ∧ ∃ i : Nat, i ≤ m ∧ iv = .int .i64 i ∧ OwnCalls wr w1.heap.size v (callsL all kind ((visL L bub).take i))) (fun _ iv _ => m - (intOf iv).toNat)
  case atStart => exact ⟨Below.refl _ _, 0, by omega, rfl, World.ownsRow_nil _ _ _ _⟩
  case round =>
    obtain ⟨hbw, i, hi, rfl, hown⟩ := hrel
    have hzw := hbw.size
    by_cases hlt : i < m
    · have hc := ints_at2 (hP.below hbw) (i := i) (by rw [HM.out]; omega)
      have HX := Lib.hid (HS.out i _ (HV0.out i hlt))
      rw [show L[i]'(by rw [HM.out]; omega) = L.getD i 0 by simp [List.getD, show i < L.length by rw [HM.out]; omega]] at hc
      have hbd := HBD.out i
      generalize L.getD i 0 = x at hc HX
      generalize callsL all kind ((visL L bub).take i) = cs at hown hbd HX
      have hh := HHL.out (x, 1, true)
      obtain ⟨Tn, cn, rfl⟩ := owns_slice hown
      have k0 : (0 : Int) ≤ (i : Int) := by omega
      have k1 : (i : Int) < (m : Int) + 1 := by omega
      go_wp2_with (first | (go_at_call 57; refine (at_c _ ca all hal x 1 kind true wr B (by omega) (hl1.below (hbw.mono (by omega)))).mono ?_; generalize hits all kind (x, 1, true) all.length = hs2 at hh HX; rintro e w2 ⟨v2, rfl, ho2, hb2⟩; obtain ⟨T2, c2, rfl⟩ := owns_slice ho2; have hzb := hb2.size) | (at_builtin; refine wpList_append_src rfl (.tmp 27) (.tmp 34) 34 rfl w1.heap.size 39 ii _ 3 24 Try.underlying34 ii0 iiz ii1 ii2 rfl (by decide) (.slice Tn cs.length cn) cs.length (callCells cs) rfl (hown.below hb2) T2 hs2.length c2 (callCells hs2) rfl (callCells_length _) (news_of_owns ho2) (callCells_one _) (by simp only [maxLen]; omega) (by omega) (by omega) ?_; intro T9 c9 w9 hown9 hg9 hat9))
      go_roundw
      case rel => exact ⟨((hbw.trans (hb2.mono hzw)).grown hg9 (by omega) (fun g e => (hown.lt g e).1)), i + 1, by omega, by go_num, by rw [HX.out]; exact owns_calls_append hown9⟩
      case measure => simp [intOf]; omega
    · obtain rfl : i = m := by omega
      have HX := Lib.hid (HS.out i _ HV1.out)
      have HX2 := Lib.hid (HS.out (i + 1) _ HV2.out)
      rw [hlast] at HX HX2
      have hbd := HBD.out i
      have hbd2 := HBD.out (i + 1)
      generalize callsL all kind ((visL L bub).take i) = cs at hown hbd HX
      generalize callsL all kind ((visL L bub).take (i + 1)) = cs1 at hbd2 HX HX2
      have hh := HHL.out (t, 2, true)
      have hh2 := HHL.out (t, 2, false)
      obtain ⟨Tn, cn, rfl⟩ := owns_slice hown
      have kp : (0 : Int) < (i : Int) + 1 := by omega
      go_wp2_with (first | (have hq9 := hb3; clear hq9; at_builtin; refine wpList_append_src rfl (.tmp 44) (.tmp 48) 34 rfl w1.heap.size 39 ii _ 3 24 Try.underlying34 ii0 iiz ii1 ii2 rfl (by decide) (.slice T9 cs1.length c9) cs1.length (callCells cs1) rfl (ho9.below hb3) T3 hs3.length c3 (callCells hs3) rfl (callCells_length _) (news_of_owns ho3) (callCells_one _) (by simp only [maxLen]; omega) (by omega) (by omega) ?_; intro T10 c10 w10 hown10 hg10 hat10; have hbw10 : Below w1.heap.size w1 w10 := ((hbw9.trans (hb3.mono hzw9)).grown hg10 (by omega) (fun g e => (ho9.lt g e).1)); have ho10 := owns_calls_append hown10; rw [← HX2.out] at ho10; clear hown10 hg10 hat10) | (have hq9 := ho9; go_at_call 57; refine (at_c _ ca all hal t 2 kind false w9 B (by omega) (hl1.below (hbw9.mono (by omega)))).mono ?_; generalize hits all kind (t, 2, false) all.length = hs3 at hh2 HX2; clear hq9; rintro e w3 ⟨v3, rfl, ho3, hb3⟩; obtain ⟨T3, c3, rfl⟩ := owns_slice ho3; have hzb3 := hb3.size) | (at_builtin; refine wpList_append_src rfl (.tmp 38) (.tmp 42) 34 rfl w1.heap.size 39 ii _ 3 24 Try.underlying34 ii0 iiz ii1 ii2 rfl (by decide) (.slice Tn cs.length cn) cs.length (callCells cs) rfl (hown.below hb2) T2 hs2.length c2 (callCells hs2) rfl (callCells_length _) (news_of_owns ho2) (callCells_one _) (by simp only [maxLen]; omega) (by omega) (by omega) ?_; intro T9 c9 w9 hown9 hg9 hat9; have hbw9 : Below w1.heap.size w1 w9 := ((hbw.trans (hb2.mono hzw)).grown hg9 (by omega) (fun g e => (hown.lt g e).1)); have hzw9 := hbw9.size; have ho9 := owns_calls_append hown9; rw [← List.length_append]; rw [← List.length_append] at ho9; rw [← HX.out] at ho9 ⊢; clear hown9 hg9 hat9) | (go_at_call 57; refine (at_c _ ca all hal t 2 kind true wr B (by omega) (hl1.below (hbw.mono (by omega)))).mono ?_; generalize hits all kind (t, 2, true) all.length = hs2 at hh HX; rintro e w2 ⟨v2, rfl, ho2, hb2⟩; obtain ⟨T2, c2, rfl⟩ := owns_slice ho2; have hzb := hb2.size))
      clear hbw hown ho2 hb2 hbw9 ho9 ho3 hb3 HX HX2
      go_loopw [11, 15] (fun v iv wx => Below w1.heap.size w1 wx ∧ ∃ j : Int, iv = .int .i64 j ∧ -1 ≤ j ∧ j < i ∧ OwnCalls wx w1.heap.size v (callsL all kind ((visL L bub).take (i + 2 + ((i : Int) - 1 - j).toNat)))) (fun _ iv _ => (intOf iv + 1).toNat)
      case atStart => exact ⟨hbw10, _, rfl, by omega, by omega, by rw [show i + 2 + ((i : Int) - 1 - ((i : Int) + 1 - 2)).toNat = i + 1 + 1 by omega]; exact ho10⟩
      case round =>
        obtain ⟨hbx, j, rfl, hj1, hj2, hox⟩ := hrel
        have hzx := hbx.size
        cases bub with
        | false =>
          rw [List.take_of_length_le (by rw [HVN.out]; simp)] at hox
          by_cases hj : 0 ≤ j
          · go_wp2_with fail
            go_ret
            exact ⟨_, L, rfl, HPP.out, owns_baseMono hox hs1, HB1.out.trans (hbx.mono hs1)⟩
          · go_wp2_with fail
            go_ret
            exact ⟨_, rfl, L, HPP.out, owns_baseMono hox hs1, HB1.out.trans (hbx.mono hs1)⟩
        | true =>
          by_cases hj : 0 ≤ j
          · obtain ⟨q, rfl⟩ : ∃ q : Nat, j = q := ⟨j.toNat, by omega⟩
            rw [show i + 2 + ((i : Int) - 1 - (q : Int)).toNat = i + 2 + (i - 1 - q) by omega] at hox
            have hc := ints_at2 (hP.below hbx) (i := q) (by rw [HM.out]; omega)
            have HX := Lib.hid (HS.out (i + 2 + (i - 1 - q)) _ (HV3.out (i - 1 - q) (by omega)))
            rw [show i - 1 - (i - 1 - q) = q by omega] at HX
            rw [show L[q]'(by rw [HM.out]; omega) = L.getD q 0 by simp [List.getD, show q < L.length by rw [HM.out]; omega]] at hc
            have hbd := HBD.out (i + 2 + (i - 1 - q))
            generalize L.getD q 0 = x at hc HX
            generalize callsL all kind ((visL L true).take (i + 2 + (i - 1 - q))) = cs at hox hbd HX
            have hh := HHL.out (x, 3, false)
            obtain ⟨Tn, cn, rfl⟩ := owns_slice hox
            have k1 : (q : Int) < (i : Int) + 1 := by omega
            go_wp2_with (first | (go_at_call 57; refine (at_c _ ca all hal x 3 kind false wr B (by omega) (hl1.below (hbx.mono (by omega)))).mono ?_; generalize hits all kind (x, 3, false) all.length = hs2 at hh HX; rintro e w2 ⟨v2, rfl, ho2, hb2⟩; obtain ⟨T2, c2, rfl⟩ := owns_slice ho2; have hzb := hb2.size) | (at_builtin; refine wpList_append_src rfl (.tmp 59) (.tmp 66) 34 rfl w1.heap.size 39 ii _ 3 24 Try.underlying34 ii0 iiz ii1 ii2 rfl (by decide) (.slice Tn cs.length cn) cs.length (callCells cs) rfl (hox.below hb2) T2 hs2.length c2 (callCells hs2) rfl (callCells_length _) (news_of_owns ho2) (callCells_one _) (by simp only [maxLen]; omega) (by omega) (by omega) ?_; intro T9 c9 w9 hown9 hg9 hat9))
            go_roundw
            case rel => exact ⟨((hbx.trans (hb2.mono hzx)).grown hg9 (by omega) (fun g e => (hox.lt g e).1)), (q : Int) - 1, rfl, by omega, by omega, by rw [show i + 2 + ((i : Int) - 1 - ((q : Int) - 1)).toNat = i + 2 + (i - 1 - q) + 1 by omega, HX.out]; exact owns_calls_append hown9⟩
            case measure => simp [intOf]
          · obtain rfl : j = -1 := by omega
            rw [List.take_of_length_le (by rw [HVN.out]; simp)] at hox
            go_wp2_with fail
            go_ret
            exact ⟨_, rfl, L, HPP.out, owns_baseMono hox hs1, HB1.out.trans (hbx.mono hs1)⟩
theorem rCallsNo_c (A : Option Addr) (c : Nat) (l : List GNode) (t : Int) (hn : hasB l t = false) (Al : Option Addr) (ca : Nat) (n : Nat) (kind : ByteArray) (bub : Bool) (w : World) (B : Nat) (hB : B ≤ w.heap.size) (hll : l.length ≤ 4611686018427387904) (hs : ∀ n ∈ l, NodeSmall reachBytes n) (h : NodesAt w B A l) :
    Calls Try.prog 26 #[.slice A l.length c, .slice Al n ca, .int .i64 t, .string kind, .bool bub] w fun e w' => e = .returned (.slice none 0 0) ∧ Below w.heap.size w w' := by
  go_enter Try.func26, Try.ntmps26
  go_wp2_with (go_at_call 23; refine (rPathNo_c A c l t hn w B hB hll hs h).mono ?_; rintro e w1 ⟨rfl, hb1⟩)
  go_loopw [11, 14] (fun v iv wr => v = .slice none 0 0 ∧ iv = .int .i64 0 ∧ wr = w1) (fun _ _ _ => 0)
  case atStart => exact ⟨rfl, rfl, rfl⟩
  case round =>
    obtain ⟨rfl, rfl, rfl⟩ := hrel
    go_wp2_with fail
    go_loopw [11, 15] (fun v iv wx => v = .slice none 0 0 ∧ iv = .int .i64 (-2) ∧ wx = wr) (fun _ _ _ => 0)
    case atStart => exact ⟨rfl, rfl, rfl⟩
    case round =>
      obtain ⟨rfl, rfl, rfl⟩ := hrel
      go_wp2_with fail
      go_ret
      exact ⟨rfl, hb1⟩
end Go.Proofs.Ytpgcaehbbdnhiaa

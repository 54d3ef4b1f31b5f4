/- The law EventMore, walked. -/
import Derived.Test.YtpgcaehbbdnhiaaEC
import Derived.Deep.RegionHeld3
namespace Go.Proofs.Ytpgcaehbbdnhiaa
open Go.RowKit
/-- the listeners for nodes that are not on the way, the first k nodes gone through -/
def extra (L : List Int) (kind : ByteArray) (k : Nat) : List Lis := ((List.range k).filter fun (i : Nat) => !(L.any fun x => x == (i : Int)) && decide (i < 50)).map fun (i : Nat) => ⟨(i : Int), kind, false, (none, 0, 0)⟩
theorem extra_len (L : List Int) (kind : ByteArray) (k : Nat) : (extra L kind k).length ≤ 50 := by
  unfold extra
  rw [List.length_map]
  have h1 : ((List.range k).filter fun (i : Nat) => !(L.any fun x => x == (i : Int)) && decide (i < 50)).length ≤ ((List.range k).filter fun (i : Nat) => decide (i < 50)).length := by
    rw [← List.countP_eq_length_filter, ← List.countP_eq_length_filter]
    refine List.countP_mono_left fun x _ h => ?_
    rw [Bool.and_eq_true] at h
    exact h.2
  have h2 : ∀ k, ((List.range k).filter fun (i : Nat) => decide (i < 50)).length ≤ min k 50 := by
    intro k
    induction k with
    | zero => simp
    | succ k ih =>
      rw [List.range_succ, List.filter_append, List.length_append]
      by_cases hk : k < 50
      · simp [hk]; omega
      · simp [hk]; omega
  have := h2 k
  omega
theorem extra_yes {L : List Int} {kind : ByteArray} {k : Nat} (h : (L.any fun x => x == (k : Int)) = false) (hk : k < 50) : extra L kind (k + 1) = extra L kind k ++ [⟨(k : Int), kind, false, (none, 0, 0)⟩] := by
  unfold extra
  rw [List.range_succ, List.filter_append, List.map_append]
  congr 1
  rw [List.filter_cons_of_pos (by simp [h, hk])]
  rfl
theorem extra_no {L : List Int} {kind : ByteArray} {k : Nat} (h : (L.any fun x => x == (k : Int)) = true ∨ 50 ≤ k) : extra L kind (k + 1) = extra L kind k := by
  unfold extra
  rw [List.range_succ, List.filter_append, List.map_append, List.filter_cons_of_neg, List.filter_nil, List.map_nil, List.append_nil]
  rcases h with h | h
  · simp [h]
  · simp; omega
theorem more_same {l : List GNode} {t : Int} {L : List Int} (ht : Is l t) (hp : PathP l t L) (all : List Lis) (kind kx : ByteArray) (hkx : kx.toList ≠ kind.toList) (bub : Bool) (k : Nat) :
    callsL (all ++ extra L kind k ++ [⟨t, kx, false, (none, 0, 0)⟩]) kind (visL L bub) = callsL all kind (visL L bub) := by
  obtain ⟨m, hm, -⟩ := path_last ht hp
  rw [List.append_assoc]
  refine calls_more fun v hv x hx => ?_
  have hvL := visL_node hm hv
  rw [List.mem_append] at hx
  rcases hx with hx | hx
  · unfold extra at hx
    obtain ⟨i, hi, rfl⟩ := List.mem_map.1 hx
    rw [List.mem_filter, Bool.and_eq_true] at hi
    have h1 : (L.any fun x => x == (i : Int)) = false := by simpa using hi.2.1
    have hne : ((i : Int) == v.1) = false := by
      rw [beq_eq_false_iff_ne]
      intro e
      rw [List.any_eq_false] at h1
      have := h1 _ hvL
      rw [← e] at this
      simp at this
    unfold fitB
    simp only [hne, Bool.false_and]
  · rw [List.mem_singleton] at hx
    subst hx
    have hne : (kx.toList == kind.toList) = false := by simpa using hkx
    unfold fitB
    simp only [hne, Bool.false_and, Bool.and_false]
theorem any_take {L : List Int} {k : Int} {j : Nat} (hj : j < L.length) : ((L.take (j + 1)).any fun x => x == k) = ((L.take j).any (fun x => x == k) || L[j] == k) := by
  rw [List.take_succ_eq_append_getElem hj, List.any_append]
  simp
theorem path_ex {l : List GNode} (hr : RightP l) {t : Int} (ht : Is l t) : ∃ L, PathP l t L := by
  have key : ∀ n, climb l n t < 0 → ∃ j, climb l j t < 0 ∧ ∀ m, m < j → 0 ≤ climb l m t := by
    intro n
    induction n using Nat.strongRecOn with
    | _ n ih =>
      intro hn
      by_cases h : ∃ m, m < n ∧ climb l m t < 0
      · obtain ⟨m, hm, h0⟩ := h
        exact ih m hm h0
      · refine ⟨n, hn, fun m hm => ?_⟩
        by_cases h0 : climb l m t < 0
        · exact absurd ⟨m, hm, h0⟩ h
        · omega
  obtain ⟨j, h1, h2⟩ := key _ (right_climb hr ht.2)
  exact ⟨_, j, rfl, h1, h2⟩
/-- a slice of listeners of the call's own -/
def OwnLis (w : World) (base : Nat) (v : Value) (l : List Lis) : Prop := w.ownsRow base 42 4 v l.length (lisCells l)
theorem OwnLis.kept {w w' : World} {base : Nat} {v : Value} {l : List Lis} (h : OwnLis w base v l) (hg : w.grownBy w' none) : OwnLis w' base v l := World.ownsRow.kept h hg (by cases v.ownBlock <;> simp)
theorem OwnLis.below {w w' : World} {base : Nat} {v : Value} {l : List Lis} (h : OwnLis w base v l) (hb : Below w.heap.size w w') : OwnLis w' base v l := h.kept (grown_of_below hb)
theorem owns_lis_append {w : World} {base n : Nat} {T : Option Addr} {c : Nat} {a b : List Lis} (hn : n = a.length + b.length) (h : w.ownsRow base 42 4 (.slice T n c) n (lisCells a ++ lisCells b)) : OwnLis w base (.slice T n c) (a ++ b) := by
  unfold OwnLis
  rw [List.length_append, ← lisCells_append, ← hn]
  exact h
def kindX (kind : ByteArray) : ByteArray := kind ++ ⟨#[120]⟩
/-- what the walk leans on -/
structure MoreIn (w : World) (A : Option Addr) (l : List GNode) (c : Nat) (all : List Lis) (t : Int) (kind : ByteArray) (bub : Bool) (L : List Int) (R : List GCall) : Prop where
  len : L.length ≤ 401
  rlen : R.length ≤ 1000000
  path : ∀ W, Below w.heap.size w W → Calls Try.prog 23 #[.slice A l.length c, .int .i64 t] W fun e w' => ∃ T c', e = .returned (.slice T L.length c') ∧ IntsAt w' w'.heap.size T L ∧ Below W.heap.size W w'
  calls : ∀ W A2 c2 T c' (own : List Lis), (own = all ∨ own = all ++ extra L kind l.length ++ [⟨t, kindX kind, false, (none, 0, 0)⟩]) → NodesAt W W.heap.size A2 l → LisAt W W.heap.size T own →
    Calls Try.prog 25 #[.slice A2 l.length c2, .slice T own.length c', .int .i64 t, .string kind, .bool bub] W fun e w' => ∃ T' c'', e = .returned (.slice T' R.length c'') ∧ CallsAt w' w'.heap.size T' R ∧ Below W.heap.size W w'
set_option maxRecDepth 100000 in
set_option maxHeartbeats 1000000 in
theorem more_w (A : Option Addr) (l : List GNode) (c : Nat) (Al : Option Addr) (all : List Lis) (ca : Nat) (t : Int) (kind : ByteArray) (bub : Bool) (L : List Int) (R : List GCall) (w : World) (h : NodesAt w w.heap.size A l) (hs : ∀ n ∈ l, NodeSmall reachBytes n) (hln : l.length * 88 ≤ reachBytes) (hl : LisAt w w.heap.size Al all) (hks : kind.size ≤ reachBytes) (hbig : ¬ 100 < all.length) (HM : Hid (MoreIn w A l c all t kind bub L R)) :
    Calls Try.prog 7 #[.slice A l.length c, .slice Al all.length ca, .agg #[.int .i64 t, .string kind, .bool bub]] w fun e w' => e = .returned (.bool true) ∧ Below w.heap.size w w' := by
  have hll : l.length ≤ 4611686018427387904 := by unfold reachBytes at hln; omega
  have hbig' : decide ((100 : Int) < (all.length : Int)) = false := decide_eq_false (by omega)
  obtain ⟨il, il0, ilz, il1, il2⟩ := info_parts info_lis
  have hLl := HM.out.len
  have HS := Lib.hid hs
  clear hs
  go_enter Try.func7, Try.ntmps7
  go_wp2_with (first | (go_at_call 19; refine (wakes23_c _).mono ?_; rintro e w1 ⟨rfl, hb1⟩; rw [World.size_alloc] at hb1; have hwb : Below w.heap.size w (w.alloc (.cells #[.int .i64 t, .string kind, .bool bub] 32)) := (Below.refl _ w).alloc (Nat.le_refl _) _; have hbx := BoxAt.made w 32 #[.int .i64 t, .string kind, .bool bub]; have hwz : (w.alloc (.cells #[.int .i64 t, .string kind, .bool bub] 32)).heap.size = w.heap.size + 1 := (by simp); generalize w.alloc (.cells #[.int .i64 t, .string kind, .bool bub] 32) = wb at hb1 hwb hbx hwz; have hsw := hb1.size; have he : (w1.alloc (.cells #[] 42)).heap[w1.heap.size]? = some (.cells #[] 42 (0, 0)) := heap_alloc_new w1 _; have hk1 : Below (w.heap.size + 1) wb (w1.alloc (.cells #[] 42)) := hb1.alloc (by omega) _; have hl9 := (hl.below (hwb.trans (hk1.mono (Nat.le_succ _)))).news) | (at_builtin; refine wpList_append_src rfl (.tmp 17) (.tmp 18) 30 rfl (w.heap.size + 1) 42 il _ 4 56 Try.underlying30 il0 ilz il1 il2 rfl (by decide) (.slice (some ⟨w1.heap.size, 0, none⟩) 0 0) 0 [] rfl (row_none he (by omega)) Al all.length ca (lisCells all) rfl (lisCells_length _) hl9 (lisCells_one _) (by simp only [maxLen]; omega) (by omega) (by simp; omega) ?_; intro T9 c9 w9 hown9 hg9 hat9; rw [Nat.zero_add, List.nil_append] at hown9; rw [Nat.zero_add]; have hk9 : Below (w.heap.size + 1) wb w9 := hk1.grown hg9 (by simp; omega) (fun j e => by obtain rfl : w1.heap.size = j := (by cases e; rfl); omega)))
  have HBX := Lib.hid (fun (W : World) (hk : Below (w.heap.size + 1) wb W) => (show W.cell? ⟨w.heap.size, 0, none⟩ = some (.int .i64 t) ∧ W.cell? ⟨w.heap.size, 1, none⟩ = some (.string kind) ∧ W.cell? ⟨w.heap.size, 2, none⟩ = some (.bool bub) from ⟨(hk.cell (p := ⟨w.heap.size, 0, none⟩) (Nat.lt_succ_self _)).trans (hbx.cell (j := 0) rfl), (hk.cell (p := ⟨w.heap.size, 1, none⟩) (Nat.lt_succ_self _)).trans (hbx.cell (j := 1) rfl), (hk.cell (p := ⟨w.heap.size, 2, none⟩) (Nat.lt_succ_self _)).trans (hbx.cell (j := 2) rfl)⟩))
  have hown0 : OwnLis w9 (w.heap.size + 1) (.slice T9 all.length c9) (all ++ extra L kind 0) := by
    have e0 : extra L kind 0 = [] := rfl
    rw [e0, List.append_nil]
    exact hown9
  have HO0 := Lib.hid hown0
  have HL := Lib.hid hl
  clear hown0 hown9 hg9 hat9 hk1 hl9 he hbx hb1 hl
  go_loopw [7, 8, 9, 22] (fun v _ _ iv wr => Below (w.heap.size + 1) wb wr ∧ ∃ k : Nat, k ≤ l.length ∧ iv = .int .i64 k ∧ OwnLis wr (w.heap.size + 1) v (all ++ extra L kind k)) (fun _ _ _ iv _ => l.length - (intOf iv).toNat)
  case atStart => exact ⟨hk9, 0, by omega, rfl, HO0.out⟩
  case round =>
    obtain ⟨hk, k, hkl, rfl, hown⟩ := hrel
    have hcr := hwb.trans (hk.mono (Nat.le_succ _))
    have hkz := hk.size
    by_cases hlt : k < l.length
    · have HP := Lib.hid (HM.out.path wr hcr)
      obtain ⟨b0, b1, b2⟩ := HBX.out _ hk
      have HY := Lib.hid (fun (h : (L.any fun x => x == (k : Int)) = false) (hk : k < 50) => show all ++ extra L kind (k + 1) = (all ++ extra L kind k) ++ [⟨(k : Int), kind, false, (none, 0, 0)⟩] by rw [extra_yes h hk, List.append_assoc])
      have HN := Lib.hid (fun (h : (L.any fun x => x == (k : Int)) = true ∨ 50 ≤ k) => show all ++ extra L kind (k + 1) = all ++ extra L kind k by rw [extra_no h])
      have hll2 : (all ++ extra L kind k).length ≤ 150 := by have := extra_len L kind k; rw [List.length_append]; omega
      generalize all ++ extra L kind k = F at hown HY HN hll2
      have HOWN := Lib.hid hown
      obtain ⟨Tn, cn, rfl⟩ := owns_slice hown
      clear hown
      have k0 : (0 : Int) ≤ (k : Int) := by omega
      have k1 : (k : Int) < (l.length : Int) := by omega
      go_wp2_with (go_at_call 23; refine HP.out.mono ?_; clear HP; rintro e w2 ⟨T2, c2, rfl, hi2, hb2⟩)
      have hk2 := hk.trans (hb2.mono (by omega))
      obtain ⟨b0, b1, b2⟩ := HBX.out _ hk2
      have hown2 := HOWN.out.below hb2
      have HO2 := Lib.hid hown2
      clear hown2 HOWN hb2
      go_loopw [9, 11, 30] (fun on _ jv wx => wx = w2 ∧ ∃ j : Nat, j ≤ L.length ∧ jv = .int .i64 j ∧ on = .bool ((L.take j).any fun x => x == (k : Int))) (fun _ _ jv _ => L.length - (intOf jv).toNat)
      case atStart => exact ⟨rfl, 0, by omega, rfl, by simp⟩
      case round =>
        obtain ⟨hwx, j, hj, rfl, rfl⟩ := hrel
        subst hwx
        by_cases hjl : j < L.length
        · obtain ⟨bP, oP, rfl, hbP, hcP⟩ := hi2.at_ hjl
          have HA := Lib.hid (any_take (k := (k : Int)) hjl)
          generalize (L.take j).any (fun x => x == (k : Int)) = B1 at HA ⊢
          generalize L[j] = x at hcP HA
          have j0 : (0 : Int) ≤ (j : Int) := by omega
          have j1 : (j : Int) < (L.length : Int) := by omega
          cases B1 with
          | true =>
            go_wp2_with fail
            go_roundw
            case rel => exact ⟨trivial, j + 1, by omega, by go_num, by rw [HA.out]; rfl⟩
            case measure => simp [intOf]; omega
          | false =>
            go_wp2_with fail
            go_roundw
            case rel => exact ⟨trivial, j + 1, by omega, by go_num, by rw [HA.out]; rfl⟩
            case measure => simp [intOf]; omega
        · obtain rfl : j = L.length := by omega
          rw [List.take_length]
          cases hon : (L.any fun x => x == (k : Int)) with
          | true =>
            have HR := Lib.hid (HN.out (.inl hon))
            go_wp2_with fail
            go_roundw
            case rel => exact ⟨hk2, k + 1, by omega, by go_num, by rw [HR.out]; exact HO2.out⟩
            case measure => simp [intOf]; omega
          | false =>
            by_cases h50 : k < 50
            · have HR := Lib.hid (HY.out hon h50)
              have h50' : (k : Int) < 50 := by omega
              have hz2 := hk2.size
              go_wp2_with (at_builtin; refine wpList_append_src rfl (.tmp 47) (.tmp 52) 30 rfl (w.heap.size + 1) 42 il _ 4 56 Try.underlying30 il0 ilz il1 il2 rfl (by decide) (.slice Tn F.length cn) F.length (lisCells F) rfl (World.ownsRow.alloc HO2.out _) (some ⟨_, 0, none⟩) 1 1 [.int .i64 k, .string kind, .bool false, .slice none 0 0] rfl rfl (fun _ => ⟨_, rfl, World.news_of_block (heap_alloc_new _ _)⟩) (by simp [Value.oneCell']) (by simp only [maxLen]; omega) (by omega) (by simp; omega) ?_; intro T9 c9 w9 hown9 hg9 hat9)
              go_roundw
              case rel => exact ⟨(hk2.alloc (by omega) _).grown hg9 (by simp; omega) (fun g e => (HO2.out.lt g e).1), k + 1, by omega, by go_num, by rw [HR.out]; exact owns_lis_append rfl hown9⟩
              case measure => simp [intOf]; omega
            · have HR := Lib.hid (HN.out (.inr (by omega)))
              have h50' : decide ((k : Int) < 50) = false := decide_eq_false (by omega)
              go_wp2_with fail
              go_roundw
              case rel => exact ⟨hk2, k + 1, by omega, by go_num, by rw [HR.out]; exact HO2.out⟩
              case measure => simp [intOf]; omega
    · obtain rfl : k = l.length := by omega
      obtain ⟨b0, b1, b2⟩ := HBX.out _ hk
      have hel := extra_len L kind l.length
      have HOWN := Lib.hid hown
      have hll2 : (all ++ extra L kind l.length).length ≤ 150 := by rw [List.length_append]; omega
      generalize hall : all ++ extra L kind l.length = F at hown HOWN hll2
      obtain ⟨Tn, cn, rfl⟩ := owns_slice hown
      clear hown
      have hks2 : kind.size ≤ 140737488355328 := by unfold reachBytes at hks; omega
      have HFX := Lib.hid (show F ++ [⟨t, kindX kind, false, (none, 0, 0)⟩] = all ++ extra L kind l.length ++ [⟨t, kindX kind, false, (none, 0, 0)⟩] by rw [hall])
      clear hall
      go_wp2_with (at_builtin; refine wpList_append_src rfl (.tmp 55) (.tmp 62) 30 rfl (w.heap.size + 1) 42 il _ 4 56 Try.underlying30 il0 ilz il1 il2 rfl (by decide) (.slice Tn F.length cn) F.length (lisCells F) rfl (World.ownsRow.alloc HOWN.out _) (some ⟨_, 0, none⟩) 1 1 [.int .i64 t, .string (kindX kind), .bool false, .slice none 0 0] rfl rfl (fun _ => ⟨_, rfl, World.news_of_block (heap_alloc_new _ _)⟩) (by simp [Value.oneCell']) (by simp only [maxLen]; omega) (by omega) (by simp; omega) ?_; intro T8 c8 w8 hown8 hg8 hat8; have hk8 : Below (w.heap.size + 1) wb w8 := (hk.alloc (by omega) _).grown hg8 (by simp; omega) (fun g e => (HOWN.out.lt g e).1))
      have hz8 : LisAt w8 w8.heap.size T8 (F ++ [⟨t, kindX kind, false, (none, 0, 0)⟩]) := by
        have h1 := owns_lis_append (a := F) (b := [⟨t, kindX kind, false, (none, 0, 0)⟩]) rfl hown8
        unfold OwnLis at h1
        rw [List.length_append] at h1
        exact lis_of_owns (l := F ++ [⟨t, kindX kind, false, (none, 0, 0)⟩]) (by rw [List.length_append]; exact h1)
      have HC1 := Lib.hid (fun W A2 c2 T c' hn hz => show Calls Try.prog 25 #[.slice A2 l.length c2, .slice T (F.length + 1) c', .int .i64 t, .string kind, .bool bub] W fun e w' => ∃ T' c'', e = .returned (.slice T' R.length c'') ∧ CallsAt w' w'.heap.size T' R ∧ Below W.heap.size W w' by
        have := HM.out.calls W A2 c2 T c' (F ++ [⟨t, kindX kind, false, (none, 0, 0)⟩]) (.inr HFX.out) hn hz
        rw [List.length_append] at this
        exact this)
      have hkD := hk8.drew
      have hcD := hwb.trans (hkD.mono (Nat.le_succ _))
      have hRl := HM.out.rlen
      obtain ⟨b0, b1, b2⟩ := HBX.out _ hk8
      clear hown8 hg8 hat8 HOWN HFX
      go_region_held3 (fun w' => w'.cell? ⟨w.heap.size, 0, none⟩ = some (.int .i64 t) ∧ w'.cell? ⟨w.heap.size, 1, none⟩ = some (.string kind) ∧ w'.cell? ⟨w.heap.size, 2, none⟩ = some (.bool bub)) (go_keep) (first | (have hx := hq6; clear hx; go_at_call 24; refine (CallsSame_c T4 c4 T6 c6 R w6 _ (by omega) ((hq5.below hb6).mono hb6.size) hq6).mono ?_; rintro e w7 ⟨rfl, m7, rfl⟩; have hk7 : Below (w.heap.size + 1) wb (w6.drewN m7) := Below.drewN_ hk6 _; obtain ⟨b0, b1, b2⟩ := HBX.out _ hk7; have hc7 := hwb.trans (hk7.mono (Nat.le_succ _))) | (have hx := hn5; clear hx; go_at_call 25; refine (HM.out.calls w5 A5 c5 Al ca all (.inl rfl) hn5 ((HL.out.below hc5).mono hc5.size)).mono ?_; rintro e w6 ⟨T6, c6, rfl, hq6, hb6⟩; have hk6 := hk5.trans (hb6.mono (by have := hk5.size; omega)); obtain ⟨b0, b1, b2⟩ := HBX.out _ hk6; have hc6 := hwb.trans (hk6.mono (Nat.le_succ _))) | (have hx := hq4; clear hx; go_at_call 22; refine (rCopied_c A c l w4 w.heap.size hc4.size HS.out hln (h.below hc4)).mono ?_; rintro e w5 ⟨v5, rfl, hdoc5, hb5⟩; have hk5 := hk4.trans (hb5.mono (by have := hk4.size; omega)); obtain ⟨b0, b1, b2⟩ := HBX.out _ hk5; have hc5 := hwb.trans (hk5.mono (Nat.le_succ _)); obtain ⟨A5, c5, rfl, hn5, -⟩ := hdoc5.nodes; have hq5 := (hq4.below hb5).mono hb5.size) | (have hx := hn3; clear hx; go_at_call 25; refine (HC1.out w3 A3 c3 T8 c8 hn3 ((hz8.below (((Below.refl w8.heap.size w8).drew).trans hb3)).mono hb3.size)).mono ?_; rintro e w4 ⟨T4, c4, rfl, hq4, hb4⟩; have hk4 := hk3.trans (hb4.mono (by have := hk3.size; omega)); obtain ⟨b0, b1, b2⟩ := HBX.out _ hk4; have hc4 := hwb.trans (hk4.mono (Nat.le_succ _))) | (go_at_call 22; refine (rCopied_c A c l _ w.heap.size hcD.size HS.out hln (h.below hcD)).mono ?_; rintro e w3 ⟨v3, rfl, hdoc3, hb3⟩; have hk3 := hkD.trans (hb3.mono (by have := hkD.size; omega)); obtain ⟨b0, b1, b2⟩ := HBX.out _ hk3; have hc3 := hwb.trans (hk3.mono (Nat.le_succ _)); obtain ⟨A3, c3, rfl, hn3, -⟩ := hdoc3.nodes))
      all_goals go_wp2_with fail
      all_goals go_ret
      all_goals exact ⟨rfl, hc7⟩
set_option maxRecDepth 100000 in
theorem EventMore_w (a : Option Addr × List GNode × Nat) (b : Option Addr × List Lis × Nat) (q : Int × ByteArray × Bool) (w : World) (hd : DocIn w a.1 a.2.1) (hb : LisDoc w b.1 b.2.1) (hq : (Lit.int .i64 q.1).wf = true ∧ q.2.1.size ≤ reachBytes) :
    Calls Try.prog 7 #[.slice a.1 a.2.1.length a.2.2, .slice b.1 b.2.1.length b.2.2, .agg #[.int .i64 q.1, .string q.2.1, .bool q.2.2]] w fun e w' => e = .returned (.bool true) ∧ Below w.heap.size w w' := by
  obtain ⟨A, l, c⟩ := a
  obtain ⟨Al, all, ca⟩ := b
  obtain ⟨t, kind, bub⟩ := q
  dsimp only at hd hb ⊢
  obtain ⟨h, -, hs, hln⟩ := hd
  obtain ⟨hl, -⟩ := hb
  have hll : l.length ≤ 4611686018427387904 := by unfold reachBytes at hln; omega
  by_cases hbig : 100 < all.length
  · have hbig' : (100 : Int) < (all.length : Int) := by omega
    go_enter Try.func7, Try.ntmps7
    go_wp2_with (go_at_call 19; refine (wakes23_c _).mono ?_; rintro e w1 ⟨rfl, hb1⟩)
    go_ret
    exact ⟨rfl, ((Below.refl _ w).alloc (Nat.le_refl _) _).trans (hb1.mono (by simp))⟩
  have hkx : (kindX kind).toList ≠ kind.toList := by
    intro e
    have h1 := congrArg List.length e
    rw [ba_len, ba_len] at h1
    unfold kindX at h1
    rw [ByteArray.size_append] at h1
    have h2 : (⟨#[120]⟩ : ByteArray).size = 1 := rfl
    omega
  by_cases hh : hasB l t = true
  · obtain ⟨ht, hr⟩ := hasB_iff.1 hh
    obtain ⟨⟨_, h400, _⟩, _⟩ := id hr
    obtain ⟨L, hp⟩ := path_ex hr ht
    have hsz := path_size hr ht hp
    refine more_w A l c Al all ca t kind bub L (callsL all kind (visL L bub)) w h hs hln hl hq.2 hbig (Lib.hid ⟨by omega, ?_, fun W hW => ?_, fun W A2 c2 T c' own ho hn hz => ?_⟩)
    · have := callsL_bd (L := L) (by omega) (all := all) (by omega) kind bub (visL L bub).length
      rw [List.take_length] at this
      omega
    · refine (rPathOk_c A c l hr t ht W w.heap.size hW.size hs (h.below hW)).mono ?_
      rintro e w2 ⟨v, L', rfl, hp', ho, hb2⟩
      obtain rfl := path_same hp' hp
      obtain ⟨T, c', rfl⟩ := owns_slice ho
      exact ⟨T, c', rfl, ho.ints, hb2⟩
    · have hol : own.length ≤ 1000 ∧ callsL own kind (visL L bub) = callsL all kind (visL L bub) := by
        rcases ho with rfl | rfl
        · exact ⟨by omega, rfl⟩
        · refine ⟨?_, more_same ht hp all kind _ hkx bub l.length⟩
          have := extra_len L kind l.length
          rw [List.length_append, List.length_append]
          simp only [List.length_cons, List.length_nil]
          omega
      refine (CallsOk_c A2 c2 l hr t ht T c' own hol.1 kind bub W _ (Nat.le_refl _) hs hn hz).mono ?_
      rintro e w2 ⟨v, L', rfl, hp', ho2, hb2⟩
      obtain rfl := path_same hp' hp
      rw [hol.2] at ho2
      obtain ⟨T2, c2', rfl⟩ := owns_slice ho2
      exact ⟨T2, c2', rfl, calls_of_owns ho2, hb2⟩
  · have hh' : hasB l t = false := by simpa using hh
    refine more_w A l c Al all ca t kind bub [] [] w h hs hln hl hq.2 hbig (Lib.hid ⟨by simp, by simp, fun W hW => ?_, fun W A2 c2 T c' own ho hn hz => ?_⟩)
    · refine (rPathNo_c A c l t hh' W w.heap.size hW.size hll hs (h.below hW)).mono ?_
      rintro e w2 ⟨rfl, hb2⟩
      exact ⟨none, 0, rfl, fun h => absurd rfl h, hb2⟩
    · refine (CallsNo_c A2 c2 l t hh' T c' own.length kind bub W _ (Nat.le_refl _) hll hs hn).mono ?_
      rintro e w2 ⟨rfl, hb2⟩
      exact ⟨none, 0, rfl, fun h => absurd rfl h, hb2⟩
end Go.Proofs.Ytpgcaehbbdnhiaa

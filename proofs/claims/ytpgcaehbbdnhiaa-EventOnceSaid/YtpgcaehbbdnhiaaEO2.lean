/- The law EventOnce, walked: the whole. -/
import Derived.Test.YtpgcaehbbdnhiaaEO
namespace Go.Proofs.Ytpgcaehbbdnhiaa
open Go.RowKit
set_option maxRecDepth 100000 in
set_option maxHeartbeats 1000000 in
theorem EventOnce_no (A : Option Addr) (l : List GNode) (c : Nat) (Al : Option Addr) (all : List Lis) (ca : Nat) (t : Int) (kind : ByteArray) (bub : Bool) (w : World) (h : NodesAt w w.heap.size A l) (hs : ∀ n ∈ l, NodeSmall reachBytes n) (hln : l.length * 88 ≤ reachBytes) (_hl : LisAt w w.heap.size Al all) (hll : l.length ≤ 4611686018427387904) (hbig : ¬ 200 < all.length) (hbig' : decide ((200 : Int) < (all.length : Int)) = false) (hh : hasB l t = false) :
    Calls Try.prog 6 #[.slice A l.length c, .slice Al all.length ca, .agg #[.int .i64 t, .string kind, .bool bub]] w fun e w' => e = .returned (.bool true) ∧ Below w.heap.size w w' := by
  obtain ⟨ib, ib0, ibz, ib1, ib2⟩ := info_parts info_bool
  have hmk : ∀ W : World, (Instr.makeSlice 37 (.int .i64 (all.length : Int)) (.int .i64 (all.length : Int))).run Try.prog W = .ok (.slice (some ⟨W.heap.size, 0, none⟩) all.length all.length) (W.alloc (.cells (madeCells #[.bool false] all.length) 4)) := by
    intro W
    have := run_make (P := Try.prog) W 37 4 ib _ Try.underlying37 ib0 ibz .i64 .i64 (all.length : Int) (all.length : Int) (by omega) (by omega) (by rw [ib2]; omega) (by omega)
    rw [ib1] at this
    rw [show ((all.length : Int)).toNat = all.length by omega, Nat.mul_one] at this
    exact this
  have hmz : (madeCells #[Value.bool false] all.length).toList = List.replicate all.length (.bool false) := toList_madeCells_one _ _
  have hms : (madeCells #[Value.bool false] all.length).size = all.length := size_madeCells _ _
  generalize madeCells #[Value.bool false] all.length = mc at hmk hmz hms
  have HS := Lib.hid hs
  clear hs
  have HMZ := Lib.hid hmz
  clear hmz
  have HN := Lib.hid hh
  clear hh
  go_enter Try.func6, Try.ntmps6
  go_wp2_with (go_at_call 19; refine (wakes23_c _).mono ?_; rintro e w1 ⟨rfl, hb1⟩)
  rw [World.size_alloc] at hb1
  have hwb : Below w.heap.size w (w.alloc (.cells #[.int .i64 t, .string kind, .bool bub] 32)) := (Below.refl _ w).alloc (Nat.le_refl _) _
  have hbx := BoxAt.made w 32 #[.int .i64 t, .string kind, .bool bub]
  have hwz : (w.alloc (.cells #[.int .i64 t, .string kind, .bool bub] 32)).heap.size = w.heap.size + 1 := by simp
  generalize w.alloc (.cells #[.int .i64 t, .string kind, .bool bub] 32) = wb at hb1 hwb hbx hwz
  have HBX := Lib.hid (fun (W : World) (hk : Below (w.heap.size + 1) wb W) => (show W.cell? ⟨w.heap.size, 0, none⟩ = some (.int .i64 t) ∧ W.cell? ⟨w.heap.size, 1, none⟩ = some (.string kind) ∧ W.cell? ⟨w.heap.size, 2, none⟩ = some (.bool bub) from ⟨(hk.cell (p := ⟨w.heap.size, 0, none⟩) (Nat.lt_succ_self _)).trans (hbx.cell (j := 0) rfl), (hk.cell (p := ⟨w.heap.size, 1, none⟩) (Nat.lt_succ_self _)).trans (hbx.cell (j := 1) rfl), (hk.cell (p := ⟨w.heap.size, 2, none⟩) (Nat.lt_succ_self _)).trans (hbx.cell (j := 2) rfl)⟩))
  have hsw := hb1.size
  have hks : Below (w.heap.size + 1) wb (w1.alloc (.cells mc 4)) := hb1.alloc (by omega) _
  have hseen : SeenRow (w1.alloc (.cells mc 4)) (w.heap.size + 1) w1.heap.size all.length [] 0 := ⟨_, World.ownsRow_lit w1 mc all.length (by omega) (by simp only [maxLen]; omega) (by rw [hms, Nat.mul_one]), fun i hi => by rw [HMZ.out]; simp [hi, seenB]⟩
  have hwsz : (w1.alloc (.cells mc 4)).heap.size = w1.heap.size + 1 := by simp
  generalize w1.alloc (.cells mc 4) = ws at hks hseen hwsz ⊢
  clear hbx hmk hms
  obtain ⟨b0, b1, b2⟩ := HBX.out _ hks
  have hkA := hks.drew
  have hcA := hwb.trans (hkA.mono (Nat.le_succ _))
  have hsA := hkA.size
  rw [hwz] at hsA
  go_region_held3 (fun w' => w'.cell? ⟨w.heap.size, 0, none⟩ = some (.int .i64 t) ∧ w'.cell? ⟨w.heap.size, 1, none⟩ = some (.string kind) ∧ w'.cell? ⟨w.heap.size, 2, none⟩ = some (.bool bub)) (go_keep) (first | (go_at_call 22; refine (rCopied_c A c l _ w.heap.size hcA.size HS.out hln (h.below hcA)).mono ?_; rintro e w2 ⟨v2, rfl, hdoc2, hb2⟩; have hk2 : Below (w.heap.size + 1) wb w2 := hkA.trans (hb2.mono hsA); obtain ⟨b0, b1, b2⟩ := HBX.out _ hk2; have hc2 := hwb.trans (hk2.mono (Nat.le_succ _)); obtain ⟨A2, c2, rfl, hn2, -⟩ := hdoc2.nodes) | (go_at_call 25; refine (CallsNo_c A2 c2 l t HN.out Al ca all.length kind bub w2 _ (Nat.le_refl _) hll HS.out hn2).mono ?_; rintro e w10 ⟨rfl, hb10⟩; have hk10 := hk2.trans (hb10.mono (by have := hk2.size; omega)); obtain ⟨b0, b1, b2⟩ := HBX.out _ hk10; have hc10 := hwb.trans (hk10.mono (Nat.le_succ _))))
  clear hseen hkA hcA hk2 hc2 hdoc2 hn2 b0 b1 b2
  go_wp2_with fail
  go_loopw [8, 10, 30] (fun _ _ iv wr => wr = w10 ∧ iv = .int .i64 0) (fun _ _ _ _ => 0)
  case atStart => exact ⟨rfl, rfl⟩
  case round =>
    obtain ⟨rfl, rfl⟩ := hrel
    go_wp2_with fail
    go_ret
    exact ⟨rfl, hc10⟩
set_option maxRecDepth 100000 in
set_option maxHeartbeats 1000000 in
theorem EventOnce_w (a : Option Addr × List GNode × Nat) (b : Option Addr × List Lis × Nat) (q : Int × ByteArray × Bool) (w : World) (hd : DocIn w a.1 a.2.1) (hb : LisDoc w b.1 b.2.1) (_hq : (Lit.int .i64 q.1).wf = true ∧ q.2.1.size ≤ reachBytes) :
    Calls Try.prog 6 #[.slice a.1 a.2.1.length a.2.2, .slice b.1 b.2.1.length b.2.2, .agg #[.int .i64 q.1, .string q.2.1, .bool q.2.2]] w fun e w' => e = .returned (.bool true) ∧ Below w.heap.size w w' := by
  obtain ⟨A, l, c⟩ := a
  obtain ⟨Al, all, ca⟩ := b
  obtain ⟨t, kind, bub⟩ := q
  dsimp only at hd hb ⊢
  obtain ⟨h, -, hs, hln⟩ := hd
  obtain ⟨hl, -⟩ := hb
  have hll : l.length ≤ 4611686018427387904 := by unfold reachBytes at hln; omega
  by_cases hbig : 200 < all.length
  · have hbig' : (200 : Int) < (all.length : Int) := by omega
    go_enter Try.func6, Try.ntmps6
    go_wp2_with (go_at_call 19; refine (wakes23_c _).mono ?_; rintro e w1 ⟨rfl, hb1⟩)
    go_ret
    exact ⟨rfl, ((Below.refl _ w).alloc (Nat.le_refl _) _).trans (hb1.mono (by simp))⟩
  have hbig' : decide ((200 : Int) < (all.length : Int)) = false := decide_eq_false (by omega)
  cases hh : hasB l t with
  | true => exact EventOnce_yes A l c Al all ca t kind bub w h hs hln hl hll hbig hbig' hh
  | false => exact EventOnce_no A l c Al all ca t kind bub w h hs hln hl hll hbig hbig' hh
end Go.Proofs.Ytpgcaehbbdnhiaa

/- slices.Backward, ranged over. -/
import Derived.Test.YtpgcaehbbdnhiaaR1
import Derived.Test.YtpgcaehbbdnhiaaV3
import Derived.Shelf.Abstract
import Derived.Shelf.RegionOpen
import Derived.WalkKit
import Derived.OwnWalkIn
import Derived.TacticsInMore
import Derived.LoopNIn
import Derived.LoopIn
namespace Go.Proofs.Ytpgcaehbbdnhiaa
open Go.RowKit Go.Shelf
/-- the blocks that an iterator of this program reads between two rounds: boxes of functions, slices, bools; ints -/
def tsP (t : TypeId) : Bool := t == 93 || t == 103 || t == 26 || t == 4 || t == 3
def bw (xs : List Int) : List (Int × Int) := ((List.range xs.length).map fun (i : Nat) => ((i : Int), xs.getD i 0)).reverse
theorem bw_len (xs : List Int) : (bw xs).length = xs.length := by simp [bw]
theorem bw_at {xs : List Int} {i : Nat} (h : i < xs.length) : (bw xs)[xs.length - 1 - i]? = some ((i : Int), xs.getD i 0) := by
  unfold bw
  rw [List.getElem?_reverse (by simp; omega)]
  simp only [List.length_map, List.length_range, List.getElem?_map]
  rw [show xs.length - 1 - (xs.length - 1 - i) = i by omega, List.getElem?_range h]
  rfl
set_option maxRecDepth 100000 in
set_option maxHeartbeats 1000000 in
theorem back_all (xs : List Int) (hxl : xs.length ≤ 1000000) (A : Option Addr) (c Bn base : Nat) (w : World) (hb : Boxed w Bn 26 (.slice A xs.length c)) (hrow : w.ownsRow base 3 1 (.slice A xs.length c) xs.length (intCells xs)) :
    SeqAll Try.prog 88 #[.pointer (some ⟨Bn, 0, none⟩)] (fun p : Int × Int => #[.int .i64 p.1, .int .i64 p.2]) tsP (bw xs) w := by
  intro l J W hW hJ hY h0
  have hb' : Boxed W Bn 26 (.slice A xs.length c) := hb.kept (grown_of_below hW) (by simp)
  have hrow' : W.ownsRow base 3 1 (.slice A xs.length c) xs.length (intCells xs) := owns_block hrow fun g hg => hW.block g (hrow.lt g hg).2
  refine callsIn_of_wp Try.func88 rfl trivial ?_ rfl
  simp only [Try.ntmps88, List.size_toArray, List.length_cons, List.length_nil, Nat.reduceAdd, Nat.reduceSub, Array.replicate_succ, Array.replicate_zero, List.push_toArray, List.append_toArray, List.nil_append, List.cons_append]
  have cb := hb'.cell
  gi_wp2
  gi_loopw [3] (fun iv wr => ∃ i : Int, iv = .int .i64 i ∧ -1 ≤ i ∧ i < xs.length ∧ J ((xs.length : Int) - 1 - i).toNat wr ∧ Boxed wr Bn 26 (.slice A xs.length c) ∧ wr.ownsRow base 3 1 (.slice A xs.length c) xs.length (intCells xs)) (fun iv _ => (intOf iv + 1).toNat)
  case atStart => exact ⟨_, rfl, by omega, by omega, by rw [show ((xs.length : Int) - 1 - ((xs.length : Int) - 1)).toNat = 0 by omega]; exact h0, hb', hrow'⟩
  case round =>
    obtain ⟨i, rfl, h1, h2, hJi, hbi, hri⟩ := hrel
    have cbi := hbi.cell
    by_cases hneg : i < 0
    · obtain rfl : i = -1 := by omega
      rw [show ((xs.length : Int) - 1 - -1).toNat = (bw xs).length by rw [bw_len]; omega] at hJi
      gi_wp2
      go_end0
      exact ⟨⟨_, rfl⟩, hJi⟩
    · obtain ⟨q, rfl⟩ : ∃ q : Nat, i = q := ⟨i.toNat, by omega⟩
      have hq : q < xs.length := by omega
      rw [show ((xs.length : Int) - 1 - (q : Int)).toNat = xs.length - 1 - q by omega] at hJi
      obtain ⟨g, cap, hT, hgb, hgl, hgc⟩ := owns_form hri (by omega)
      injection hT with hT1 hT2 hT3
      subst hT1 hT3
      have hc := hgc q (by omega)
      rw [show (intCells xs)[q]? = some (.int .i64 (xs.getD q 0)) by simp [intCells, hq]] at hc
      obtain ⟨fn, tmps, assign, body, hy, hR⟩ := hY _ _ wr (bw_at hq) hJi
      replace hR := hR.mono (R' := fun e W' => e = .returned (.bool true) ∧ J (xs.length - 1 - q + 1) W' ∧ Boxed W' Bn 26 (.slice (some ⟨g, 0, none⟩) xs.length c) ∧ W'.ownsRow base 3 1 (.slice (some ⟨g, 0, none⟩) xs.length c) xs.length (intCells xs)) (fun e W' h => ⟨h.1, h.2.1, h.2.2.1.box hbi rfl, h.2.2.1.row hri rfl⟩)
      dsimp only at hy
      generalize xs.getD q 0 = x at hc hy
      clear hgc hJi hneg hY
      gi_wp2
      refine hR.mono ?_
      rintro e W3 ⟨rfl, hJ3, hb3, hr3⟩
      gi_wp2
      go_roundw
      case rel => exact ⟨(q : Int) - 1, rfl, by omega, by omega, by rw [show ((xs.length : Int) - 1 - ((q : Int) - 1)).toNat = xs.length - 1 - q + 1 by omega]; exact hJ3, hb3, hr3⟩
      case measure => simp [intOf]
end Go.Proofs.Ytpgcaehbbdnhiaa

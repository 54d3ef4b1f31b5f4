/- Add, of the program and of the document; the law TreeAdds, walked. -/
import Derived.Test.YtpgcaehbbdnhiaaA1
import Derived.Test.YtpgcaehbbdnhiaaA3
import Derived.Test.YtpgcaehbbdnhiaaA4
import Derived.Test.YtpgcaehbbdnhiaaO4
import Derived.Test.YtpgcaehbbdnhiaaOpen3
namespace Go.Proofs.Ytpgcaehbbdnhiaa
open Go.RowKit
def newNode (name text : ByteArray) : GNode := ⟨name, text, [], -1, []⟩
noncomputable def addE (l : List GNode) (name text : ByteArray) : Int :=
  if rightB l = false then 4 else if name.toList.isEmpty = false ∧ nameB name.toList = false then 7
  else if 4000 < text.size ∨ (name.toList.isEmpty = false ∧ text.toList.isEmpty = false) then 2 else if l.length = 400 then 6 else 0
/-- what is handed back -/
structure AddOut (w w' : World) (l : List GNode) (name text : ByteArray) (E n0 : Int) (v : Value) : Prop where
  num : n0 = if E = 0 then (l.length : Int) else 0
  doc : DocAt w' w.heap.size v (if E = 0 then l ++ [newNode name text] else [])
  below : Below w.heap.size w w'
theorem AddOut.no {w w' : World} {l : List GNode} {name text : ByteArray} {E : Int} (hE : E ≠ 0) (hb : Below w.heap.size w w') : AddOut w w' l name text E 0 (.slice none 0 0) where
  num := by rw [if_neg hE]
  doc := by rw [if_neg hE]; exact DocAt.empty _ _
  below := hb
theorem DocAt.push {w w3 : World} {base : Nat} {v : Value} {l : List GNode} {name text : ByteArray} {own : Nat → Nat} {xs : List Value} {v3 : Value} (h : DocX w base own v l xs) (o : Obj)
    (hg : (w.alloc o).grownBy w3 v.ownBlock) (hown : w3.ownsRow base 46 5 v3 (l.length + 1) (xs ++ nodeCells (newNode name text) none 0 none 0))
    (hat : ∀ g, v3.ownBlock = some g → v.ownBlock = some g ∨ g = (w.alloc o).heap.size) : DocAt w3 base v3 (l ++ [newNode name text]) := by
  obtain ⟨own', hd⟩ := h.snoc (n := newNode name text) (T := none) (ac := 0) (K := none) (kc := 0) (w2 := w.alloc o) (World.grownBy_alloc w o none) (World.ownsRow_nil _ _ _ _) (fun g e => by cases e) (World.ownsRow_nil _ _ _ _) (fun g e => by cases e) (fun g e => by cases e) hg hown (fun g e => by
    rcases hat g e with h1 | h1
    · exact .inl h1
    · exact .inr (by rw [h1]; exact Nat.le_refl _))
  exact ⟨own', _, hd⟩
set_option maxRecDepth 100000 in
set_option maxHeartbeats 1000000 in
theorem Add_c (A : Option Addr) (c : Nat) (l : List GNode) (name text : ByteArray) (w : World) (B : Nat) (hB : B ≤ w.heap.size) (hs : ∀ n ∈ l, NodeSmall reachBytes n) (hll : l.length * 88 ≤ reachBytes) (hn : name.size ≤ reachBytes) (ht : text.size ≤ reachBytes) (h : NodesAt w B A l) (E : Int) (hE : E = addE l name text) :
    Calls Try.prog 37 #[.slice A l.length c, .string name, .string text] w fun e w' => ∃ v n0, e = .returned (.tuple #[v, .int .i64 n0, .int .i64 E]) ∧ AddOut w w' l name text E n0 v := by
  have hll' : l.length ≤ 4611686018427387904 := by unfold reachBytes at hll; omega
  have ht' : text.size ≤ 4611686018427387904 := by unfold reachBytes at ht; omega
  have hn' : name.size ≤ 4611686018427387904 := by unfold reachBytes at hn; omega
  have HEN := Lib.hid (ba_empty name)
  have HET := Lib.hid (ba_empty text)
  have HS := Lib.hid hs
  obtain ⟨inn, in0, inz, in1, in2⟩ := info_parts info_node
  unfold addE at hE
  by_cases h1 : rightB l = false
  · obtain rfl : E = 4 := by rw [hE, if_pos h1]
    clear hE
    go_enter Try.func37, Try.ntmps37
    go_wp2_with (first | (go_at_call 28; refine (Right_c A c l w B hB HS.out hll' h).mono ?_; rintro e w1 ⟨rfl, hb1⟩) | (go_at_call 73; refine (named_c name _).mono ?_; rintro e w2 ⟨rfl, rfl⟩))
    go_ret3
    exact ⟨_, _, rfl, AddOut.no (by omega) hb1⟩
  have hrb : rightB l = true := by simpa using h1
  have hr := rightB_iff.1 hrb
  obtain ⟨⟨hpos, h400, _⟩, _⟩ := id hr
  have HR := Lib.hid hr
  rw [if_neg h1] at hE
  clear h1 hr
  by_cases e1 : name.toList.isEmpty = true
  · have hns : name.size = 0 := HEN.out.1 e1
    have hnd : decide ((0 : Int) < (name.size : Int)) = false := decide_eq_false (by omega)
    rw [if_neg (fun h => by rw [e1] at h; exact absurd h.1 (by simp))] at hE
    by_cases e2 : 4000 < text.size
    · obtain rfl : E = 2 := by rw [hE, if_pos (.inl e2)]
      have e2' : (4000 : Int) < (text.size : Int) := by omega
      clear hE e2
      go_enter Try.func37, Try.ntmps37
      go_wp2_with (first | (go_at_call 28; refine (Right_c A c l w B hB HS.out hll' h).mono ?_; rintro e w1 ⟨rfl, hb1⟩) | (go_at_call 73; refine (named_c name _).mono ?_; rintro e w2 ⟨rfl, rfl⟩))
      go_ret3
      exact ⟨_, _, rfl, AddOut.no (by omega) hb1⟩
    rw [if_neg (fun h => by rcases h with h | h; exact e2 h; rw [e1] at h; exact absurd h.1 (by simp))] at hE
    have e2' : decide ((4000 : Int) < (text.size : Int)) = false := decide_eq_false (by omega)
    clear e2
    by_cases e4 : l.length = 400
    · obtain rfl : E = 6 := by rw [hE, if_pos e4]
      have e4' : ((l.length : Int) == 400) = true := by simp; omega
      have e4'' : (400 : Int) ≤ (l.length : Int) := by omega
      have H4 := Lib.hid e4
      clear hE e4 h400
      go_enter Try.func37, Try.ntmps37
      go_wp2_with (first | (go_at_call 28; refine (Right_c A c l w B hB HS.out hll' h).mono ?_; rintro e w1 ⟨rfl, hb1⟩) | (go_at_call 73; refine (named_c name _).mono ?_; rintro e w2 ⟨rfl, rfl⟩))
      go_ret3
      exact ⟨_, _, rfl, AddOut.no (by omega) hb1⟩
    · obtain rfl : E = 0 := by rw [hE, if_neg e4]
      have e4' : ((l.length : Int) == 400) = false := by rw [beq_eq_false_iff_ne]; omega
      have e4'' : decide ((400 : Int) ≤ (l.length : Int)) = false := decide_eq_false (by omega)
      clear hE
      go_enter Try.func37, Try.ntmps37
      go_wp2_with (first | (go_at_call 28; refine (Right_c A c l w B hB HS.out hll' h).mono ?_; rintro e w1 ⟨rfl, hb1⟩) | (go_at_call 73; refine (named_c name _).mono ?_; rintro e w2 ⟨rfl, rfl⟩) | (go_at_call 64; refine (copied_c A c l w1 B (by have := hb1.size; omega) HS.out hpos (by omega) (h.below (hb1.mono hB))).mono ?_; rintro e w3 ⟨v3, rfl, ⟨own3, xs3, hd3⟩, hb3⟩) | (at_builtin; refine wpList_append_src rfl (.tmp 38) (.tmp 42) 23 rfl w1.heap.size 46 inn _ 5 88 Try.underlying23 in0 inz in1 in2 rfl (by decide) v3 l.length xs3 rfl (hd3.row.alloc _) (some ⟨w3.heap.size, 0, none⟩) 1 1 (nodeCells (newNode name text) none 0 none 0) rfl rfl (fun _ => ⟨_, rfl, World.news_of_block (heap_alloc_new w3 _)⟩) (nodeCells_one _ _ _ _ _) (by simp only [maxLen]; omega) (by omega) (by have := hb3.size; simp; omega) ?_; intro T9 c9 w9 hown9 hg9 hat9))
      go_ret3
      exact ⟨_, _, rfl, ⟨rfl, (DocAt.push hd3 _ hg9 hown9 hat9).base hb1.size, hb1.trans (((hb3.alloc hb3.size _).grown hg9 (by have := hb3.size; simp; omega) (fun g e => (hd3.row.lt g e).1)).mono hb1.size)⟩⟩
  · have e1' : name.toList.isEmpty = false := by simpa using e1
    have hns : (0 : Int) < (name.size : Int) := by
      rcases Nat.eq_zero_or_pos name.size with h | h
      · exact absurd (HEN.out.2 h) e1
      · omega
    clear e1
    by_cases e3 : nameB name.toList = false
    · obtain rfl : E = 7 := by rw [hE, if_pos ⟨e1', e3⟩]
      clear hE
      go_enter Try.func37, Try.ntmps37
      go_wp2_with (first | (go_at_call 28; refine (Right_c A c l w B hB HS.out hll' h).mono ?_; rintro e w1 ⟨rfl, hb1⟩) | (go_at_call 73; refine (named_c name _).mono ?_; rintro e w2 ⟨rfl, rfl⟩))
      go_ret3
      exact ⟨_, _, rfl, AddOut.no (by omega) hb1⟩
    have e3' : nameB name.toList = true := by simpa using e3
    rw [if_neg (fun h => e3 h.2)] at hE
    clear e3
    by_cases e2 : 4000 < text.size
    · obtain rfl : E = 2 := by rw [hE, if_pos (.inl e2)]
      have e2' : (4000 : Int) < (text.size : Int) := by omega
      clear hE e2
      go_enter Try.func37, Try.ntmps37
      go_wp2_with (first | (go_at_call 28; refine (Right_c A c l w B hB HS.out hll' h).mono ?_; rintro e w1 ⟨rfl, hb1⟩) | (go_at_call 73; refine (named_c name _).mono ?_; rintro e w2 ⟨rfl, rfl⟩))
      go_ret3
      exact ⟨_, _, rfl, AddOut.no (by omega) hb1⟩
    have e2' : decide ((4000 : Int) < (text.size : Int)) = false := decide_eq_false (by omega)
    by_cases e5 : text.toList.isEmpty = false
    · obtain rfl : E = 2 := by rw [hE, if_pos (.inr ⟨e1', e5⟩)]
      have hts : (0 : Int) < (text.size : Int) := by
        rcases Nat.eq_zero_or_pos text.size with h | h
        · rw [HET.out.2 h] at e5; exact absurd e5 (by simp)
        · omega
      clear hE e2
      go_enter Try.func37, Try.ntmps37
      go_wp2_with (first | (go_at_call 28; refine (Right_c A c l w B hB HS.out hll' h).mono ?_; rintro e w1 ⟨rfl, hb1⟩) | (go_at_call 73; refine (named_c name _).mono ?_; rintro e w2 ⟨rfl, rfl⟩))
      go_ret3
      exact ⟨_, _, rfl, AddOut.no (by omega) hb1⟩
    have e5' : text.toList.isEmpty = true := by simpa using e5
    have hts : text.size = 0 := HET.out.1 e5'
    have htd : decide ((0 : Int) < (text.size : Int)) = false := decide_eq_false (by omega)
    rw [if_neg (fun h => by rcases h with h | h; exact e2 h; exact e5 h.2)] at hE
    clear e2 e5
    by_cases e4 : l.length = 400
    · obtain rfl : E = 6 := by rw [hE, if_pos e4]
      have e4' : ((l.length : Int) == 400) = true := by simp; omega
      have e4'' : (400 : Int) ≤ (l.length : Int) := by omega
      have H4 := Lib.hid e4
      clear hE e4 h400
      go_enter Try.func37, Try.ntmps37
      go_wp2_with (first | (go_at_call 28; refine (Right_c A c l w B hB HS.out hll' h).mono ?_; rintro e w1 ⟨rfl, hb1⟩) | (go_at_call 73; refine (named_c name _).mono ?_; rintro e w2 ⟨rfl, rfl⟩))
      go_ret3
      exact ⟨_, _, rfl, AddOut.no (by omega) hb1⟩
    · obtain rfl : E = 0 := by rw [hE, if_neg e4]
      have e4' : ((l.length : Int) == 400) = false := by rw [beq_eq_false_iff_ne]; omega
      have e4'' : decide ((400 : Int) ≤ (l.length : Int)) = false := decide_eq_false (by omega)
      clear hE
      go_enter Try.func37, Try.ntmps37
      go_wp2_with (first | (go_at_call 28; refine (Right_c A c l w B hB HS.out hll' h).mono ?_; rintro e w1 ⟨rfl, hb1⟩) | (go_at_call 73; refine (named_c name _).mono ?_; rintro e w2 ⟨rfl, rfl⟩) | (go_at_call 64; refine (copied_c A c l w1 B (by have := hb1.size; omega) HS.out hpos (by omega) (h.below (hb1.mono hB))).mono ?_; rintro e w3 ⟨v3, rfl, ⟨own3, xs3, hd3⟩, hb3⟩) | (at_builtin; refine wpList_append_src rfl (.tmp 38) (.tmp 42) 23 rfl w1.heap.size 46 inn _ 5 88 Try.underlying23 in0 inz in1 in2 rfl (by decide) v3 l.length xs3 rfl (hd3.row.alloc _) (some ⟨w3.heap.size, 0, none⟩) 1 1 (nodeCells (newNode name text) none 0 none 0) rfl rfl (fun _ => ⟨_, rfl, World.news_of_block (heap_alloc_new w3 _)⟩) (nodeCells_one _ _ _ _ _) (by simp only [maxLen]; omega) (by omega) (by have := hb3.size; simp; omega) ?_; intro T9 c9 w9 hown9 hg9 hat9))
      go_ret3
      exact ⟨_, _, rfl, ⟨rfl, (DocAt.push hd3 _ hg9 hown9 hat9).base hb1.size, hb1.trans (((hb3.alloc hb3.size _).grown hg9 (by have := hb3.size; simp; omega) (fun g e => (hd3.row.lt g e).1)).mono hb1.size)⟩⟩
set_option maxRecDepth 100000 in
set_option maxHeartbeats 1000000 in
theorem rAdd_c (A : Option Addr) (c : Nat) (l : List GNode) (name text : ByteArray) (w : World) (B : Nat) (hB : B ≤ w.heap.size) (hs : ∀ n ∈ l, NodeSmall reachBytes n) (hll : l.length * 88 ≤ reachBytes) (hn : name.size ≤ reachBytes) (ht : text.size ≤ reachBytes) (h : NodesAt w B A l) (E : Int) (hE : E = addE l name text) :
    Calls Try.prog 38 #[.slice A l.length c, .string name, .string text] w fun e w' => ∃ v n0, e = .returned (.tuple #[v, .int .i64 n0, .int .i64 E]) ∧ AddOut w w' l name text E n0 v := by
  have hll' : l.length ≤ 4611686018427387904 := by unfold reachBytes at hll; omega
  have ht' : text.size ≤ 4611686018427387904 := by unfold reachBytes at ht; omega
  have hn' : name.size ≤ 4611686018427387904 := by unfold reachBytes at hn; omega
  have HEN := Lib.hid (ba_empty name)
  have HET := Lib.hid (ba_empty text)
  have HS := Lib.hid hs
  obtain ⟨inn, in0, inz, in1, in2⟩ := info_parts info_node
  unfold addE at hE
  by_cases h1 : rightB l = false
  · obtain rfl : E = 4 := by rw [hE, if_pos h1]
    clear hE
    go_enter Try.func38, Try.ntmps38
    go_wp2_with (first | (go_at_call 29; refine (rRight_c A c l w B hB HS.out hll' h).mono ?_; rintro e w1 ⟨rfl, hb1⟩) | (go_at_call 74; refine (rName_c name _ hn).mono ?_; rintro e w2 ⟨rfl, rfl⟩))
    go_ret3
    exact ⟨_, _, rfl, AddOut.no (by omega) hb1⟩
  have hrb : rightB l = true := by simpa using h1
  have hr := rightB_iff.1 hrb
  obtain ⟨⟨hpos, h400, _⟩, _⟩ := id hr
  have HR := Lib.hid hr
  rw [if_neg h1] at hE
  clear h1 hr
  by_cases e1 : name.toList.isEmpty = true
  · have hns : name.size = 0 := HEN.out.1 e1
    have hnd : decide ((0 : Int) < (name.size : Int)) = false := decide_eq_false (by omega)
    rw [if_neg (fun h => by rw [e1] at h; exact absurd h.1 (by simp))] at hE
    by_cases e2 : 4000 < text.size
    · obtain rfl : E = 2 := by rw [hE, if_pos (.inl e2)]
      have e2' : (4000 : Int) < (text.size : Int) := by omega
      clear hE e2
      go_enter Try.func38, Try.ntmps38
      go_wp2_with (first | (go_at_call 29; refine (rRight_c A c l w B hB HS.out hll' h).mono ?_; rintro e w1 ⟨rfl, hb1⟩) | (go_at_call 74; refine (rName_c name _ hn).mono ?_; rintro e w2 ⟨rfl, rfl⟩))
      go_ret3
      exact ⟨_, _, rfl, AddOut.no (by omega) hb1⟩
    rw [if_neg (fun h => by rcases h with h | h; exact e2 h; rw [e1] at h; exact absurd h.1 (by simp))] at hE
    have e2' : decide ((4000 : Int) < (text.size : Int)) = false := decide_eq_false (by omega)
    clear e2
    by_cases e4 : l.length = 400
    · obtain rfl : E = 6 := by rw [hE, if_pos e4]
      have e4' : ((l.length : Int) == 400) = true := by simp; omega
      have e4'' : (400 : Int) ≤ (l.length : Int) := by omega
      have H4 := Lib.hid e4
      clear hE e4 h400
      go_enter Try.func38, Try.ntmps38
      go_wp2_with (first | (go_at_call 29; refine (rRight_c A c l w B hB HS.out hll' h).mono ?_; rintro e w1 ⟨rfl, hb1⟩) | (go_at_call 74; refine (rName_c name _ hn).mono ?_; rintro e w2 ⟨rfl, rfl⟩))
      go_ret3
      exact ⟨_, _, rfl, AddOut.no (by omega) hb1⟩
    · obtain rfl : E = 0 := by rw [hE, if_neg e4]
      have e4' : ((l.length : Int) == 400) = false := by rw [beq_eq_false_iff_ne]; omega
      have e4'' : decide ((400 : Int) ≤ (l.length : Int)) = false := decide_eq_false (by omega)
      clear hE
      go_enter Try.func38, Try.ntmps38
      go_wp2_with (first | (go_at_call 29; refine (rRight_c A c l w B hB HS.out hll' h).mono ?_; rintro e w1 ⟨rfl, hb1⟩) | (go_at_call 74; refine (rName_c name _ hn).mono ?_; rintro e w2 ⟨rfl, rfl⟩) | (go_at_call 22; refine (rCopied_c A c l w1 B (by have := hb1.size; omega) HS.out hll (h.below (hb1.mono hB))).mono ?_; rintro e w3 ⟨v3, rfl, ⟨own3, xs3, hd3⟩, hb3⟩) | (at_builtin; refine wpList_append_src rfl (.tmp 39) (.tmp 43) 23 rfl w1.heap.size 46 inn _ 5 88 Try.underlying23 in0 inz in1 in2 rfl (by decide) v3 l.length xs3 rfl (hd3.row.alloc _) (some ⟨w3.heap.size, 0, none⟩) 1 1 (nodeCells (newNode name text) none 0 none 0) rfl rfl (fun _ => ⟨_, rfl, World.news_of_block (heap_alloc_new w3 _)⟩) (nodeCells_one _ _ _ _ _) (by simp only [maxLen]; omega) (by omega) (by have := hb3.size; simp; omega) ?_; intro T9 c9 w9 hown9 hg9 hat9))
      go_ret3
      exact ⟨_, _, rfl, ⟨rfl, (DocAt.push hd3 _ hg9 hown9 hat9).base hb1.size, hb1.trans (((hb3.alloc hb3.size _).grown hg9 (by have := hb3.size; simp; omega) (fun g e => (hd3.row.lt g e).1)).mono hb1.size)⟩⟩
  · have e1' : name.toList.isEmpty = false := by simpa using e1
    have hns : (0 : Int) < (name.size : Int) := by
      rcases Nat.eq_zero_or_pos name.size with h | h
      · exact absurd (HEN.out.2 h) e1
      · omega
    clear e1
    by_cases e3 : nameB name.toList = false
    · obtain rfl : E = 7 := by rw [hE, if_pos ⟨e1', e3⟩]
      clear hE
      go_enter Try.func38, Try.ntmps38
      go_wp2_with (first | (go_at_call 29; refine (rRight_c A c l w B hB HS.out hll' h).mono ?_; rintro e w1 ⟨rfl, hb1⟩) | (go_at_call 74; refine (rName_c name _ hn).mono ?_; rintro e w2 ⟨rfl, rfl⟩))
      go_ret3
      exact ⟨_, _, rfl, AddOut.no (by omega) hb1⟩
    have e3' : nameB name.toList = true := by simpa using e3
    rw [if_neg (fun h => e3 h.2)] at hE
    clear e3
    by_cases e2 : 4000 < text.size
    · obtain rfl : E = 2 := by rw [hE, if_pos (.inl e2)]
      have e2' : (4000 : Int) < (text.size : Int) := by omega
      clear hE e2
      go_enter Try.func38, Try.ntmps38
      go_wp2_with (first | (go_at_call 29; refine (rRight_c A c l w B hB HS.out hll' h).mono ?_; rintro e w1 ⟨rfl, hb1⟩) | (go_at_call 74; refine (rName_c name _ hn).mono ?_; rintro e w2 ⟨rfl, rfl⟩))
      go_ret3
      exact ⟨_, _, rfl, AddOut.no (by omega) hb1⟩
    have e2' : decide ((4000 : Int) < (text.size : Int)) = false := decide_eq_false (by omega)
    by_cases e5 : text.toList.isEmpty = false
    · obtain rfl : E = 2 := by rw [hE, if_pos (.inr ⟨e1', e5⟩)]
      have hts : (0 : Int) < (text.size : Int) := by
        rcases Nat.eq_zero_or_pos text.size with h | h
        · rw [HET.out.2 h] at e5; exact absurd e5 (by simp)
        · omega
      clear hE e2
      go_enter Try.func38, Try.ntmps38
      go_wp2_with (first | (go_at_call 29; refine (rRight_c A c l w B hB HS.out hll' h).mono ?_; rintro e w1 ⟨rfl, hb1⟩) | (go_at_call 74; refine (rName_c name _ hn).mono ?_; rintro e w2 ⟨rfl, rfl⟩))
      go_ret3
      exact ⟨_, _, rfl, AddOut.no (by omega) hb1⟩
    have e5' : text.toList.isEmpty = true := by simpa using e5
    have hts : text.size = 0 := HET.out.1 e5'
    have htd : decide ((0 : Int) < (text.size : Int)) = false := decide_eq_false (by omega)
    rw [if_neg (fun h => by rcases h with h | h; exact e2 h; exact e5 h.2)] at hE
    clear e2 e5
    by_cases e4 : l.length = 400
    · obtain rfl : E = 6 := by rw [hE, if_pos e4]
      have e4' : ((l.length : Int) == 400) = true := by simp; omega
      have e4'' : (400 : Int) ≤ (l.length : Int) := by omega
      have H4 := Lib.hid e4
      clear hE e4 h400
      go_enter Try.func38, Try.ntmps38
      go_wp2_with (first | (go_at_call 29; refine (rRight_c A c l w B hB HS.out hll' h).mono ?_; rintro e w1 ⟨rfl, hb1⟩) | (go_at_call 74; refine (rName_c name _ hn).mono ?_; rintro e w2 ⟨rfl, rfl⟩))
      go_ret3
      exact ⟨_, _, rfl, AddOut.no (by omega) hb1⟩
    · obtain rfl : E = 0 := by rw [hE, if_neg e4]
      have e4' : ((l.length : Int) == 400) = false := by rw [beq_eq_false_iff_ne]; omega
      have e4'' : decide ((400 : Int) ≤ (l.length : Int)) = false := decide_eq_false (by omega)
      clear hE
      go_enter Try.func38, Try.ntmps38
      go_wp2_with (first | (go_at_call 29; refine (rRight_c A c l w B hB HS.out hll' h).mono ?_; rintro e w1 ⟨rfl, hb1⟩) | (go_at_call 74; refine (rName_c name _ hn).mono ?_; rintro e w2 ⟨rfl, rfl⟩) | (go_at_call 22; refine (rCopied_c A c l w1 B (by have := hb1.size; omega) HS.out hll (h.below (hb1.mono hB))).mono ?_; rintro e w3 ⟨v3, rfl, ⟨own3, xs3, hd3⟩, hb3⟩) | (at_builtin; refine wpList_append_src rfl (.tmp 39) (.tmp 43) 23 rfl w1.heap.size 46 inn _ 5 88 Try.underlying23 in0 inz in1 in2 rfl (by decide) v3 l.length xs3 rfl (hd3.row.alloc _) (some ⟨w3.heap.size, 0, none⟩) 1 1 (nodeCells (newNode name text) none 0 none 0) rfl rfl (fun _ => ⟨_, rfl, World.news_of_block (heap_alloc_new w3 _)⟩) (nodeCells_one _ _ _ _ _) (by simp only [maxLen]; omega) (by omega) (by have := hb3.size; simp; omega) ?_; intro T9 c9 w9 hown9 hg9 hat9))
      go_ret3
      exact ⟨_, _, rfl, ⟨rfl, (DocAt.push hd3 _ hg9 hown9 hat9).base hb1.size, hb1.trans (((hb3.alloc hb3.size _).grown hg9 (by have := hb3.size; simp; omega) (fun g e => (hd3.row.lt g e).1)).mono hb1.size)⟩⟩
theorem new_right {l : List GNode} {name text : ByteArray} (h : addE l name text = 0) : RightP (l ++ [newNode name text]) := by
  unfold addE at h
  by_cases h1 : rightB l = false
  · rw [if_pos h1] at h; omega
  rw [if_neg h1] at h
  by_cases h2 : name.toList.isEmpty = false ∧ nameB name.toList = false
  · rw [if_pos h2] at h; omega
  rw [if_neg h2] at h
  by_cases h3 : 4000 < text.size ∨ (name.toList.isEmpty = false ∧ text.toList.isEmpty = false)
  · rw [if_pos h3] at h; omega
  rw [if_neg h3] at h
  by_cases h4 : l.length = 400
  · rw [if_pos h4] at h; omega
  have hr : RightP l := rightB_iff.1 (by simpa using h1)
  obtain ⟨⟨_, h400, _⟩, _⟩ := id hr
  refine right_add hr (by omega) ?_ rfl rfl
  unfold OneP
  by_cases h5 : name.toList.isEmpty = true
  · show if name.toList.isEmpty = true then _ else _
    rw [if_pos h5]
    exact ⟨rfl, rfl, by show text.size ≤ 4000; omega⟩
  · show if name.toList.isEmpty = true then _ else _
    rw [if_neg h5]
    have h5' : name.toList.isEmpty = false := by simpa using h5
    refine ⟨?_, ?_, Nat.zero_le _, fun i hi => absurd hi (Nat.not_lt_zero _)⟩
    · cases e : nameB name.toList with
      | true => exact e
      | false => exact absurd ⟨h5', e⟩ h2
    · show text.size = 0
      rw [← ba_empty]
      cases e : text.toList.isEmpty with
      | true => rfl
      | false => exact absurd (.inr ⟨h5', e⟩) h3
theorem new_small {l : List GNode} {name text : ByteArray} (hs : ∀ n ∈ l, NodeSmall reachBytes n) (hn : name.size ≤ reachBytes) (ht : text.size ≤ reachBytes) : ∀ n ∈ l ++ [newNode name text], NodeSmall reachBytes n := by
  intro n hm
  rcases List.mem_append.1 hm with h | h
  · exact hs n h
  · rw [List.mem_singleton] at h
    subst h
    exact ⟨hn, ht, by simp [newNode], fun a ha => absurd ha List.not_mem_nil, by simp [newNode]⟩
end Go.Proofs.Ytpgcaehbbdnhiaa

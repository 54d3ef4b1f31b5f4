/- Words for what lies in memory: a slice of strings in pairs (attributes), of integers, of nodes; kept by whatever leaves the blocks below a bound as they were. No program in sight. -/
import Derived.WalkKit
import Derived.Lib.Hide
namespace Go.Proofs.Ytpgcaehbbdnhiaa
open Go.RowKit
theorem ret_int {k : IntKind} {a b : Int} (h : a = b) : Ending.returned (.int k a) = .returned (.int k b) := by rw [h]
theorem ret_bool {a b : Bool} (h : a = b) : Ending.returned (.bool a) = .returned (.bool b) := by rw [h]
theorem ret_str {a b : ByteArray} (h : a = b) : Ending.returned (.string a) = .returned (.string b) := by rw [h]

/-- an attribute -/
structure GAttr where
  name : ByteArray
  val : ByteArray
/-- a node -/
structure GNode where
  name : ByteArray
  text : ByteArray
  attrs : List GAttr
  parent : Int
  kids : List Int

/-- a slice (of these many elements) reads as attributes, below block B -/
def AttrsAt (w : World) (B : Nat) (A : Option Addr) (l : List GAttr) : Prop :=
  l ≠ [] → ∃ b o, A = some ⟨b, o, none⟩ ∧ b < B ∧
    ∀ i a, l[i]? = some a → w.cell? ⟨b, o + i * 2, none⟩ = some (.string a.name) ∧ w.cell? ⟨b, o + i * 2 + 1, none⟩ = some (.string a.val)
def IntsAt (w : World) (B : Nat) (A : Option Addr) (l : List Int) : Prop :=
  l ≠ [] → ∃ b o, A = some ⟨b, o, none⟩ ∧ b < B ∧ ∀ i n, l[i]? = some n → w.cell? ⟨b, o + i, none⟩ = some (.int .i64 n)

theorem AttrsAt.keep {w w' : World} {B : Nat} {A : Option Addr} {l : List GAttr} (h : AttrsAt w B A l) (hk : ∀ p : Addr, p.block < B → w'.cell? p = w.cell? p) : AttrsAt w' B A l := by
  intro hl
  obtain ⟨b, o, e, hb, hc⟩ := h hl
  exact ⟨b, o, e, hb, fun i a hi => ⟨(hk _ hb).trans (hc i a hi).1, (hk _ hb).trans (hc i a hi).2⟩⟩
theorem AttrsAt.below {w w' : World} {B : Nat} {A : Option Addr} {l : List GAttr} (h : AttrsAt w B A l) (hb : Below B w w') : AttrsAt w' B A l := h.keep fun _ hp => hb.cell hp
theorem AttrsAt.mono {w : World} {B B' : Nat} {A : Option Addr} {l : List GAttr} (h : AttrsAt w B A l) (hB : B ≤ B') : AttrsAt w B' A l := by
  intro hl
  obtain ⟨b, o, e, hb, hc⟩ := h hl
  exact ⟨b, o, e, by omega, hc⟩
theorem IntsAt.keep {w w' : World} {B : Nat} {A : Option Addr} {l : List Int} (h : IntsAt w B A l) (hk : ∀ p : Addr, p.block < B → w'.cell? p = w.cell? p) : IntsAt w' B A l := by
  intro hl
  obtain ⟨b, o, e, hb, hc⟩ := h hl
  exact ⟨b, o, e, hb, fun i a hi => (hk _ hb).trans (hc i a hi)⟩
theorem IntsAt.below {w w' : World} {B : Nat} {A : Option Addr} {l : List Int} (h : IntsAt w B A l) (hb : Below B w w') : IntsAt w' B A l := h.keep fun _ hp => hb.cell hp
theorem IntsAt.mono {w : World} {B B' : Nat} {A : Option Addr} {l : List Int} (h : IntsAt w B A l) (hB : B ≤ B') : IntsAt w B' A l := by
  intro hl
  obtain ⟨b, o, e, hb, hc⟩ := h hl
  exact ⟨b, o, e, by omega, hc⟩
/-- one attribute of them -/
theorem AttrsAt.at_ {w : World} {B : Nat} {A : Option Addr} {l : List GAttr} (h : AttrsAt w B A l) {i : Nat} (hi : i < l.length) :
    ∃ b o, A = some ⟨b, o, none⟩ ∧ b < B ∧ w.cell? ⟨b, o + i * 2, none⟩ = some (.string l[i].name) ∧ w.cell? ⟨b, o + i * 2 + 1, none⟩ = some (.string l[i].val) := by
  obtain ⟨b, o, e, hb, hc⟩ := h (by intro e; subst e; simp at hi)
  exact ⟨b, o, e, hb, hc i _ (List.getElem?_eq_getElem hi)⟩
theorem IntsAt.at_ {w : World} {B : Nat} {A : Option Addr} {l : List Int} (h : IntsAt w B A l) {i : Nat} (hi : i < l.length) :
    ∃ b o, A = some ⟨b, o, none⟩ ∧ b < B ∧ w.cell? ⟨b, o + i, none⟩ = some (.int .i64 l[i]) := by
  obtain ⟨b, o, e, hb, hc⟩ := h (by intro e; subst e; simp at hi)
  exact ⟨b, o, e, hb, hc i _ (List.getElem?_eq_getElem hi)⟩

theorem bcell {W w1 : World} (hb : Below W.heap.size W w1) : (∀ b o, b < W.heap.size → w1.cell? ⟨b, o, none⟩ = W.cell? ⟨b, o, none⟩) ∧ (∀ b o, b < W.heap.size → w1.frozen? ⟨b, o, none⟩ = W.frozen? ⟨b, o, none⟩) :=
  ⟨fun b o h => hb.cell (p := ⟨b, o, none⟩) h, fun b o h => hb.frozen (p := ⟨b, o, none⟩) h⟩

/-! ### the first of a name -/
def fnd (l : List GAttr) (m : List UInt8) : Int := match l.findIdx? (fun a => a.name.toList == m) with | some i => (i : Int) | none => -1
theorem fnd_at {l : List GAttr} {m : List UInt8} {k : Nat} (hk : k < l.length) (h : ∀ j (_ : j < l.length), j < k → (l[j].name.toList == m) = false) (hm : (l[k].name.toList == m) = true) : fnd l m = k := by
  have : l.findIdx? (fun a => a.name.toList == m) = some k := by
    rw [List.findIdx?_eq_some_iff_getElem]
    exact ⟨hk, hm, fun j hj => by rw [h j (by omega) hj]; simp⟩
  unfold fnd; rw [this]
theorem fnd_none {l : List GAttr} {m : List UInt8} (h : ∀ j (_ : j < l.length), (l[j].name.toList == m) = false) : fnd l m = -1 := by
  have : l.findIdx? (fun a => a.name.toList == m) = none := by
    rw [List.findIdx?_eq_none_iff]
    intro x hx
    obtain ⟨j, hj, rfl⟩ := List.mem_iff_getElem.1 hx
    exact h j hj
  unfold fnd; rw [this]
theorem fnd_bd (l : List GAttr) (m : List UInt8) : -1 ≤ fnd l m ∧ fnd l m < l.length := by
  unfold fnd
  split
  · rename_i i h
    obtain ⟨hi, _⟩ := List.findIdx?_eq_some_iff_getElem.1 h
    omega
  · omega
theorem fnd_is {l : List GAttr} {m : List UInt8} {k : Nat} (hk : fnd l m = k) : ∃ h : k < l.length, (l[k].name.toList == m) = true := by
  unfold fnd at hk
  split at hk
  · rename_i i h
    obtain ⟨hi, hm, _⟩ := List.findIdx?_eq_some_iff_getElem.1 h
    obtain rfl : i = k := by omega
    exact ⟨hi, hm⟩
  · omega

/-! ### strings by their bytes -/
theorem ba_ext {s t : ByteArray} (h : s.toList = t.toList) : s = t := by
  have e : ∀ u : ByteArray, u.toList = u.data.toList := fun u => by simp [ByteArray.toList_eq] 
  rw [e, e] at h
  cases s; cases t
  simpa using h

theorem ba_list (u : ByteArray) : u.toList = u.data.toList := by simp [ByteArray.toList_eq]
theorem ba_nil : (⟨#[]⟩ : ByteArray).toList = [] := by simp [ba_list]
theorem ba_mk (l : List UInt8) : (⟨l.toArray⟩ : ByteArray).toList = l := by simp [ba_list]
theorem ba_len (u : ByteArray) : u.toList.length = u.size := by simp [ba_list]

/-! ### capital letters of ASCII made small -/
def low (b : UInt8) : UInt8 := if 65 ≤ b.toNat ∧ b.toNat ≤ 90 then UInt8.ofNat (b.toNat + 32) else b
def lowL (l : List UInt8) : List UInt8 := l.map low
theorem low_cap {b : UInt8} (h1 : 65 ≤ b.toNat) (h2 : b.toNat ≤ 90) : ((low b).toNat : Int) = (b.toNat : Int) + 32 := by
  unfold low
  rw [if_pos ⟨h1, h2⟩]
  simp
  omega
theorem low_not {b : UInt8} (h : ¬ (65 ≤ b.toNat ∧ b.toNat ≤ 90)) : low b = b := by
  unfold low
  rw [if_neg h]
end Go.Proofs.Ytpgcaehbbdnhiaa

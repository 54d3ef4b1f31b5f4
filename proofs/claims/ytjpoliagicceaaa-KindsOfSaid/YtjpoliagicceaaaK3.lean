/- Contracts of the types of inputs and of the kind of a node, of both texts. -/
import Derived.Test.YtjpoliagicceaaaK2
import Derived.Deep.WholeRow
namespace Go.Proofs.Ytjpoliagicceaaa
open Go.RowKit

/-- the types of input, in their order -/
def tyL : List ByteArray := [⟨#[104, 105, 100, 100, 101, 110]⟩, ⟨#[116, 101, 120, 116]⟩, ⟨#[115, 101, 97, 114, 99, 104]⟩, ⟨#[116, 101, 108]⟩, ⟨#[117, 114, 108]⟩, ⟨#[101, 109, 97, 105, 108]⟩, ⟨#[112, 97, 115, 115, 119, 111, 114, 100]⟩, ⟨#[100, 97, 116, 101]⟩, ⟨#[109, 111, 110, 116, 104]⟩, ⟨#[119, 101, 101, 107]⟩, ⟨#[116, 105, 109, 101]⟩, ⟨#[100, 97, 116, 101, 116, 105, 109, 101, 45, 108, 111, 99, 97, 108]⟩, ⟨#[110, 117, 109, 98, 101, 114]⟩, ⟨#[114, 97, 110, 103, 101]⟩, ⟨#[99, 111, 108, 111, 114]⟩, ⟨#[99, 104, 101, 99, 107, 98, 111, 120]⟩, ⟨#[114, 97, 100, 105, 111]⟩, ⟨#[102, 105, 108, 101]⟩, ⟨#[115, 117, 98, 109, 105, 116]⟩, ⟨#[105, 109, 97, 103, 101]⟩, ⟨#[114, 101, 115, 101, 116]⟩, ⟨#[98, 117, 116, 116, 111, 110]⟩]
def tn (k : Nat) : ByteArray := tyL.getD k ⟨#[]⟩
def tyArr : Array Value := #[.string ⟨#[104, 105, 100, 100, 101, 110]⟩, .string ⟨#[116, 101, 120, 116]⟩, .string ⟨#[115, 101, 97, 114, 99, 104]⟩, .string ⟨#[116, 101, 108]⟩, .string ⟨#[117, 114, 108]⟩, .string ⟨#[101, 109, 97, 105, 108]⟩, .string ⟨#[112, 97, 115, 115, 119, 111, 114, 100]⟩, .string ⟨#[100, 97, 116, 101]⟩, .string ⟨#[109, 111, 110, 116, 104]⟩, .string ⟨#[119, 101, 101, 107]⟩, .string ⟨#[116, 105, 109, 101]⟩, .string ⟨#[100, 97, 116, 101, 116, 105, 109, 101, 45, 108, 111, 99, 97, 108]⟩, .string ⟨#[110, 117, 109, 98, 101, 114]⟩, .string ⟨#[114, 97, 110, 103, 101]⟩, .string ⟨#[99, 111, 108, 111, 114]⟩, .string ⟨#[99, 104, 101, 99, 107, 98, 111, 120]⟩, .string ⟨#[114, 97, 100, 105, 111]⟩, .string ⟨#[102, 105, 108, 101]⟩, .string ⟨#[115, 117, 98, 109, 105, 116]⟩, .string ⟨#[105, 109, 97, 103, 101]⟩, .string ⟨#[114, 101, 115, 101, 116]⟩, .string ⟨#[98, 117, 116, 116, 111, 110]⟩]
/-- the names of elements from output on, in their order -/
def outL : List ByteArray := [⟨#[111, 117, 116, 112, 117, 116]⟩, ⟨#[102, 105, 101, 108, 100, 115, 101, 116]⟩, ⟨#[102, 111, 114, 109]⟩, ⟨#[108, 97, 98, 101, 108]⟩, ⟨#[111, 112, 116, 105, 111, 110]⟩, ⟨#[111, 112, 116, 103, 114, 111, 117, 112]⟩, ⟨#[108, 101, 103, 101, 110, 100]⟩, ⟨#[100, 97, 116, 97, 108, 105, 115, 116]⟩]
def on (k : Nat) : ByteArray := outL.getD k ⟨#[]⟩

theorem tyIdx : ∀ (k : Nat) (_ : k < 22) (w : World), (Instr.index 38 (.agg tyArr) (.int .i64 (k : Int))).run Try.prog w = .ok (.string (tn k)) w
  | 0, _, _ => by kernel_rfl
  | 1, _, _ => by kernel_rfl
  | 2, _, _ => by kernel_rfl
  | 3, _, _ => by kernel_rfl
  | 4, _, _ => by kernel_rfl
  | 5, _, _ => by kernel_rfl
  | 6, _, _ => by kernel_rfl
  | 7, _, _ => by kernel_rfl
  | 8, _, _ => by kernel_rfl
  | 9, _, _ => by kernel_rfl
  | 10, _, _ => by kernel_rfl
  | 11, _, _ => by kernel_rfl
  | 12, _, _ => by kernel_rfl
  | 13, _, _ => by kernel_rfl
  | 14, _, _ => by kernel_rfl
  | 15, _, _ => by kernel_rfl
  | 16, _, _ => by kernel_rfl
  | 17, _, _ => by kernel_rfl
  | 18, _, _ => by kernel_rfl
  | 19, _, _ => by kernel_rfl
  | 20, _, _ => by kernel_rfl
  | 21, _, _ => by kernel_rfl
  | k + 22, h, _ => absurd h (by omega)
theorem outIdx : ∀ (k : Nat) (_ : k < 8) (w : World), (Instr.index 40 (.agg #[.string ⟨#[111, 117, 116, 112, 117, 116]⟩, .string ⟨#[102, 105, 101, 108, 100, 115, 101, 116]⟩, .string ⟨#[102, 111, 114, 109]⟩, .string ⟨#[108, 97, 98, 101, 108]⟩, .string ⟨#[111, 112, 116, 105, 111, 110]⟩, .string ⟨#[111, 112, 116, 103, 114, 111, 117, 112]⟩, .string ⟨#[108, 101, 103, 101, 110, 100]⟩, .string ⟨#[100, 97, 116, 97, 108, 105, 115, 116]⟩]) (.int .i64 (k : Int))).run Try.prog w = .ok (.string (on k)) w
  | 0, _, _ => by kernel_rfl
  | 1, _, _ => by kernel_rfl
  | 2, _, _ => by kernel_rfl
  | 3, _, _ => by kernel_rfl
  | 4, _, _ => by kernel_rfl
  | 5, _, _ => by kernel_rfl
  | 6, _, _ => by kernel_rfl
  | 7, _, _ => by kernel_rfl
  | k + 8, h, _ => absurd h (by omega)

theorem wpList_store_new {P : Program} {ops : Array Oper} {rest : List Oper} {o : Oper} {a : Act} {w : World} {Q : Exit → Act → World → Prop} (hgd : o.guard = none) (ty : TypeId) (x y : Operand) (ho : o.op = .store ty x y)
    (c c' : Array Value) (hx : a.eval x = .pointer (some ⟨w.heap.size, 0, none⟩)) (hy : a.eval y = .agg c') (hi : (P.info? ty).map (·.size) = some c'.size) (hs : c.size = c'.size) (h1 : c'.all (·.oneCell') = true)
    (h : wpList P ops Q rest (a.put o.dst undef) (w.alloc (.cells c' ty))) : wpList P ops Q (o :: rest) a (w.alloc (.cells c ty)) :=
  wpList_plain hgd fun _ hK => by
    unfold Oper.wp execOp
    simp only [ho, hx, hy, Sem.run_bind, run_storeAt_new w ty c c' hi hs h1, Result.andThen_ok]
    exact hK _ _ h
theorem wpList_run {P : Program} {ops : Array Oper} {rest : List Oper} {o : Oper} {a : Act} {w : World} {Q : Exit → Act → World → Prop} (hgd : o.guard = none) (v : Value) (w' : World)
    (hr : (execOp a.eval o).run P w = .ok (.value v) w') (h : wpList P ops Q rest (a.put o.dst v) w') : wpList P ops Q (o :: rest) a w :=
  wpList_plain hgd fun _ hK => by
    unfold Oper.wp
    rw [hr]
    exact hK _ _ h
theorem types_c (w : World) : Calls Try.prog 27 #[] w fun e w' => e = .returned (.agg tyArr) ∧ Below w.heap.size w w' := by
  go_enter Try.func27, Try.ntmps27
  go_step
  go_step
  go_step
  refine wpList_run rfl (.pointer (some ⟨w.heap.size, 0, none⟩)) (w.alloc (.cells (Array.replicate 22 (.string ⟨#[]⟩)) 38)) (by kernel_rfl) ?_
  go_step
  go_step
  go_step
  go_step
  go_step
  refine wpList_run rfl (.agg tyArr) (w.alloc (.cells (Array.replicate 22 (.string ⟨#[]⟩)) 38)) (by kernel_rfl) ?_
  refine wpList_store_new rfl 38 (.tmp 0) (.tmp 1) rfl (Array.replicate 22 (.string ⟨#[]⟩)) tyArr rfl rfl (by kernel_rfl) rfl (by simp [tyArr, Value.oneCell']) ?_
  go_wp2_with fail
  refine bodyPost_ret (results_cell_row rfl _ _ w.heap.size _ tyArr (0, 0) _ rfl (heap_alloc_new w _) Try.underlying38 rfl (by kernel_rfl)) rfl ⟨rfl, ?_⟩
  exact (Below.refl _ _).alloc (Nat.le_refl _) _

/-- the first place of a text in a list -/
def place (l : List ByteArray) (m : List UInt8) : Option Nat := l.findIdx? (fun a => a.toList == m)
theorem place_some {l : List ByteArray} {m : List UInt8} {k : Nat} (hk : k < l.length) (h : ∀ j, j < k → ((l.getD j ⟨#[]⟩).toList == m) = false) (hm : ((l.getD k ⟨#[]⟩).toList == m) = true) : place l m = some k := by
  unfold place
  rw [List.findIdx?_eq_some_iff_getElem]
  refine ⟨hk, by simpa [List.getD, hk] using hm, fun j hj => ?_⟩
  have := h j hj
  have hj' : j < l.length := by omega
  simpa [List.getD, hj'] using this
theorem place_none {l : List ByteArray} {m : List UInt8} (h : ∀ j, j < l.length → ((l.getD j ⟨#[]⟩).toList == m) = false) : place l m = none := by
  unfold place
  rw [List.findIdx?_eq_none_iff]
  intro x hx
  obtain ⟨j, hj, rfl⟩ := List.mem_iff_getElem.1 hx
  have := h j hj
  simpa [List.getD, hj] using this

def kInput (ty : List UInt8) : Int := match place tyL ty with | some i => (i : Int) + 1 | none => 2
def kButton (ty : List UInt8) : Int := if ty == [114, 101, 115, 101, 116] then 26 else if ty == [98, 117, 116, 116, 111, 110] then 27 else 25
def kOut (name : List UInt8) : Int := match place outL name with | some i => 28 + (i : Int) | none => 0
/-- the kind of a node of a name with a type in small letters -/
def kindOf (name ty : List UInt8) : Int :=
  if name == [105, 110, 112, 117, 116] then kInput ty else if name == [98, 117, 116, 116, 111, 110] then kButton ty else if name == [115, 101, 108, 101, 99, 116] then 23 else if name == [116, 101, 120, 116, 97, 114, 101, 97] then 24 else kOut name

end Go.Proofs.Ytjpoliagicceaaa

/-
  Words and small laws that all walks of this seat use: bytes, 32-bit words, arrays of them.
-/
import Derived.Test.YtcfkapoppmpehaaRows
import Derived.WalkKit
import Derived.WalkSpells
import Derived.WalkLawsBesides
import Derived.Deep.QuietTactic
import Derived.BigQuiet
import Derived.Lib.Hide
import Derived.Deep.WholeRow
import Derived.Deep.MidRow
import Derived.Laws.EntriesVeiled
import Derived.Test.YtcfkapoppmpehaaTail
import Derived.Test.YtcfkapoppmpehaaSha
namespace Go.Proofs.Ytcfkapoppmpehaa
open Go.RowKit


abbrev wv (x : BitVec 32) : Value := .int .u32 (x.toNat : Int)
abbrev bv (b : UInt8) : Value := .int .u8 (b.toNat : Int)
abbrev wagg (l : List (BitVec 32)) : Value := .agg (l.map wv).toArray
abbrev bagg (l : List UInt8) : Value := .agg (l.map bv).toArray

@[go_sem] theorem bits_or32 (a b : BitVec 32) : bits BinOp.or IntKind.u32 a.toNat b.toNat = ((wor a b).toNat : Int) := by
  have h := (a ||| b).isLt
  unfold bits wor
  simp [IntKind.wrap, IntKind.bits, IntKind.signed]
  show ((a ||| b).toNat : Int) % 4294967296 = _
  rw [← BitVec.toNat_or]
  omega
@[go_sem] theorem bits_and32 (a b : BitVec 32) : bits BinOp.and IntKind.u32 a.toNat b.toNat = ((wand a b).toNat : Int) := by
  have h := (a &&& b).isLt
  unfold bits wand
  simp [IntKind.wrap, IntKind.bits, IntKind.signed]
  show ((a &&& b).toNat : Int) % 4294967296 = _
  rw [← BitVec.toNat_and]
  omega
@[go_sem] theorem bits_xor32 (a b : BitVec 32) : bits BinOp.xor IntKind.u32 a.toNat b.toNat = ((wxor a b).toNat : Int) := by
  have h := (a ^^^ b).isLt
  unfold bits wxor
  simp [IntKind.wrap, IntKind.bits, IntKind.signed]
  show ((a ^^^ b).toNat : Int) % 4294967296 = _
  rw [← BitVec.toNat_xor]
  omega
@[go_sem] theorem add32 (a b : BitVec 32) : ((a.toNat : Int) + (b.toNat : Int)) % 4294967296 = ((wadd a b).toNat : Int) := by
  unfold wadd; rw [BitVec.toNat_add]; omega
@[go_sem] theorem add32w (a b : BitVec 32) : IntKind.u32.wrap ((a.toNat : Int) + (b.toNat : Int)) = ((wadd a b).toNat : Int) := by
  rw [IntKind.wrap_u32]; exact add32 a b

theorem shr_nat (x : BitVec 32) (n : Nat) : ((x.toNat : Int) / 2 ^ n) = ((wshr x n).toNat : Int) := by
  unfold wshr; simp [BitVec.toNat_ushiftRight, Nat.shiftRight_eq_div_pow]
theorem rotr_nat (x : BitVec 32) (n : Nat) (hn : n < 32) :
    bits BinOp.or IntKind.u32 (↑x.toNat / 2 ^ n) (↑x.toNat * 2 ^ (32 - n) % 4294967296) = ((wror x n).toNat : Int) := by
  have h1 : ((x.toNat : Int) / 2 ^ n) = ((x >>> n).toNat : Int) := by
    simp [BitVec.toNat_ushiftRight, Nat.shiftRight_eq_div_pow]
  have h2 : ((x.toNat : Int) * 2 ^ (32 - n) % 4294967296) = ((x <<< (32 - n)).toNat : Int) := by
    simp [BitVec.toNat_shiftLeft, Nat.shiftLeft_eq]
  unfold wror
  rw [h1, h2, BitVec.rotateRight_def, Nat.mod_eq_of_lt hn, bits_or32]
  rfl

/-- A whole array is stored into the block that was made last. -/
theorem wpList_store_new {P : Program} {ops : Array Oper} {rest : List Oper} {o : Oper} {a : Act} {w : World} {Q : Exit → Act → World → Prop} (hgd : o.guard = none) (ty : TypeId) (x y : Operand) (ho : o.op = .store ty x y)
    (t : TypeId) (c cells : Array Value) (hx : a.eval x = .pointer (some ⟨w.heap.size, 0, none⟩)) (hy : a.eval y = .agg cells)
    (hi : (P.info? ty).map (·.size) = some cells.size) (hc : c.size = cells.size) (h1 : cells.all (·.oneCell') = true)
    (h : wpList P ops Q rest (a.put o.dst undef) (w.alloc (.cells cells t))) : wpList P ops Q (o :: rest) a (w.alloc (.cells c t)) :=
  wpList_plain hgd fun _ hK => wp_store_row ty x y ho w.heap.size cells hx hy t c (heap_alloc_new w _) hi hc h1 (by rw [World.setRow_alloc_new]; exact hK _ _ h)

/-- A whole array is stored into a block that is known. -/
theorem wpList_store_row {P : Program} {ops : Array Oper} {rest : List Oper} {o : Oper} {a : Act} {w : World} {Q : Exit → Act → World → Prop} (hgd : o.guard = none) (ty : TypeId) (x y : Operand) (ho : o.op = .store ty x y)
    (g : Nat) (t : TypeId) (c cells : Array Value) (hx : a.eval x = .pointer (some ⟨g, 0, none⟩)) (hy : a.eval y = .agg cells) (hg : w.heap[g]? = some (.cells c t (0, 0)))
    (hi : (P.info? ty).map (·.size) = some cells.size) (hc : c.size = cells.size) (h1 : cells.all (·.oneCell') = true)
    (h : wpList P ops Q rest (a.put o.dst undef) (w.setRow g cells)) : wpList P ops Q (o :: rest) a w :=
  wpList_plain hgd fun _ hK => wp_store_row ty x y ho g cells hx hy t c hg hi hc h1 (hK _ _ h)
theorem below_setRow' {B g : Nat} {w0 w : World} (hb : Below B w0 w) (hBg : B ≤ g) (cs : Array Value) : Below B w0 (w.setRow g cs) :=
  hb.trans ⟨rfl, rfl, rfl, by simp, fun k hk => setRow_other w g k cs (by omega)⟩

theorem below_drewN {B : Nat} {a w : World} (h : Below B a w) (n : Nat) : Below B a (w.drewN n) := ⟨h.os, h.tape, h.output, h.size, h.block⟩
/-- What 'Below' says of old cells, in the walk's own spelling. -/
theorem bcell {B : Nat} {W w1 : World} (hb : Below B W w1) : (∀ b o, b < B → w1.cell? ⟨b, o, none⟩ = W.cell? ⟨b, o, none⟩) ∧ (∀ b o, b < B → w1.frozen? ⟨b, o, none⟩ = W.frozen? ⟨b, o, none⟩) :=
  ⟨fun b o h => hb.cell (p := ⟨b, o, none⟩) h, fun b o h => hb.frozen (p := ⟨b, o, none⟩) h⟩
/-- THE WORLD w, THE TAPE ASKED SOME TIMES MORE, NEW BLOCKS LAID. -/
structure Gp where
  d : Nat
  os : Array Obj
instance : Inhabited Gp := ⟨⟨0, #[]⟩⟩
def gro (w : World) (p : Gp) : World := { w with heap := w.heap ++ p.os, drawn := p.d }
theorem gro_heap {w : World} {g : Nat} {o : Obj} (h : w.heap[g]? = some o) (p : Gp) : (gro w p).heap[g]? = some o := by
  have hlt : g < w.heap.size := (Array.getElem?_eq_some_iff.1 h).1
  show (w.heap ++ p.os)[g]? = some o
  rw [Array.getElem?_append_left hlt, h]
theorem gro_size (w : World) (p : Gp) : w.heap.size ≤ (gro w p).heap.size := by
  show w.heap.size ≤ (w.heap ++ p.os).size
  simp
theorem below_gro (w : World) (p : Gp) : Below w.heap.size w (gro w p) :=
  ⟨rfl, rfl, rfl, gro_size w p, fun k hk => by
    show (w.heap ++ p.os)[k]? = _
    rw [Array.getElem?_append_left hk]⟩
theorem gro_of_below {w w' : World} (h : Below w.heap.size w w') : ∃ p : Gp, w' = gro w p := by
  refine ⟨⟨w'.drawn, w'.heap.extract w.heap.size w'.heap.size⟩, ?_⟩
  obtain ⟨heap', tape', drawn', os', output'⟩ := w'
  have e1 : os' = w.os := h.os
  have e2 : tape' = w.tape := h.tape
  have e3 : output' = w.output := h.output
  have hs : w.heap.size ≤ heap'.size := h.size
  have hb : ∀ k, k < w.heap.size → heap'[k]? = w.heap[k]? := h.block
  subst e1 e2 e3
  have eh : heap' = w.heap ++ heap'.extract w.heap.size heap'.size := by
    apply Array.ext_getElem?
    intro k
    by_cases hk : k < w.heap.size
    · rw [Array.getElem?_append_left hk]; exact hb k hk
    · rw [Array.getElem?_append_right (by omega), Array.getElem?_extract]
      by_cases hk2 : k < heap'.size
      · rw [if_pos (by omega)]; congr 1; omega
      · rw [if_neg (by omega), Array.getElem?_eq_none (by omega)]
  simp only [gro]
  congr 1
theorem gro_start (w : World) : ∃ p : Gp, w.drew = gro w p := gro_of_below ((Below.refl _ _).drew)
def Gp.then (p q : Gp) : Gp := ⟨q.d, p.os ++ q.os⟩
@[simp, go_sem] theorem gro_gro (w : World) (p q : Gp) : gro (gro w p) q = gro w (p.then q) := by simp [gro, Gp.then]
theorem gro_cell {w : World} {a : Addr} {v : Value} (h : w.cell? a = some v) (p : Gp) : (gro w p).cell? a = some v := by
  rw [(below_gro w p).cell (block_lt_of_cell h)]; exact h
theorem gro_free {w : World} {a : Addr} {v : Value} {b : Bool} (h : w.cell? a = some v) (hf : w.frozen? a = b) (p : Gp) : (gro w p).frozen? a = b := by
  rw [(below_gro w p).frozen (block_lt_of_cell h)]; exact hf
/-- A callee's contract that ends in 'Below', met in a world of the class. -/
theorem gro_call {P : Program} {f : FuncId} {args : Array Value} {w : World} {p : Gp} {v : Value}
    (h : Calls P f args (gro w p) fun e w' => e = .returned v ∧ Below (gro w p).heap.size (gro w p) w') : Calls P f args (gro w p) fun e w'' => e = .returned v ∧ ∃ q : Gp, w'' = gro w q :=
  h.mono fun _ _ ⟨he, hb⟩ => ⟨he, gro_of_below ((below_gro w p).trans (hb.mono (gro_size w p)))⟩
/-- A region that draws its order and only reads (or calls what only lays new blocks). -/
theorem wp_region_qgro {P : Program} {id : Nat} {Q : Exit → Act → World → Prop} {a : Act} {w : World} {l : List Oper} (hm : P.follows .mixedOrders = true) (hB : Region.lexB .any l.toArray = true)
    (h : wpQuiet P l.toArray (fun w' => ∃ p : Gp, w' = gro w p) (fun a' => ∀ w', (∃ p : Gp, w' = gro w p) → Q .normal a' w') l a) : (Code.region id l.toArray true).wp P Q a w :=
  wp_region_quiet (C := fun w' => ∃ p : Gp, w' = gro w p) hm hB (gro_start w) (by simpa using h)
/-- The same with a tail of forced order. -/
theorem wp_region_qgrot {P : Program} {id : Nat} {Q : Exit → Act → World → Prop} {a : Act} {w : World} {l : List Oper} (n : Nat) (hm : P.follows .mixedOrders = true) (hB : Region.lexTailB .any l.toArray n = true)
    (h : wpQuiet P l.toArray (fun w' => ∃ p : Gp, w' = gro w p) (fun a' => ∀ w', (∃ p : Gp, w' = gro w p) → wpList P l.toArray Q (l.drop n) a' w') (l.take n) a) : (Code.region id l.toArray true).wp P Q a w :=
  wp_region_qtail n (fun w' => ∃ p : Gp, w' = gro w p) hm hB (gro_start w) h
theorem heap_foldl (os : List Obj) : ∀ w : World, (os.foldl World.alloc w).heap = w.heap ++ os.toArray := by
  induction os with
  | nil => intro w; simp
  | cons o os ih =>
    intro w
    rw [List.foldl_cons, ih]
    show w.heap.push o ++ os.toArray = _
    simp
/-- New blocks in a row: the i-th of them. -/
theorem heap_allocs (w : World) (os : List Obj) (i : Nat) : (os.foldl World.alloc w).heap[w.heap.size + i]? = os[i]? := by
  rw [heap_foldl, Array.getElem?_append_right (by omega)]
  simp
theorem below_allocs (os : List Obj) : ∀ w : World, Below w.heap.size w (os.foldl World.alloc w) := by
  induction os with
  | nil => intro w; exact Below.refl _ _
  | cons o os ih =>
    intro w
    exact ((Below.refl _ _).alloc (Nat.le_refl _) o).trans ((ih (w.alloc o)).mono (by simp))
/-- A cell out of an array by value: elements of one cell. -/
theorem run_index_cells {P : Program} (w : World) (t e n : Nat) (d : TypeDesc) (hu : P.underlying t = some (.array n e)) (he : P.underlying e = some d) (hd : d.isRow = false)
    (hs : (P.info? e).map (·.size) = some 1) (cs : Array Value) (i : Nat) (v : Value) (hi : i < n) (hv : cs[i]? = some v) :
    (Instr.index t (.agg cs) (.int .i64 i)).run P w = .ok v w := by
  have hagg : (isAgg e).run P w = .ok false w := by
    unfold isAgg
    rw [Sem.run_bind, run_underlying he w]
    cases d <;> simp_all
  cases hq : P.info? e with
  | none => simp [hq] at hs
  | some i0 =>
    have h1 : i0.size = 1 := by simpa [hq] using hs
    simp [Instr.index, asIntOf, run_underlying hu, sizeOf, typeInfo, hq, h1, part, hagg, hv]
    omega
theorem run_index69 (w : World) (l : List (BitVec 32)) (hl : l.length = 64) (i : Nat) (hi : i < 64) :
    (Instr.index 69 (.agg (l.map wv).toArray) (.int .i64 i)).run Try.prog w = .ok (wv (l.getD i 0#32)) w :=
  run_index_cells w 69 64 64 (.int .u32) (by kernel_rfl) (by kernel_rfl) rfl (by kernel_rfl) _ i _ hi (by simp [hl, hi])
theorem run_index65 (w : World) (l : List (BitVec 32)) (hl : l.length = 8) (i : Nat) (hi : i < 8) :
    (Instr.index 65 (.agg (l.map wv).toArray) (.int .i64 i)).run Try.prog w = .ok (wv (l.getD i 0#32)) w :=
  run_index_cells w 65 64 8 (.int .u32) (by kernel_rfl) (by kernel_rfl) rfl (by kernel_rfl) _ i _ hi (by simp [hl, hi])
theorem run_index24 (w : World) (l : List UInt8) (hl : l.length = 32) (i : Nat) (hi : i < 32) :
    (Instr.index 24 (.agg (l.map bv).toArray) (.int .i64 i)).run Try.prog w = .ok (bv (l.getD i 0)) w :=
  run_index_cells w 24 5 32 (.int .u8) (by kernel_rfl) (by kernel_rfl) rfl (by kernel_rfl) _ i _ hi (by simp [hl, hi])
theorem ret_val {a b : Value} (h : a = b) : Ending.returned a = .returned b := by rw [h]

end Go.Proofs.Ytcfkapoppmpehaa

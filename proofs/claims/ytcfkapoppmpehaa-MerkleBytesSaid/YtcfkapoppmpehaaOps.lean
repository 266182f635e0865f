/-
  What the readings of signatures give.
-/
import Derived.Test.YtcfkapoppmpehaaOpb
import Derived.Test.YtcfkapoppmpehaaSg2
namespace Go.Proofs.Ytcfkapoppmpehaa
open Go.ChangeShapes Go.WideShapes Go.ChangeAt Go.RowKit Go.Deep

/-- A signature, with the values that its cells hold. -/
structure Sg8 where
  leaf : Int
  cv : Value
  pv : Value
  cs : List (List UInt8)
  ps : List (List UInt8)
  deriving Inhabited
def Sg8.row (c : Sg8) : List Value := [.int .i64 c.leaf, c.cv, c.pv]
def Sg8.good (w : World) (c : Sg8) : Prop := RdI w c.cv c.cs ∧ RdI w c.pv c.ps
/-- A row of bytes, with its value. -/
structure Bs8 where
  v : Value
  bs : List UInt8
  deriving Inhabited
def Bs8.row (c : Bs8) : List Value := [c.v]
def Bs8.good (w : World) (c : Bs8) : Prop := RdB w c.v c.bs ∧ c.bs.length ≤ maxLen

section
variable {H : Type} {enc : TypeId × Value → H} {w : World} {spare : Nat → Bool} {held : Bool} {b0 : Nat} {r : Reach} {v : Value} {d : DataW H} {ps : List MemPlace}
theorem read_signed (n : Nat) (cs : List Value) (y : DataW H × List MemPlace) (h : DataW.trod enc Try.prog w 0 spare held n 49 cs = some y) : ∃ c : Sg8, c.good w ∧ cs = c.row := by
  obtain ⟨m, hl, F⟩ := read_field (t := 49) (k := 3) (by kernel_rfl) (by kernel_rfl) h
  obtain ⟨y0, h0⟩ := F 0 3 0 1 (by kernel_rfl) (by kernel_rfl)
  obtain ⟨y1, h1⟩ := F 1 27 1 1 (by kernel_rfl) (by kernel_rfl)
  obtain ⟨y2, h2⟩ := F 2 27 2 1 (by kernel_rfl) (by kernel_rfl)
  obtain ⟨a, e0⟩ := read_int h0
  obtain ⟨u1, i1, e1, r1, _⟩ := read_ids h1
  obtain ⟨u2, i2, e2, r2, _⟩ := read_ids h2
  refine ⟨⟨a, u1, u2, i1, i2⟩, ⟨r1, r2⟩, ?_⟩
  have := drop_one (o := 0) (n := 3) e0 (by omega) hl
  rw [List.drop_zero] at this
  rw [this, drop_one (n := 3) e1 (by omega) hl, drop_one (n := 3) e2 (by omega) hl, List.drop_of_length_le (by omega)]
  rfl
theorem read_rowb (n : Nat) (cs : List Value) (y : DataW H × List MemPlace) (h : DataW.trod enc Try.prog w 0 spare held n 42 cs = some y) : ∃ c : Bs8, c.good w ∧ cs = c.row := by
  obtain ⟨u, bs, e, r, hm⟩ := read_bytes h
  exact ⟨⟨u, bs⟩, ⟨r, hm⟩, e⟩
set_option maxRecDepth 100000 in
theorem arg_signed (h : DataW.Trod enc Try.prog w 0 spare held 49 v d ps) : ∃ l c p, RdS w v l c p := by
  obtain ⟨fuel, h⟩ := h
  obtain ⟨c, ⟨h1, h2⟩, e⟩ := read_signed _ _ _ h
  exact ⟨c.leaf, c.cs, c.ps, c.cv, c.pv, cells_agg e (by simp), h1, h2⟩
set_option maxRecDepth 100000 in
theorem arg_signeds (hval : Value.okWide Try.prog w r b0 46 v) (h : DataW.Trod enc Try.prog w 0 spare held 46 v d ps) : ∃ ts, RdRows 3 Sg8.row Sg8.good w v ts :=
  arg_rows (show Try.prog.underlying 46 = some (.slice 49) from by kernel_rfl) (by kernel_rfl) (by omega) _ _ read_signed hval h
set_option maxRecDepth 100000 in
theorem arg_rowsb (hval : Value.okWide Try.prog w r b0 47 v) (h : DataW.Trod enc Try.prog w 0 spare held 47 v d ps) : ∃ ts, RdRows 1 Bs8.row Bs8.good w v ts :=
  arg_rows (show Try.prog.underlying 47 = some (.slice 42) from by kernel_rfl) (by kernel_rfl) (by omega) _ _ read_rowb hval h
end
end Go.Proofs.Ytcfkapoppmpehaa

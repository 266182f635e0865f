/-
  Operations that are taken first where a region draws its order: what they yield.
-/
import Derived.Test.YtcfkapoppmpehaaRn
import Derived.OrdersHeld
namespace Go.Proofs.Ytcfkapoppmpehaa
open Go Go.RowKit

section
variable {P : Program} {ops : Array Oper} {S : World → Prop} {a : Act} {o : Oper}
theorem yl_row (hg : o.guard = none) (ty : TypeId) (x : Operand) (ho : o.op = .load ty x)
    (b off : Nat) (hx : a.eval x = .pointer (some ⟨b, off, none⟩)) (cs : List Value) (d : TypeDesc) (hS : ∀ w, S w → w.rangeAt b off cs)
    (hu : P.underlying ty = some d) (hd : d.isRow = true) (hi : (P.info? ty).map (·.size) = some cs.length) : YieldsIf P ops S o (.agg cs.toArray) a :=
  .inl ⟨by simp [Region.wanted, hg], fun w hw => by
    unfold execOp
    simp only [ho, hx, Instr.loadAt, Instr.sureAddr, Sem.run_bind, Sem.run_pure, Result.andThen_ok, run_loadVar_mid w b off ty cs d (hS w hw) hu hd hi]⟩
theorem yl_cell (hg : o.guard = none) (ty : TypeId) (x : Operand) (ho : o.op = .load ty x)
    (p : Addr) (hx : a.eval x = .pointer (some p)) (v : Value) (hS : ∀ w, S w → w.cell? p = some v)
    (d : TypeDesc) (hu : P.underlying ty = some d) (hd : d.isRow = false) : YieldsIf P ops S o v a :=
  .inl ⟨by simp [Region.wanted, hg], fun w hw => by
    have hagg : (isAgg ty).run P w = .ok false w := by
      unfold isAgg
      rw [Sem.run_bind, run_underlying hu w]
      cases d <;> simp_all
    unfold execOp
    simp only [ho, hx, Instr.loadAt, Instr.sureAddr, Sem.run_bind, Sem.run_pure, Result.andThen_ok]
    simp [loadVar, hagg, hS w hw]⟩
theorem yl_move (hg : o.guard = none) (x : Operand) (ho : o.op = .move x) (v : Value) (hx : a.eval x = v) : YieldsIf P ops S o v a :=
  .inl ⟨by simp [Region.wanted, hg], fun w _ => by
    unfold execOp
    simp only [ho, hx]
    rfl⟩
theorem yl_assign (hg : o.guard = none) (x : Operand) (ho : o.op = .assign x) (v : Value) (hx : a.eval x = v) : YieldsIf P ops S o v a :=
  .inl ⟨by simp [Region.wanted, hg], fun w _ => by
    unfold execOp
    simp only [ho, hx]
    rfl⟩
theorem yl_extract (hg : o.guard = none) (x : Operand) (i : Nat) (ho : o.op = .extract x i) (vs : Array Value) (hx : a.eval x = .tuple vs) (v : Value) (hv : vs[i]? = some v) : YieldsIf P ops S o v a :=
  .inl ⟨by simp [Region.wanted, hg], fun w _ => by
    unfold execOp
    simp only [ho, hx]
    simp [Instr.extract, hv]⟩
theorem yl_indexAddr (hg : o.guard = none) (t e : TypeId) (sz : Nat) (x y : Operand) (ho : o.op = .indexAddr t x y) (b off n c i : Nat) (hu : P.underlying t = some (.slice e)) (hs : (P.info? e).map (·.size) = some sz)
    (hx : a.eval x = .slice (some ⟨b, off, none⟩) n c) (hy : a.eval y = .int .i64 (i : Nat)) (hi : i < n) : YieldsIf P ops S o (.pointer (some ⟨b, off + i * sz, none⟩)) a :=
  .inl ⟨by simp [Region.wanted, hg], fun w _ => by
    unfold execOp
    simp only [ho, hx, hy]
    cases hq : P.info? e with
    | none => simp [hq] at hs
    | some i0 =>
      have h1 : i0.size = sz := by simpa [hq] using hs
      simp [Instr.indexAt, go_sem, run_underlying hu, sizeOf, typeInfo, hq, h1, hi]⟩
end
end Go.Proofs.Ytcfkapoppmpehaa

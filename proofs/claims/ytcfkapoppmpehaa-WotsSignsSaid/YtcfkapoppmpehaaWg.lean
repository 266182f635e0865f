/-
  Rows of numbers of the call's own; the digits of a digest.
-/
import Derived.Test.YtcfkapoppmpehaaWk
namespace Go.Proofs.Ytcfkapoppmpehaa
open Go.RowKit

def nv (n : Nat) : Value := .int .i64 (n : Int)
/-- A row of numbers of the call's own. -/
def OwnN (w : World) (base : Nat) (v : Value) (ns : List Nat) : Prop := w.ownsRow base 3 1 v ns.length (ns.map nv)
theorem OwnN.nil (w : World) (base : Nat) : OwnN w base (.slice none 0 0) [] := ⟨rfl, .inl ⟨rfl, rfl⟩⟩
theorem OwnN.alloc {w : World} {base : Nat} {v : Value} {ns : List Nat} (h : OwnN w base v ns) (o : Obj) : OwnN (w.alloc o) base v ns := World.ownsRow.alloc (w := w) h o
theorem OwnN.below {w w' : World} {base : Nat} {v : Value} {ns : List Nat} (h : OwnN w base v ns) (hb : Below w.heap.size w w') : OwnN w' base v ns := owns_below h hb
theorem OwnN.rd {w : World} {base : Nat} {v : Value} {ns : List Nat} (h : OwnN w base v ns) : RdN w v ns := by
  rcases h with ⟨h1, ⟨rfl, h2⟩ | ⟨g, cap, cur, rfl, hbg, hg, hc, _, hs, ht⟩⟩
  · exact ⟨none, 0, by rw [h2], by omega, fun h => by omega⟩
  · refine ⟨_, cap, rfl, hc, fun _ => ⟨g, 0, rfl, fun i hi => ?_⟩⟩
    rw [Nat.zero_add, cell_of_row _ _ _ _ _ _ hg]
    have h2 : (cur.toList.take (ns.length * 1))[i]? = (ns.map nv)[i]? := by rw [ht]
    rw [List.getElem?_take, if_pos (by omega)] at h2
    rw [← Array.getElem?_toList, h2]
    simp [hi, nv]
theorem info3 : (Try.prog.info? 3).map (fun i => (i.zero, i.size, i.bytes)) = some (some (.int .i64 0), 1, 8) := by kernel_rfl
/-- append of numbers onto a row of numbers of the call's own. -/
theorem wpList_append_nums {ops : Array Oper} {rest : List Oper} {o : Oper} {a : Act} {w : World} {Q : Exit → Act → World → Prop} (hgd : o.guard = none) (s x : Operand)
    (ho : o.op = .call { callee := .builtin .append, args := #[s, x], argTypes := #[77, 77] }) (base : Nat) (v : Value) (bs : List Nat) (hs : a.eval s = v) (hown : OwnN w base v bs)
    (g m : Nat) (ns : List Nat) (hx : a.eval x = .slice (some ⟨g, 0, none⟩) m m) (hm : ns.length = m) (t : TypeId) (hg : w.heap[g]? = some (.cells (ns.map nv).toArray t (0, 0))) (hsmall : bs.length + m ≤ 100000)
    (w0 : World) (hb : Below base w0 w) (hbase : base ≤ w.heap.size)
    (h : ∀ v' w', OwnN w' base v' (bs ++ ns) → Below base w0 w' → wpList Try.prog ops Q rest (a.put o.dst v') w') : wpList Try.prog ops Q (o :: rest) a w := by
  obtain ⟨i0, hi, hz0, hz1, hz2⟩ := info_parts info3
  subst hm
  refine wpList_append_own (P := Try.prog) w hgd s x 77 ho base 3 i0 (.int .i64 0) 1 8 (by kernel_rfl) hi hz0 hz1 hz2 rfl (by decide) v bs.length _ hs hown ⟨g, 0, none⟩ ns.length ns.length (ns.map nv) hx (by simp) (fun j u hu => ?_) (fun u hu => ?_) (by unfold maxLen; omega) (by omega) hbase (fun v' w' ho' hg' _ => ?_)
  · have hj : j < ns.length := by
      have := (List.getElem?_eq_some_iff.1 hu).1
      simpa using this
    rw [Addr.add_mid, Nat.zero_add, cell_of_row _ _ _ _ _ _ hg, ← hu]
    simp
  · obtain ⟨z, _, rfl⟩ := List.mem_map.1 hu; rfl
  · refine h v' w' (by unfold OwnN; rw [List.length_append, List.map_append]; exact ho') (hb.grown hg' hbase (fun k hk => (World.ownsRow.lt hown k hk).1))

/-- The digits of bytes, their check sum, and all digits. -/
def hexN (m : List UInt8) : List Nat := m.flatMap fun b => [b.toNat / 16, b.toNat % 16]
def sumN (ds : List Nat) : Nat := (ds.map (15 - ·)).sum
def digN (m : List UInt8) : List Nat := hexN m ++ [sumN (hexN m) / 256, sumN (hexN m) / 16 % 16, sumN (hexN m) % 16]
end Go.Proofs.Ytcfkapoppmpehaa

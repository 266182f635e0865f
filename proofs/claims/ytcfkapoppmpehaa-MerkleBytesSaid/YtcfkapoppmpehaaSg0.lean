/-
  Rows of digests: parts, lengths, appends.
-/
import Derived.Test.YtcfkapoppmpehaaFrs
namespace Go.Proofs.Ytcfkapoppmpehaa
open Go.RowKit

theorem RdI.takeM {w : World} {a : Option Addr} {n c : Nat} {ids : List (List UInt8)} (h : RdI w (.slice a n c) ids) (m : Nat) : RdI w (.slice a (ids.take m).length c) (ids.take m) := by
  obtain ⟨a0, c0, hv, hc, hl, hr⟩ := h
  cases hv
  refine ⟨a, c, rfl, by simp; omega, fun i hi => ?_, fun h0 => ?_⟩
  · have h2 : i < m ∧ i < ids.length := by simp at hi; omega
    have := hl i h2.2
    rw [List.getD_eq_getElem?_getD, List.getElem?_take, if_pos h2.1, ← List.getD_eq_getElem?_getD]
    exact this
  · have h2 : 0 < ids.length := by simp at h0; omega
    obtain ⟨b, o, rfl, hrr⟩ := hr h2
    refine ⟨b, o, rfl, fun i hi => ?_⟩
    have h2 : i < m ∧ i < ids.length := by simp at hi; omega
    rw [List.getD_eq_getElem?_getD, List.getElem?_take, if_pos h2.1, ← List.getD_eq_getElem?_getD]
    exact hrr i h2.2
theorem flatten_len32 (l : List (List UInt8)) (h : ∀ x ∈ l, x.length = 32) : l.flatten.length = 32 * l.length := by
  induction l with
  | nil => rfl
  | cons a l ih => rw [List.flatten_cons, List.length_append, ih (fun x hx => h x (List.mem_cons_of_mem _ hx)), h a (List.mem_cons_self ..), List.length_cons]; omega
theorem laid_fromM (l : List Value) : ∀ (k : Nat) (z : Array Value), z.size = k + l.length → (List.foldl (fun (cs : Array Value) (x : Value × Nat) => cs.setIfInBounds x.snd x.fst) z (l.zipIdx k)).toList = z.toList.take k ++ l := by
  induction l with
  | nil =>
    intro k z h
    have : z.toList.length = k := by simpa using h
    rw [List.zipIdx_nil, List.foldl_nil, List.append_nil, List.take_of_length_le (by omega)]
  | cons v l ih =>
    intro k z h
    rw [List.zipIdx_cons, List.foldl_cons, ih (k + 1) _ (by simp at h ⊢; omega)]
    have hk : k < z.toList.length := by simp at h ⊢; omega
    rw [Array.toList_setIfInBounds, List.take_add_one, List.take_set_of_le (Nat.le_refl _), List.getElem?_set_self hk]
    simp
/-- A row that is built out of an array's cells. -/
theorem laid_rowM (l : List Value) (z : Array Value) (h : z.size = l.length) : List.foldl (fun (cs : Array Value) (x : Value × Nat) => cs.setIfInBounds x.snd x.fst) z l.zipIdx = l.toArray := by
  apply Array.ext'
  rw [laid_fromM l 0 z (by omega)]
  simp
theorem flat_oneM (ids : List (List UInt8)) (y : List UInt8) : flat (ids ++ [y]) = flat ids ++ y.map bv := by simp [flat]
/-- append of one digest onto a row of digests of the call's own. -/
theorem wpList_append_id_ownM {ops : Array Oper} {rest : List Oper} {o : Oper} {a : Act} {w : World} {Q : Exit → Act → World → Prop} (hgd : o.guard = none) (s x : Operand)
    (ho : o.op = .call { callee := .builtin .append, args := #[s, x], argTypes := #[27, 27] }) (base : Nat) (v : Value) (ids : List (List UInt8)) (hs : a.eval s = v) (hown : OwnI w base v ids)
    (g : Nat) (y : List UInt8) (hx : a.eval x = .slice (some ⟨g, 0, none⟩) 1 1) (hy : y.length = 32) (hg : w.heap[g]? = some (.cells (y.map bv).toArray 24 (0, 0))) (hsmall : ids.length ≤ 100000)
    (w0 : World) (hb : Below base w0 w) (hbase : base ≤ w.heap.size)
    (h : ∀ v' w', OwnI w' base v' (ids ++ [y]) → Below base w0 w' → wpList Try.prog ops Q rest (a.put o.dst v') w') : wpList Try.prog ops Q (o :: rest) a w := by
  obtain ⟨i0, hi, hz0, hz1, hz2⟩ := info24
  refine wpList_append_own (P := Try.prog) w hgd s x 27 ho base 24 i0 (.agg zero24) 32 32 (by kernel_rfl) hi hz0 hz1 hz2 rfl (by decide) v ids.length _ hs hown.2 ⟨g, 0, none⟩ 1 1 (y.map bv) hx (by simp [hy]) (fun j u hu => ?_) (fun u hu => ?_) (by unfold maxLen; omega) (by omega) hbase (fun v' w' ho' hg' _ => ?_)
  · have hj := (List.getElem?_eq_some_iff.1 hu).1
    rw [List.length_map] at hj
    rw [cells_row _ hg j hj, ← hu]
    simp [hj]
  · obtain ⟨z, _, rfl⟩ := List.mem_map.1 hu; rfl
  · refine h v' w' ⟨fun i hi => ?_, ?_⟩ (hb.grown hg' hbase (fun k hk => (hown.2.lt k hk).1))
    · by_cases hlt : i < ids.length
      · have := hown.1 i hlt
        rwa [List.getD_eq_getElem?_getD, List.getElem?_append_left hlt, ← List.getD_eq_getElem?_getD]
      · obtain rfl : i = ids.length := by simp at hi; omega
        simp [hy]
    · rw [flat_oneM, List.length_append, List.length_singleton]; exact ho'
end Go.Proofs.Ytcfkapoppmpehaa

/-
  append onto a new empty slice: nothing that was there turns.
-/
import Derived.Test.YtcfkapoppmpehaaRefp
import Derived.Test.YtcfkapoppmpehaaL03
import Derived.Test.YtcfkapoppmpehaaRel
namespace Go.Proofs.Ytcfkapoppmpehaa
open Go.RowKit

theorem run_append_fresh {P : Program} (w : World) (t ty e : TypeId) (i : TypeInfo) (z : Value) (ht : P.underlying t = some (.slice e)) (hi : P.info? e = some i) (hz : i.zero = some z) (hzs : z.cells.size = i.size)
    (base g : Nat) (hg : w.heap[g]? = some (.cells #[] e (0, 0))) (hbg : base ≤ g) (hbase : base ≤ w.heap.size) (x : Option Addr) (m c : Nat) (news : List Value) (hl : news.length = m * i.size)
    (hnews : 0 < m → ∃ ad, x = some ad ∧ ∀ j u, news[j]? = some u → w.cell? (ad.add j) = some u) (hm : m ≤ 100000) (hby : i.bytes ≤ 1000) :
    ∃ v' w', (Builtin.append_ #[t, t] ty #[.slice (some ⟨g, 0, none⟩) 0 0, .slice x m c]).run P w = .ok v' w' ∧ w'.ownsRow base e i.size v' m news ∧ Below w.heap.size w w' := by
  by_cases h0 : 0 < m
  · obtain ⟨ad, rfl, hn⟩ := hnews h0
    have hge := grownCap_ge w (0 + m) 0 e
    have hcm : grownCap w (0 + m) 0 e ≤ maxLen := grownCap_le_maxLen w (0 + m) 0 e (by unfold maxLen; omega)
    have hfit : Builtin.nextslicecap (0 + m) 0 * i.bytes ≤ 281474976710656 := by
      rw [nextslicecap_zero (by omega)]
      exact Nat.le_trans (Nat.mul_le_mul (show 0 + m ≤ 100000 by omega) hby) (by omega)
    have hr := run_append_grow (P := P) w t ty e i z ht hi hz ⟨g, 0, none⟩ 0 0 [] (by simp) (fun j v h => by simp at h) ad m c news hl hn (by omega) (by omega) hfit
    rw [Nat.zero_add] at hge hcm hr
    refine ⟨_, _, hr, ⟨hl, .inr ⟨w.heap.size, _, _, rfl, hbase, heap_alloc_new w.drew _, by omega, hcm, ?_, ?_⟩⟩, (Below.refl _ _).drew.alloc (Nat.le_refl _) _⟩
    · simp only [Array.size_append, List.size_toArray, size_zeroCells, hzs, hl, List.length_nil, Nat.zero_add]
      rw [← Nat.add_mul]
      congr 1
      omega
    · simp only [Array.toList_append, List.nil_append, ← hl]
      exact List.take_left
  · obtain rfl : m = 0 := by omega
    have hn : news = [] := List.length_eq_zero_iff.1 (by omega)
    subst hn
    have hr : (Builtin.append_ #[t, t] ty #[.slice (some ⟨g, 0, none⟩) 0 0, .slice x 0 c]).run P w = .ok (.slice (some ⟨g, 0, none⟩) 0 0) w := by
      cases x with
      | none => simp [Builtin.append_, run_underlying ht, sizeOf, typeInfo, zeroValue, hi, hz, Builtin.lenOf, run_firstCells_none, storeCells]
      | some a =>
        have hf := run_firstCells_some (P := P) w i.size 0 a 0 c [] (by simp) (fun j v h => by simp at h)
        simp [Builtin.append_, run_underlying ht, sizeOf, typeInfo, zeroValue, hi, hz, Builtin.lenOf, hf, storeCells]
    exact ⟨_, _, hr, ⟨by simp, .inr ⟨g, 0, #[], rfl, hbg, hg, by omega, by unfold maxLen; omega, by simp, by simp⟩⟩, Below.refl _ _⟩

theorem info24 : ∃ i0, Try.prog.info? 24 = some i0 ∧ i0.zero = some (.agg zero24) ∧ i0.size = 32 ∧ i0.bytes = 32 := by
  have h : (Try.prog.info? 24).map (fun i => (i.zero, i.size, i.bytes)) = some (some (.agg zero24), 32, 32) := by kernel_rfl
  obtain ⟨i0, hi, hzz⟩ := Option.map_eq_some_iff.1 h
  simp only [Prod.mk.injEq] at hzz
  exact ⟨i0, hi, hzz⟩
/-- A row of digests of the call's own. -/
def OwnI (w : World) (base : Nat) (v : Value) (ids : List (List UInt8)) : Prop := (∀ i, i < ids.length → (ids.getD i []).length = 32) ∧ w.ownsRow base 24 32 v ids.length (flat ids)
theorem OwnI.rd {w : World} {base : Nat} {v : Value} {ids : List (List UInt8)} (h : OwnI w base v ids) : RdI w v ids := ownsRow_rdI h.1 h.2
theorem OwnI.nil (w : World) (base : Nat) : OwnI w base (.slice none 0 0) [] := ⟨fun i hi => by simp at hi, rfl, .inl ⟨rfl, rfl⟩⟩
theorem OwnI.alloc {w : World} {base : Nat} {v : Value} {ids : List (List UInt8)} (h : OwnI w base v ids) (o : Obj) : OwnI (w.alloc o) base v ids := ⟨h.1, World.ownsRow.alloc (w := w) h.2 o⟩
theorem owns_below {w w' : World} {base : Nat} {e : TypeId} {s : Nat} {v : Value} {n : Nat} {xs : List Value} (h : w.ownsRow base e s v n xs) (hb : Below w.heap.size w w') : w'.ownsRow base e s v n xs := by
  rcases h with ⟨h1, h2 | ⟨g, cap, cur, hv, hbg, hg, hrest⟩⟩
  · exact ⟨h1, .inl h2⟩
  · exact ⟨h1, .inr ⟨g, cap, cur, hv, hbg, (hb.block _ (Array.getElem?_eq_some_iff.1 hg).1).trans hg, hrest⟩⟩
theorem OwnI.below {w w' : World} {base : Nat} {v : Value} {ids : List (List UInt8)} (h : OwnI w base v ids) (hb : Below w.heap.size w w') : OwnI w' base v ids := ⟨h.1, owns_below h.2 hb⟩

/-- append of digests onto a new empty slice. -/
theorem append_ids {w : World} (ty : TypeId) {base g : Nat} (hg : w.heap[g]? = some (.cells #[] 24 (0, 0))) (hbg : base ≤ g) (hbase : base ≤ w.heap.size) {xv : Value} {ids : List (List UInt8)} (hrd : RdI w xv ids) (hsmall : ids.length ≤ 100000) :
    ∃ v' w', (Builtin.append_ #[27, 27] ty #[.slice (some ⟨g, 0, none⟩) 0 0, xv]).run Try.prog w = .ok v' w' ∧ OwnI w' base v' ids ∧ Below w.heap.size w w' := by
  obtain ⟨i0, hi, hz0, hz1, hz2⟩ := info24
  obtain ⟨x, c, rfl, hc, hl, hr⟩ := hrd
  obtain ⟨v', w', h1, h2, h3⟩ := run_append_fresh (P := Try.prog) w 27 ty 24 i0 (.agg zero24) (by kernel_rfl) hi hz0 (by rw [hz1]; rfl) base g hg hbg hbase x ids.length c (flat ids) (by rw [hz1]; exact flat_length ids hl) (fun h0 => by
    obtain ⟨b, o, rfl, hrr⟩ := hr h0
    refine ⟨_, rfl, fun j u hu => ?_⟩
    have hj := (List.getElem?_eq_some_iff.1 hu).1
    rw [flat_length ids hl] at hj
    have h1 := hrr (j / 32) (by omega) (j % 32) (bv ((ids.getD (j / 32) []).getD (j % 32) 0)) (map_bv_at _ _ (by rw [hl (j / 32) (by omega)]; omega))
    rw [Addr.add_mid, show o + j = o + j / 32 * 32 + j % 32 by omega, h1, ← hu]
    rw [← flat_at ids hl (j / 32) (j % 32) (by omega) (by omega), show j / 32 * 32 + j % 32 = j by omega]) hsmall (by omega)
  rw [hz1] at h2
  exact ⟨v', w', h1, ⟨hl, h2⟩, h3⟩
/-- append of bytes onto a new empty slice. -/
theorem append_bytes {w : World} (ty : TypeId) {base g : Nat} (hg : w.heap[g]? = some (.cells #[] 5 (0, 0))) (hbg : base ≤ g) (hbase : base ≤ w.heap.size) {xv : Value} {bs : List UInt8} (hrd : RdB w xv bs) (hsmall : bs.length ≤ 100000) :
    ∃ v' w', (Builtin.append_ #[42, 42] ty #[.slice (some ⟨g, 0, none⟩) 0 0, xv]).run Try.prog w = .ok v' w' ∧ OwnB w' base v' bs ∧ Below w.heap.size w w' := by
  obtain ⟨i0, hi, hz0, hz1, hz2⟩ := info_parts info5
  obtain ⟨x, c, rfl, hc, hr⟩ := hrd
  obtain ⟨v', w', h1, h2, h3⟩ := run_append_fresh (P := Try.prog) w 42 ty 5 i0 (.int .u8 0) (by kernel_rfl) hi hz0 (by rw [hz1]; rfl) base g hg hbg hbase x bs.length c (bs.map bv) (by rw [hz1]; simp) (fun h0 => by
    obtain ⟨b, o, rfl, hrr⟩ := hr h0
    refine ⟨_, rfl, fun j u hu => ?_⟩
    have hj := (List.getElem?_eq_some_iff.1 hu).1
    rw [List.length_map] at hj
    rw [Addr.add_mid, hrr j hj, ← map_bv_at _ _ hj, hu]) hsmall (by omega)
  rw [hz1] at h2
  exact ⟨v', w', h1, h2, h3⟩
/-- At the list of a region's operations. -/
theorem wpList_fresh_bytes {ops : Array Oper} {rest : List Oper} {o : Oper} {a : Act} {w : World} {Q : Exit → Act → World → Prop} (hgd : o.guard = none) (s x : Operand)
    (ho : o.op = .call { callee := .builtin .append, args := #[s, x], argTypes := #[42, 42] }) (base g : Nat) (hs : a.eval s = .slice (some ⟨g, 0, none⟩) 0 0) (hg : w.heap[g]? = some (.cells #[] 5 (0, 0))) (hbg : base ≤ g) (hbase : base ≤ w.heap.size)
    (xv : Value) (bs : List UInt8) (hx : a.eval x = xv) (hrd : RdB w xv bs) (hsmall : bs.length ≤ 100000)
    (h : ∀ v' w', OwnB w' base v' bs → Below w.heap.size w w' → wpList Try.prog ops Q rest (a.put o.dst v') w') : wpList Try.prog ops Q (o :: rest) a w := by
  obtain ⟨v', w', hr, h1, h2⟩ := append_bytes (w := w) o.type hg hbg hbase hrd hsmall
  refine wpList_plain hgd fun K hK => ?_
  unfold Oper.wp execOp
  simp only [ho, resolve, invoke, builtin, Sem.run_bind, Sem.run_pure, Result.andThen_ok, List.map_toArray, List.map_cons, List.map_nil, hs, hx, hr]
  exact hK _ _ (h _ _ h1 h2)
theorem wpList_fresh_ids {ops : Array Oper} {rest : List Oper} {o : Oper} {a : Act} {w : World} {Q : Exit → Act → World → Prop} (hgd : o.guard = none) (s x : Operand)
    (ho : o.op = .call { callee := .builtin .append, args := #[s, x], argTypes := #[27, 27] }) (base g : Nat) (hs : a.eval s = .slice (some ⟨g, 0, none⟩) 0 0) (hg : w.heap[g]? = some (.cells #[] 24 (0, 0))) (hbg : base ≤ g) (hbase : base ≤ w.heap.size)
    (xv : Value) (ids : List (List UInt8)) (hx : a.eval x = xv) (hrd : RdI w xv ids) (hsmall : ids.length ≤ 100000)
    (h : ∀ v' w', OwnI w' base v' ids → Below w.heap.size w w' → wpList Try.prog ops Q rest (a.put o.dst v') w') : wpList Try.prog ops Q (o :: rest) a w := by
  obtain ⟨v', w', hr, h1, h2⟩ := append_ids (w := w) o.type hg hbg hbase hrd hsmall
  refine wpList_plain hgd fun K hK => ?_
  unfold Oper.wp execOp
  simp only [ho, resolve, invoke, builtin, Sem.run_bind, Sem.run_pure, Result.andThen_ok, List.map_toArray, List.map_cons, List.map_nil, hs, hx, hr]
  exact hK _ _ (h _ _ h1 h2)
/-- A slice's head. -/
theorem run_slice_head (w : World) (a0 : Option Addr) (n c m : Nat) (h : m ≤ c) : (Instr.slice 42 (.slice a0 n c) none (some (.int .i64 m)) none).run Try.prog w = .ok (.slice a0 m c) w := by
  have hu : Try.prog.underlying 42 = some (.slice 5) := by kernel_rfl
  cases a0 <;> simp [Instr.slice, run_underlying hu, Instr.sliceBounds, go_sem, h]
theorem wpList_slice_head {ops : Array Oper} {rest : List Oper} {o : Oper} {a : Act} {w : World} {Q : Exit → Act → World → Prop} (hgd : o.guard = none) (x y : Operand)
    (ho : o.op = .slice 42 x none (some y) none) (a0 : Option Addr) (n c m : Nat) (hm : m ≤ c) (hx : a.eval x = .slice a0 n c) (hy : a.eval y = .int .i64 m)
    (h : wpList Try.prog ops Q rest (a.put o.dst (.slice a0 m c)) w) : wpList Try.prog ops Q (o :: rest) a w := by
  refine wpList_plain hgd fun K hK => ?_
  have hr := run_slice_head w a0 n c m hm
  have hu : Try.prog.underlying 42 = some (.slice (Try.prog.elem 42)) := by kernel_rfl
  unfold Oper.wp execOp
  simp only [ho, hx, hy, Option.map_some, Option.map_none, Sem.run_bind, Sem.run_pure, Result.andThen_ok, run_sliceAt_slice w 42 _ _ _ _ hu, hr]
  exact hK _ _ h
end Go.Proofs.Ytcfkapoppmpehaa

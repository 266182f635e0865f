/-
  What calls of the two joins give.
-/
import Derived.Test.YtcfkapoppmpehaaSum
import Derived.Test.YtcfkapoppmpehaaHoist
namespace Go.Proofs.Ytcfkapoppmpehaa
open Go.RowKit

theorem ownsRow_rd {w : World} {base : Nat} {v : Value} {bs : List UInt8} (h : w.ownsRow base 5 1 v bs.length (bs.map bv)) : RdB w v bs := by
  rcases h.2 with ⟨rfl, h0⟩ | ⟨g, cap, cur, rfl, hbg, hg, hnc, hcm, hcs, htake⟩
  · exact ⟨none, 0, by rw [h0], by omega, fun hp => by omega⟩
  · refine ⟨_, _, rfl, hnc, fun _ => ⟨g, 0, rfl, fun j hj => ?_⟩⟩
    rw [cell_of_row _ _ _ _ _ _ hg, Nat.zero_add, ← getb bs j hj]
    rw [Nat.mul_one] at htake
    rw [← htake]
    simp [hj]

/-- New blocks in a row, the world behind them under a name of its own. -/
theorem allocs_named (w : World) (os : List Obj) : ∃ w3 : World, os.foldl World.alloc w = w3 ∧ (∀ i, w3.heap[w.heap.size + i]? = os[i]?) ∧ Below w.heap.size w w3 ∧ w3.heap.size = w.heap.size + os.length :=
  ⟨_, rfl, heap_allocs w os, below_allocs os w, by rw [heap_foldl]; simp⟩
theorem allocs_named_drew (w : World) (os : List Obj) : ∃ w3 : World, (os.foldl World.alloc w).drew = w3 ∧ (∀ i, w3.heap[w.heap.size + i]? = os[i]?) ∧ Below w.heap.size w w3 ∧ w3.heap.size = w.heap.size + os.length :=
  ⟨_, rfl, heap_allocs w os, (below_allocs os w).drew, by show (os.foldl World.alloc w).heap.size = _; rw [heap_foldl]; simp⟩

/-- append onto a row of bytes of the call's own. -/
theorem wpList_append_bytes {ops : Array Oper} {rest : List Oper} {o : Oper} {a : Act} {w : World} {Q : Exit → Act → World → Prop} (hgd : o.guard = none) (s x : Operand)
    (ho : o.op = .call { callee := .builtin .append, args := #[s, x], argTypes := #[42, 42] }) (base : Nat) (v : Value) (bs : List UInt8) (hs : a.eval s = v) (hown : w.ownsRow base 5 1 v bs.length (bs.map bv))
    (ad : Addr) (m c : Nat) (ns : List UInt8) (hx : a.eval x = .slice (some ad) m c) (hm : ns.length = m) (hnews : ∀ j, j < ns.length → w.cell? (ad.add j) = some (bv (ns.getD j 0))) (hsmall : bs.length + m ≤ 100000)
    (w0 : World) (hb : Below base w0 w) (hbase : base ≤ w.heap.size)
    (h : ∀ v' w', w'.ownsRow base 5 1 v' (bs ++ ns).length ((bs ++ ns).map bv) → Below base w0 w' → wpList Try.prog ops Q rest (a.put o.dst v') w') : wpList Try.prog ops Q (o :: rest) a w := by
  obtain ⟨i0, hi, hz0, hz1, hz2⟩ := info_parts info5
  subst hm
  refine wpList_append_own (P := Try.prog) w hgd s x 42 ho base 5 i0 (.int .u8 0) 1 1 (by kernel_rfl) hi hz0 hz1 hz2 rfl (by decide) v bs.length _ hs hown ad ns.length c (ns.map bv) hx (by simp) (fun j u hu => ?_) (fun u hu => ?_) (by unfold maxLen; omega) (by omega) hbase (fun v' w' ho' hg' _ => ?_)
  · have hj : j < ns.length := by
      have := (List.getElem?_eq_some_iff.1 hu).1
      simpa using this
    rw [hnews j hj, ← hu]
    simp [hj]
  · obtain ⟨z, _, rfl⟩ := List.mem_map.1 hu; rfl
  · refine h v' w' (by rw [List.length_append, List.map_append]; exact ho') (hb.grown hg' hbase (fun k hk => (hown.lt k hk).1))
/-- Cells of a row that is known. -/
theorem cells_row {w : World} {g : Nat} {t : TypeId} (l : List UInt8) (h : w.heap[g]? = some (.cells (l.map bv).toArray t (0, 0))) (j : Nat) (hj : j < l.length) : w.cell? ((⟨g, 0, none⟩ : Addr).add j) = some (bv (l.getD j 0)) := by
  rw [Addr.add_mid, Nat.zero_add, cell_of_row _ _ _ _ _ _ h, getb _ _ hj]

set_option maxRecDepth 100000 in
set_option maxHeartbeats 400000 in
theorem join_any (x y : List UInt8) (hx : x.length = 32) (hy : y.length = 32) (w : World) :
    Calls Try.prog 24 #[bagg x, bagg y] w fun e w' => e = .returned (bagg (shaB (78 :: (x ++ y)))) ∧ Below w.heap.size w w' := by
  go_enter Try.func24, Try.ntmps24
  go_wp2_with fail
  refine wp_region_hoist [1, 3] [0, 2, 4, 5, 6] _ (by kernel_rfl) (by kernel_rfl) rfl rfl (fun j => by match j with | 0 => rfl | 1 => rfl | 2 => rfl | 3 => rfl | 4 => rfl | n + 5 => rfl) ?_
  refine wpPure_cons _ (.slice (some ⟨w.heap.size, 0, none⟩) 32 32) rfl rfl (fun w => by go_simp) ?_
  simp only [Act.put, List.setIfInBounds_toArray]
  refine wpPure_cons _ (.slice (some ⟨w.heap.size + 1, 0, none⟩) 32 32) rfl rfl (fun w => by go_simp) ?_
  simp only [Act.put]
  refine wpPure_nil ?_
  simp only [List.filterMap_cons, List.filterMap_nil, List.getElem?_cons_zero, List.getElem?_cons_succ]
  obtain ⟨i0, hi, hz0, hz1, hz2⟩ := info_parts info5
  obtain ⟨w3, hw3, hbl, hb, hs⟩ := allocs_named_drew w [.cells (x.map bv).toArray 24, .cells (y.map bv).toArray 24, .cells zero24 24]
  have hX := hbl 0
  have hY := hbl 1
  have hZ := hbl 2
  clear hbl
  change wpList _ _ _ _ _ (World.drew (List.foldl World.alloc w [.cells (x.map bv).toArray 24, .cells (y.map bv).toArray 24, .cells zero24 24]))
  rw [hw3]
  clear hw3
  simp only [List.getElem?_cons_zero, List.getElem?_cons_succ, List.length_cons, List.length_nil, Nat.add_zero] at hX hY hZ hs
  have hs3 : w3.heap.size = w.heap.size + 3 := hs
  have hbl0 := (Below.refl (w.heap.size + 3) w3).alloc (by omega) (Obj.cells #[bv 78] 5)
  have hown0 : (w3.alloc (Obj.cells #[bv 78] 5)).ownsRow (w.heap.size + 3) 5 1 (.slice (some ⟨w.heap.size + 3, 0, none⟩) 1 1) ([78] : List UInt8).length (([78] : List UInt8).map bv) := by
    rw [← hs3]; exact World.ownsRow_lit w3 #[bv 78] 1 (Nat.le_refl _) (by decide) rfl
  have hX1 := (hbl0.block w.heap.size (by omega)).trans hX
  have hbase : w.heap.size + 3 ≤ (w3.alloc (Obj.cells #[bv 78] 5)).heap.size := by simp; omega
  go_step
  go_step
  refine wpList_append_bytes rfl (.tmp 5) (.tmp 6) rfl (w.heap.size + 3) _ [78] rfl hown0 ⟨w.heap.size, 0, none⟩ 32 32 x rfl hx (fun j hj => cells_row x hX1 j hj) (by simp) w3 hbl0 hbase ?_
  intro v1 w4 hown1 hb1
  have hs4 : w.heap.size + 3 ≤ w4.heap.size := by have := hb1.size; omega
  have hY1 := (hb1.block (w.heap.size + 1) (by omega)).trans hY
  have hl1 : (([78] : List UInt8) ++ x).length = 33 := by simp [hx]
  refine wpList_append_bytes rfl (.tmp 7) (.tmp 8) rfl (w.heap.size + 3) _ ([78] ++ x) rfl hown1 ⟨w.heap.size + 1, 0, none⟩ 32 32 y rfl hy (fun j hj => cells_row y hY1 j hj) (by rw [hl1]; decide) w3 hb1 hs4 ?_
  intro v2 w5 hown2 hb2
  have hrd := ownsRow_rd hown2
  have hl2 : (([78] : List UInt8) ++ x ++ y).length = 65 := by simp [hx, hy]
  have hZ2 := (hb2.block (w.heap.size + 2) (by omega)).trans hZ
  simp only [List.cons_append] at hrd
  have hlt2 : w.heap.size + 2 < w5.heap.size := (Array.getElem?_eq_some_iff.1 hZ2).1
  have hI := shaB_length (78 :: (x ++ y))
  have HS := Lib.hid (sum_any v2 (78 :: (x ++ y)) (by simp at hl2 ⊢; omega) w5 hrd)
  clear hrd
  generalize hd : shaB (78 :: (x ++ y)) = d at *
  have Hd := Lib.hid hd
  clear hd
  go_wp2_with fail
  refine HS.out.mono ?_
  rintro e w6 ⟨rfl, hb6⟩
  have hZ6 := (hb6.block _ hlt2).trans hZ2
  dsimp only
  go_step
  refine wpList_store_row rfl 24 (.tmp 4) (.tmp 10) rfl (w.heap.size + 2) 24 zero24 (d.map bv).toArray rfl rfl hZ6 (id_info d hI) (id_size d hI).symm (id_one d) ?_
  refine wpList_nil (NoPanic.normal ?_)
  go_wp2_with fail
  refine bodyPost_ret (results_cell_row (d := .array 32 5) rfl _ _ (w.heap.size + 2) 24 _ (0, 0) rfl (setRow_heap _ _ _ _ _ _ hZ6) (by kernel_rfl) rfl (id_info d hI)) rfl ⟨by rw [Hd.out], below_setRow' ?_ (by omega) _⟩
  exact (hb.trans (hb2.mono (by omega))).trans (hb6.mono (by omega))
set_option maxRecDepth 100000 in
set_option maxHeartbeats 400000 in
theorem join2_any (x y : List UInt8) (hx : x.length = 32) (hy : y.length = 32) (w : World) :
    Calls Try.prog 25 #[bagg x, bagg y] w fun e w' => e = .returned (bagg (shaB (78 :: (x ++ y)))) ∧ Below w.heap.size w w' := by
  go_enter Try.func25, Try.ntmps25
  go_wp2_with fail
  refine wp_region_hoist [1, 3] [0, 2, 4, 5, 6] _ (by kernel_rfl) (by kernel_rfl) rfl rfl (fun j => by match j with | 0 => rfl | 1 => rfl | 2 => rfl | 3 => rfl | 4 => rfl | n + 5 => rfl) ?_
  refine wpPure_cons _ (.slice (some ⟨w.heap.size, 0, none⟩) 32 32) rfl rfl (fun w => by go_simp) ?_
  simp only [Act.put, List.setIfInBounds_toArray]
  refine wpPure_cons _ (.slice (some ⟨w.heap.size + 1, 0, none⟩) 32 32) rfl rfl (fun w => by go_simp) ?_
  simp only [Act.put]
  refine wpPure_nil ?_
  simp only [List.filterMap_cons, List.filterMap_nil, List.getElem?_cons_zero, List.getElem?_cons_succ]
  obtain ⟨i0, hi, hz0, hz1, hz2⟩ := info_parts info5
  obtain ⟨w3, hw3, hbl, hb, hs⟩ := allocs_named_drew w [.cells (x.map bv).toArray 24, .cells (y.map bv).toArray 24, .cells zero24 24]
  have hX := hbl 0
  have hY := hbl 1
  have hZ := hbl 2
  clear hbl
  change wpList _ _ _ _ _ (World.drew (List.foldl World.alloc w [.cells (x.map bv).toArray 24, .cells (y.map bv).toArray 24, .cells zero24 24]))
  rw [hw3]
  clear hw3
  simp only [List.getElem?_cons_zero, List.getElem?_cons_succ, List.length_cons, List.length_nil, Nat.add_zero] at hX hY hZ hs
  have hs3 : w3.heap.size = w.heap.size + 3 := hs
  have hbl0 := (Below.refl (w.heap.size + 3) w3).alloc (by omega) (Obj.cells #[bv 78] 5)
  have hown0 : (w3.alloc (Obj.cells #[bv 78] 5)).ownsRow (w.heap.size + 3) 5 1 (.slice (some ⟨w.heap.size + 3, 0, none⟩) 1 1) ([78] : List UInt8).length (([78] : List UInt8).map bv) := by
    rw [← hs3]; exact World.ownsRow_lit w3 #[bv 78] 1 (Nat.le_refl _) (by decide) rfl
  have hX1 := (hbl0.block w.heap.size (by omega)).trans hX
  have hbase : w.heap.size + 3 ≤ (w3.alloc (Obj.cells #[bv 78] 5)).heap.size := by simp; omega
  go_step
  go_step
  refine wpList_append_bytes rfl (.tmp 5) (.tmp 6) rfl (w.heap.size + 3) _ [78] rfl hown0 ⟨w.heap.size, 0, none⟩ 32 32 x rfl hx (fun j hj => cells_row x hX1 j hj) (by simp) w3 hbl0 hbase ?_
  intro v1 w4 hown1 hb1
  have hs4 : w.heap.size + 3 ≤ w4.heap.size := by have := hb1.size; omega
  have hY1 := (hb1.block (w.heap.size + 1) (by omega)).trans hY
  have hl1 : (([78] : List UInt8) ++ x).length = 33 := by simp [hx]
  refine wpList_append_bytes rfl (.tmp 7) (.tmp 8) rfl (w.heap.size + 3) _ ([78] ++ x) rfl hown1 ⟨w.heap.size + 1, 0, none⟩ 32 32 y rfl hy (fun j hj => cells_row y hY1 j hj) (by rw [hl1]; decide) w3 hb1 hs4 ?_
  intro v2 w5 hown2 hb2
  have hrd := ownsRow_rd hown2
  have hl2 : (([78] : List UInt8) ++ x ++ y).length = 65 := by simp [hx, hy]
  have hZ2 := (hb2.block (w.heap.size + 2) (by omega)).trans hZ
  simp only [List.cons_append] at hrd
  have hlt2 : w.heap.size + 2 < w5.heap.size := (Array.getElem?_eq_some_iff.1 hZ2).1
  have hI := shaB_length (78 :: (x ++ y))
  have HS := Lib.hid (sum_any v2 (78 :: (x ++ y)) (by simp at hl2 ⊢; omega) w5 hrd)
  clear hrd
  generalize hd : shaB (78 :: (x ++ y)) = d at *
  have Hd := Lib.hid hd
  clear hd
  go_wp2_with fail
  refine HS.out.mono ?_
  rintro e w6 ⟨rfl, hb6⟩
  have hZ6 := (hb6.block _ hlt2).trans hZ2
  dsimp only
  go_step
  refine wpList_store_row rfl 24 (.tmp 4) (.tmp 10) rfl (w.heap.size + 2) 24 zero24 (d.map bv).toArray rfl rfl hZ6 (id_info d hI) (id_size d hI).symm (id_one d) ?_
  refine wpList_nil (NoPanic.normal ?_)
  go_wp2_with fail
  refine bodyPost_ret (results_cell_row (d := .array 32 5) rfl _ _ (w.heap.size + 2) 24 _ (0, 0) rfl (setRow_heap _ _ _ _ _ _ hZ6) (by kernel_rfl) rfl (id_info d hI)) rfl ⟨by rw [Hd.out], below_setRow' ?_ (by omega) _⟩
  exact (hb.trans (hb2.mono (by omega))).trans (hb6.mono (by omega))
end Go.Proofs.Ytcfkapoppmpehaa

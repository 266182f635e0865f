/-
  ShaBehind: a block of the program's is a block of the definition's: the walk.
-/
import Derived.Test.YtcfkapoppmpehaaRootD
import Derived.Test.YtcfkapoppmpehaaRblk
import Derived.Test.YtcfkapoppmpehaaRsum
namespace Go.Proofs.Ytcfkapoppmpehaa
open Go.RowKit

/-- Two rows are compared, in a region that only reads. -/
theorem wpQuiet_eql_rows {P : Program} {ops : Array Oper} {C : World → Prop} {Q : Act → Prop} {a : Act} {o : Oper} {rest : List Oper} (hg : Region.wanted o (yielded ops a.tmps) = true) (ty ty2 : TypeId) (x y : Operand) (ho : o.op = .binOp .eql ty x y ty2)
    (hgt : P.eqGuardType P.depth ty = false) (X Y : Array Value) (b : Bool) (hx : a.eval x = .agg X) (hy : a.eval y = .agg Y) (hr : ∀ w, (Op.equalIn 10000 ty (.agg X) (.agg Y)).run P w = .ok b w)
    (h : wpQuiet P ops C Q rest (a.put o.dst (.bool b))) : wpQuiet P ops C Q (o :: rest) a :=
  BigFrame.wpQuiet_want hg fun K hK => ⟨_, fun w hw => by
    unfold Oper.quietAt execOp
    have hpg : ∀ w, Sem.run P program w = .ok P w := fun _ => rfl
    simp [ho, hx, hy, eqGuard, run_eql_struct, hr, hgt, hpg]

    exact ⟨rfl, rfl⟩, hK _ h⟩
theorem st_of_list (l : List (BitVec 32)) (h : l.length = 8) : ∃ σ : St, σ.list = l := by
  match l, h with
  | [a, b, c, d, e, f, g, i], _ => exact ⟨⟨a, b, c, d, e, f, g, i⟩, rfl⟩

set_option maxRecDepth 100000 in
set_option maxHeartbeats 1000000 in
theorem shaBehind_any (ss : List (BitVec 32)) (hss : ss.length = 8) (bs : List UInt8) (hbs : bs.length = 64) (w : World) :
    Calls Try.prog 12 #[wagg ss, bagg bs] w fun e w' => e = .returned (.bool true) ∧ Below w.heap.size w w' := by
  obtain ⟨σ, rfl⟩ := st_of_list ss hss
  have HB := Lib.hid (block_any σ bs hbs)
  have HR := Lib.hid (fun v w => rblock_any σ v bs constL hbs rfl w)
  rw [refBlock_eq] at HR
  have HC := Lib.hid roots_any
  have hcl : constL.length = 64 := rfl
  generalize blockS σ bs = τ at *
  generalize constL = cs at *
  have htl : τ.list.length = 8 := rfl
  generalize τ.list = tl at *
  have E65 : Hid (∀ w, (Op.equalIn 10000 65 (.agg (tl.map wv).toArray) (.agg (tl.map wv).toArray)).run Try.prog w = .ok true w) := Lib.hid fun w => by rw [equal_words 65 8 (by kernel_rfl) tl tl htl htl, decide_eq_true rfl]
  go_enter Try.func12, Try.ntmps12
  go_upto_region 1 with fail
  obtain ⟨w2, hw2, hbl, hb2, hs2⟩ := allocs_named w [.cells (σ.list.map wv).toArray 65, .cells (bs.map bv).toArray 68]
  change Code.wp _ _ _ _ (List.foldl World.alloc w [.cells (σ.list.map wv).toArray 65, .cells (bs.map bv).toArray 68])
  rw [hw2]
  have hA : w2.heap[w.heap.size]? = some (.cells (σ.list.map wv).toArray 65 (0, 0)) := hbl 0
  have hB : w2.heap[w.heap.size + 1]? = some (.cells (bs.map bv).toArray 68 (0, 0)) := hbl 1
  clear hbl hw2 hs2
  go_wp2_with fail
  refine (wakes03 w2).mono ?_
  rintro e w3 ⟨rfl, hb3⟩
  have hA3 := (hb3.block _ (Array.getElem?_eq_some_iff.1 hA).1).trans hA
  have hB3 := (hb3.block _ (Array.getElem?_eq_some_iff.1 hB).1).trans hB
  have hbw3 := hb2.trans (hb3.mono hb2.size)
  have ra : ∀ p, (gro w3 p).rangeAt w.heap.size 0 (σ.list.map wv) := fun p => rangeAt_row (gro_heap hA3 p) 0 8
  have rb : ∀ p, (gro w3 p).rangeAt (w.heap.size + 1) 0 (bs.map bv) := fun p => by
    have := rangeAt_row (gro_heap hB3 p) 0 64
    simpa [hbs, List.take_of_length_le] using this
  have hrd : ∀ p, RdB (gro w3 p) (.slice (some ⟨w.heap.size + 1, 0, none⟩) 64 64) bs := fun p => by
    refine ⟨_, 64, by rw [hbs], by omega, fun _ => ⟨w.heap.size + 1, 0, rfl, fun i hi => ?_⟩⟩
    rw [Nat.zero_add, cell_of_row _ _ _ _ _ _ (gro_heap hB3 p), getb _ _ hi]
  replace ra := Lib.hid ra
  replace rb := Lib.hid rb
  replace HR := Lib.hid (fun p => HR.out _ _ (hrd p))
  clear hrd hA hB hb2 hb3
  dsimp only
  go_wp2_with fail
  refine wp_region_qgro rfl (by kernel_rfl) ?_
  refine wpQuiet_load_mid rfl 65 (.tmp 2) rfl w.heap.size 0 rfl (σ.list.map wv) (.array 8 64) (by rintro _ ⟨p, rfl⟩; exact ra.out p) (by kernel_rfl) rfl (by kernel_rfl) ?_
  simp only [Act.put, List.setIfInBounds_toArray, List.set_cons_succ, List.set_cons_zero]
  refine wpQuiet_load_mid rfl 68 (.tmp 3) rfl (w.heap.size + 1) 0 rfl (bs.map bv) (.array 64 5) (by rintro _ ⟨p, rfl⟩; exact rb.out p) (by kernel_rfl) rfl (by rw [List.length_map, hbs]; kernel_rfl) ?_
  simp only [Act.put, List.setIfInBounds_toArray, List.set_cons_succ, List.set_cons_zero]
  go_big_quiet_step ((go_at_call 50; exact gro_call (HB.out _)))
  refine wpQuiet_load_mid rfl 65 (.tmp 2) rfl w.heap.size 0 rfl (σ.list.map wv) (.array 8 64) (by rintro _ ⟨p, rfl⟩; exact ra.out p) (by kernel_rfl) rfl (by kernel_rfl) ?_
  simp only [Act.put, List.setIfInBounds_toArray, List.set_cons_succ, List.set_cons_zero]
  go_big_quiet_step (fail)
  go_big_quiet_step ((go_at_call 57; exact gro_call (HC.out _)))
  go_big_quiet_step ((go_at_call 56; exact gro_call (HR.out _)))
  refine wpQuiet_eql_rows (by kernel_rfl) 65 65 (.tmp 9) (.tmp 13) rfl (by kernel_rfl) _ _ true rfl rfl E65.out ?_
  simp only [Act.put, List.setIfInBounds_toArray, List.set_cons_succ, List.set_cons_zero]
  go_big_quiet_step (fail)
  refine wpQuiet_nil ?_
  rintro _ ⟨p2, rfl⟩
  go_wp2_with fail
  go_ret
  exact ⟨ret_val (by simp), hbw3.trans ((below_gro w3 p2).mono hbw3.size)⟩
end Go.Proofs.Ytcfkapoppmpehaa

/-
  Small functions under the digest: what each call gives; the frame of 'Block'.
-/
import Derived.Test.YtcfkapoppmpehaaBase
namespace Go.Proofs.Ytcfkapoppmpehaa
open Go.RowKit

theorem pushed_any (x : BitVec 32) (n : Nat) (hn : n < 32) (w : World)  :
    Calls Try.prog 91 #[wv x, .int .i64 n] w fun e w' => e = .returned (wv (wshr x n)) ∧ Below w.heap.size w w' := by
  go_enter Try.func91, Try.ntmps91
  go_wp2
  all_goals go_ret
  all_goals refine ⟨?_, Below.refl _ _⟩
  all_goals simp [shr_nat]

set_option maxHeartbeats 400000 in
theorem turned_any (x : BitVec 32) (n : Nat) (hn : n < 32) (w : World)  :
    Calls Try.prog 92 #[wv x, .int .i64 n] w fun e w' => e = .returned (wv (wror x n)) ∧ Below w.heap.size w w' := by
  have h0 := x.isLt
  go_enter Try.func92, Try.ntmps92
  go_wp2
  go_quiet (fail)
  go_wp2
  all_goals go_ret
  all_goals refine ⟨?_, below_drewN (Below.refl _ _) _⟩
  exact congrArg (fun z => Ending.returned (.int .u32 z)) (rotr_nat x n hn)

def mixv (a b c : Nat) (f : Nat) : Array Value := #[.int .i64 a, .int .i64 b, .int .i64 c, .func (.func f) #[] #[]]

set_option maxHeartbeats 400000 in
theorem mix_pushed (x : BitVec 32) (a b c : Nat) (ha : a < 32) (hb : b < 32) (hc : c < 32) (w : World)  :
    Calls Try.prog 93 #[.agg (mixv a b c 91), wv x] w fun e w' => e = .returned (wv (mixP x a b c)) ∧ Below w.heap.size w w' := by
  unfold mixv
  go_enter Try.func93, Try.ntmps93
  go_wp2
  have e0 := gro_cell (w := w.alloc (Obj.cells #[Value.int IntKind.i64 ↑a, Value.int IntKind.i64 ↑b, Value.int IntKind.i64 ↑c, Value.func (Fn.func 91) #[] #[]] 126)) (a := ⟨w.heap.size, 0, none⟩) (v := .int .i64 a) (by simp)
  have e1 := gro_cell (w := w.alloc (Obj.cells #[Value.int IntKind.i64 ↑a, Value.int IntKind.i64 ↑b, Value.int IntKind.i64 ↑c, Value.func (Fn.func 91) #[] #[]] 126)) (a := ⟨w.heap.size, 1, none⟩) (v := .int .i64 b) (by simp)
  have e2 := gro_cell (w := w.alloc (Obj.cells #[Value.int IntKind.i64 ↑a, Value.int IntKind.i64 ↑b, Value.int IntKind.i64 ↑c, Value.func (Fn.func 91) #[] #[]] 126)) (a := ⟨w.heap.size, 2, none⟩) (v := .int .i64 c) (by simp)
  have e3 := gro_cell (w := w.alloc (Obj.cells #[Value.int IntKind.i64 ↑a, Value.int IntKind.i64 ↑b, Value.int IntKind.i64 ↑c, Value.func (Fn.func 91) #[] #[]] 126)) (a := ⟨w.heap.size, 3, none⟩) (v := .func (.func 91) #[] #[]) (by simp)
  refine wp_region_qgro (by kernel_rfl) (by kernel_rfl) ?_
  repeat (go_big_quiet_step (first | (go_at_call 92; exact gro_call (turned_any _ _ (by assumption) _)) | (go_at_call 91; exact gro_call (pushed_any _ _ (by assumption) _))))
  refine wpQuiet_nil ?_
  rintro _ ⟨p, rfl⟩
  go_wp2
  go_ret
  exact ⟨rfl, ((Below.refl _ _).alloc (Nat.le_refl _) _).trans ((below_gro _ _).mono (by simp))⟩

set_option maxHeartbeats 400000 in
theorem mix_turned (x : BitVec 32) (a b c : Nat) (ha : a < 32) (hb : b < 32) (hc : c < 32) (w : World)  :
    Calls Try.prog 93 #[.agg (mixv a b c 92), wv x] w fun e w' => e = .returned (wv (mixT x a b c)) ∧ Below w.heap.size w w' := by
  unfold mixv
  go_enter Try.func93, Try.ntmps93
  go_wp2
  have e0 := gro_cell (w := w.alloc (Obj.cells #[Value.int IntKind.i64 ↑a, Value.int IntKind.i64 ↑b, Value.int IntKind.i64 ↑c, Value.func (Fn.func 92) #[] #[]] 126)) (a := ⟨w.heap.size, 0, none⟩) (v := .int .i64 a) (by simp)
  have e1 := gro_cell (w := w.alloc (Obj.cells #[Value.int IntKind.i64 ↑a, Value.int IntKind.i64 ↑b, Value.int IntKind.i64 ↑c, Value.func (Fn.func 92) #[] #[]] 126)) (a := ⟨w.heap.size, 1, none⟩) (v := .int .i64 b) (by simp)
  have e2 := gro_cell (w := w.alloc (Obj.cells #[Value.int IntKind.i64 ↑a, Value.int IntKind.i64 ↑b, Value.int IntKind.i64 ↑c, Value.func (Fn.func 92) #[] #[]] 126)) (a := ⟨w.heap.size, 2, none⟩) (v := .int .i64 c) (by simp)
  have e3 := gro_cell (w := w.alloc (Obj.cells #[Value.int IntKind.i64 ↑a, Value.int IntKind.i64 ↑b, Value.int IntKind.i64 ↑c, Value.func (Fn.func 92) #[] #[]] 126)) (a := ⟨w.heap.size, 3, none⟩) (v := .func (.func 92) #[] #[]) (by simp)
  refine wp_region_qgro (by kernel_rfl) (by kernel_rfl) ?_
  repeat (go_big_quiet_step (first | (go_at_call 92; exact gro_call (turned_any _ _ (by assumption) _))))
  refine wpQuiet_nil ?_
  rintro _ ⟨p, rfl⟩
  go_wp2
  go_ret
  exact ⟨rfl, ((Below.refl _ _).alloc (Nat.le_refl _) _).trans ((below_gro _ _).mono (by simp))⟩

set_option maxHeartbeats 400000 in
theorem start_any (w : World)  :
    Calls Try.prog 49 #[] w fun e w' => e = .returned (wagg startS.list) ∧ Below w.heap.size w w' := by
  go_enter Try.func49, Try.ntmps49
  go_wp2
  refine bodyPost_ret (results_cell_row (d := .array 8 64) rfl _ _ w.heap.size 65 _ (0, 0) rfl (heap_alloc_new _ _) (by kernel_rfl) rfl (by kernel_rfl)) rfl ⟨?_, (Below.refl _ _).alloc (Nat.le_refl _) _⟩
  exact ret_val (by kernel_rfl)

theorem size69 : (Try.prog.info? 69).map (·.size) = some (constL.map wv).toArray.size := by kernel_rfl
theorem one69 : (constL.map wv).toArray.all (·.oneCell') = true := by kernel_rfl
set_option maxRecDepth 100000 in
set_option maxHeartbeats 400000 in
theorem constants_any (w : World)  :
    Calls Try.prog 51 #[] w fun e w' => e = .returned (wagg constL) ∧ Below w.heap.size w w' := by
  go_enter Try.func51, Try.ntmps51
  go_wp2_with (first
    | (refine wpList_build rfl 69 _ rfl (by kernel_rfl) ?_; rw [show (Option.getD (Try.prog.built 69 _) #[]) = (constL.map wv).toArray from by kernel_rfl])
    | (refine wpList_store_new rfl 69 (.tmp 0) (.tmp 1) rfl _ _ (constL.map wv).toArray rfl rfl size69 (by kernel_rfl) one69 ?_))
  exact bodyPost_ret (results_cell_row (d := .array 64 64) rfl _ _ w.heap.size 69 _ (0, 0) rfl (heap_alloc_new _ _) (by kernel_rfl) rfl size69) rfl ⟨rfl, (Below.refl _ _).alloc (Nat.le_refl _) _⟩

end Go.Proofs.Ytcfkapoppmpehaa

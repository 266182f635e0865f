/-
  What calls of leafed and of the two seeds give.
-/
import Derived.Test.YtcfkapoppmpehaaJoin
namespace Go.Proofs.Ytcfkapoppmpehaa
open Go.RowKit

/-- The byte of a number. -/
def lb (n : Int) : UInt8 := UInt8.ofNat (n % 256).toNat
theorem lb_int (n : Int) : ((lb n).toNat : Int) = n % 256 := by
  unfold lb
  rw [UInt8.toNat_ofNat']
  omega

set_option maxHeartbeats 400000 in
theorem leafed_any (n : Int) (w : World)  :
    Calls Try.prog 85 #[.int .i64 n] w fun e w' => e = .returned (.bool (decide (0 ≤ n ∧ n < 8))) ∧ Below w.heap.size w w' := by
  by_cases h0 : 0 ≤ n
  all_goals
    go_enter Try.func85, Try.ntmps85
    go_wp2
    all_goals go_ret
    all_goals refine ⟨ret_val ?_, Below.refl _ _⟩
    all_goals simp
  all_goals omega

set_option maxRecDepth 100000 in
set_option maxHeartbeats 400000 in
theorem seed2_any (x : List UInt8) (hx : x.length = 32) (n : Int) (w : World) :
    Calls Try.prog 79 #[bagg x, .int .i64 n] w fun e w' => e = .returned (bagg (shaB (76 :: lb n :: x))) ∧ Below w.heap.size w w' := by
  go_enter Try.func79, Try.ntmps79
  go_upto_region 1 with fail
  obtain ⟨w3, hw3, hbl, hb, hs⟩ := allocs_named w [.cells (x.map bv).toArray 24, .cells zero24 24]
  have hX := hbl 0
  have hZ := hbl 1
  clear hbl
  simp only [List.getElem?_cons_zero, List.getElem?_cons_succ, List.length_cons, List.length_nil, Nat.add_zero] at hX hZ hs
  change Code.wp _ _ _ _ (List.foldl World.alloc w [.cells (x.map bv).toArray 24, .cells zero24 24])
  rw [hw3]
  clear hw3

  have hs3 : w3.heap.size = w.heap.size + 2 := hs
  have hbl0 := (Below.refl (w.heap.size + 2) w3).alloc (by omega) (Obj.cells #[bv 76, bv (lb n)] 5)
  have hown0 : (w3.alloc (Obj.cells #[bv 76, bv (lb n)] 5)).ownsRow (w.heap.size + 2) 5 1 (.slice (some ⟨w.heap.size + 2, 0, none⟩) 2 2) ([76, lb n] : List UInt8).length (([76, lb n] : List UInt8).map bv) := by
    rw [← hs3]; exact World.ownsRow_lit w3 #[bv 76, bv (lb n)] 2 (Nat.le_refl _) (by decide) rfl
  have hX1 := (hbl0.block w.heap.size (by omega)).trans hX
  have hbase : w.heap.size + 2 ≤ (w3.alloc (Obj.cells #[bv 76, bv (lb n)] 5)).heap.size := by simp; omega
  have hlb := Lib.hid (lb_int n)
  iterate 13 go_step
  rw [← hlb.out]
  refine wpList_append_bytes rfl (.tmp 7) (.tmp 8) rfl (w.heap.size + 2) _ [76, lb n] rfl hown0 ⟨w.heap.size, 0, none⟩ 32 32 x rfl hx (fun j hj => cells_row x hX1 j hj) (by simp) w3 hbl0 hbase ?_
  intro v1 w4 hown1 hb1
  have hrd := ownsRow_rd hown1
  have hl1 : ([76, lb n] ++ x).length = 34 := by simp [hx]
  have hZ2 := (hb1.block (w.heap.size + 1) (by omega)).trans hZ
  have hlt2 : w.heap.size + 1 < w4.heap.size := (Array.getElem?_eq_some_iff.1 hZ2).1
  have hI := shaB_length (76 :: lb n :: x)
  have HS := Lib.hid (sum_any v1 (76 :: lb n :: x) (by simp [hx]) w4 hrd)
  clear hrd
  generalize hd : shaB (76 :: lb n :: x) = d at *
  have Hd := Lib.hid hd
  clear hd
  go_wp2_with fail
  refine HS.out.mono ?_
  rintro e w6 ⟨rfl, hb6⟩
  have hZ6 := (hb6.block _ hlt2).trans hZ2
  dsimp only
  go_step
  refine wpList_store_row rfl 24 (.tmp 4) (.tmp 10) rfl (w.heap.size + 1) 24 zero24 (d.map bv).toArray rfl rfl hZ6 (id_info d hI) (id_size d hI).symm (id_one d) ?_
  go_wp2_with fail
  refine bodyPost_ret (results_cell_row (d := .array 32 5) rfl _ _ (w.heap.size + 1) 24 _ (0, 0) rfl (setRow_heap _ _ _ _ _ _ hZ6) (by kernel_rfl) rfl (id_info d hI)) rfl ⟨by rw [Hd.out], below_setRow' ?_ (by omega) _⟩
  exact (hb.trans (hb1.mono (by omega))).trans (hb6.mono (by omega))

theorem results_cell_tmp {P : Program} {fn : Func} {p t : Tmp} {ty : TypeId} (h : fn.results = #[.cell p ty, .tmp t]) (tmps : Array Value) (w : World) (g : Nat) (u : TypeId) (cs : Array Value) (fr : Nat × Nat) (d : TypeDesc)
    (hp : tmps.getD p undef = .pointer (some ⟨g, 0, none⟩)) (hg : w.heap[g]? = some (.cells cs u fr))
    (hu : P.underlying ty = some d) (hd : (match d with | .struct _ | .array _ _ => true | _ => false) = true) (hi : (P.info? ty).map (·.size) = some cs.size) :
    (results fn tmps).run P w = .ok (.tuple #[.agg cs, tmps.getD t undef]) w := by
  have hp' : tmps[p]?.getD undef = .pointer (some ⟨g, 0, none⟩) := by simpa using hp
  simp [results, h, hp', asAddr, run_loadVar_row w g u ty cs fr d hg hu hd hi]

set_option maxRecDepth 100000 in
set_option maxHeartbeats 400000 in
theorem seed1_any (x : List UInt8) (hx : x.length = 32) (n : Int) (h0 : 0 ≤ n) (h8 : n < 8) (w : World) :
    Calls Try.prog 74 #[bagg x, .int .i64 n] w fun e w' => e = .returned (.tuple #[bagg (shaB (76 :: lb n :: x)), .int .i64 0]) ∧ Below w.heap.size w w' := by
  have hc : decide (0 ≤ n ∧ n < 8) = true := by simp; omega
  go_enter Try.func74, Try.ntmps74
  go_wp2_with fail
  obtain ⟨w2, hw2, hbl, hbq, hsq⟩ := allocs_named w [.cells (x.map bv).toArray 24, .cells zero24 24]
  change Calls _ _ _ (List.foldl World.alloc w [.cells (x.map bv).toArray 24, .cells zero24 24]) _
  rw [hw2]
  clear hw2
  refine (leafed_any n w2).mono ?_
  rintro e w3 ⟨rfl, hb0⟩
  rw [hc]
  have hX := (hb0.block _ (by simp at hsq; omega)).trans (hbl 0)
  have hZ := (hb0.block _ (by simp at hsq; omega)).trans (hbl 1)
  have hb := hbq.trans (hb0.mono hbq.size)
  have hs3 : w.heap.size + 2 ≤ w3.heap.size := by have := hb0.size; simp at hsq; omega
  have hbl0 := (Below.refl w3.heap.size w3).alloc (Nat.le_refl _) (Obj.cells #[bv 76, bv (lb n)] 5)
  have hown0 : (w3.alloc (Obj.cells #[bv 76, bv (lb n)] 5)).ownsRow w3.heap.size 5 1 (.slice (some ⟨w3.heap.size, 0, none⟩) 2 2) ([76, lb n] : List UInt8).length (([76, lb n] : List UInt8).map bv) :=
    World.ownsRow_lit w3 #[bv 76, bv (lb n)] 2 (Nat.le_refl _) (by decide) rfl
  have hX1 := (hbl0.block w.heap.size (by omega)).trans hX
  have hbase : w3.heap.size ≤ (w3.alloc (Obj.cells #[bv 76, bv (lb n)] 5)).heap.size := by simp
  have hlb := Lib.hid (lb_int n)
  dsimp only
  go_upto_region 3 with fail
  iterate 13 go_step
  rw [show Obj.cells #[Value.int IntKind.u8 76, Value.int IntKind.u8 n] 5 = Obj.cells #[bv 76, bv (lb n)] 5 from by rw [show bv (lb n) = Value.int .u8 n from by show Value.int .u8 _ = _; rw [hlb.out, Int.emod_eq_of_lt h0 (by omega)]]; rfl]
  refine wpList_append_bytes rfl (.tmp 12) (.tmp 13) rfl w3.heap.size _ [76, lb n] rfl hown0 ⟨w.heap.size, 0, none⟩ 32 32 x rfl hx (fun j hj => cells_row x hX1 j hj) (by simp) w3 hbl0 hbase ?_
  intro v1 w4 hown1 hb1
  have hrd := ownsRow_rd hown1
  have hl1 : ([76, lb n] ++ x).length = 34 := by simp [hx]
  have hZ2 : w4.heap[w.heap.size + 1]? = _ := (hb1.block (w.heap.size + 1) (by omega)).trans hZ
  have hlt2 : w.heap.size + 1 < w4.heap.size := (Array.getElem?_eq_some_iff.1 hZ2).1
  have hI := shaB_length (76 :: lb n :: x)
  have HS := Lib.hid (sum_any v1 (76 :: lb n :: x) (by simp [hx]) w4 hrd)
  clear hrd
  generalize hd : shaB (76 :: lb n :: x) = d at *
  have Hd := Lib.hid hd
  clear hd
  go_wp2_with fail
  refine HS.out.mono ?_
  rintro e w6 ⟨rfl, hb6⟩
  have hZ6 : w6.heap[w.heap.size + 1]? = _ := (hb6.block _ hlt2).trans hZ2
  dsimp only
  go_step
  refine wpList_store_row rfl 24 (.tmp 4) (.tmp 15) rfl (w.heap.size + 1) 24 zero24 (d.map bv).toArray rfl rfl hZ6 (id_info d hI) (id_size d hI).symm (id_one d) ?_
  go_wp2_with fail
  refine bodyPost_ret (results_cell_tmp (d := .array 32 5) rfl _ _ (w.heap.size + 1) 24 _ (0, 0) rfl (setRow_heap _ _ _ _ _ _ hZ6) (by kernel_rfl) rfl (id_info d hI)) rfl ⟨by rw [Hd.out]; rfl, below_setRow' ?_ (by omega) _⟩
  exact (hb.trans (hb1.mono (by omega))).trans (hb6.mono (by have := hb1.size; omega))
end Go.Proofs.Ytcfkapoppmpehaa

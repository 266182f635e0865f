/-
  What calls of Recover give where the length is not right; what a call of Verify gives.
-/
import Derived.Test.YtcfkapoppmpehaaWq
namespace Go.Proofs.Ytcfkapoppmpehaa
open Go.RowKit Go.Shelf

set_option maxRecDepth 100000 in
set_option maxHeartbeats 400000 in
theorem recover_long (m : List UInt8) (sa : Option Addr) (len cap : Nat) (hlen : len ≠ 67) (w : World) :
    Calls Try.prog 71 #[bagg m, .slice sa len cap] w fun e w' => e = .returned (.tuple #[bagg z32, .int .i64 3]) ∧ Below w.heap.size w w' := by
  have hne : ((len : Int) != 67) = true := by simp; omega
  have hB := build24_zero
  go_enter Try.func71, Try.ntmps71
  go_upto_region 2 with fail
  obtain ⟨w2, hw2, hbl, hb2, hs2⟩ := allocs_named w [.cells (m.map bv).toArray 24, .cells zero24 24]
  change Code.wp _ _ _ _ (List.foldl World.alloc w [.cells (m.map bv).toArray 24, .cells zero24 24])
  rw [hw2]
  have hZ : w2.heap[w.heap.size + 1]? = some (.cells zero24 24 (0, 0)) := hbl 1
  clear hbl hw2 hs2
  go_wp2_with (refine wpList_store_row rfl 24 (.tmp 4) (.tmp 15) rfl (w.heap.size + 1) 24 zero24 (z32.map bv).toArray rfl rfl hZ (id_info z32 rfl) (id_size z32 rfl).symm (id_one z32) ?_)
  exact bodyPost_ret (results_cell_tmp (d := .array 32 5) rfl _ _ (w.heap.size + 1) 24 _ (0, 0) rfl (setRow_heap _ _ _ _ _ _ hZ) (by kernel_rfl) rfl (id_info z32 rfl)) rfl ⟨rfl, below_setRow' hb2 (by omega) _⟩

set_option maxRecDepth 100000 in
set_option maxHeartbeats 400000 in
theorem verify_ok (key m : List UInt8) (hk : key.length = 32) (hm : m.length = 32) (sv : Value) (ids : List (List UInt8)) (hids : ids.length = 67) (w : World) (hv : RdI w sv ids) :
    Calls Try.prog 73 #[bagg key, bagg m, sv] w fun e w' => e = .returned (.bool (decide (recW m ids = key))) ∧ Below w.heap.size w w' := by
  have HR := Lib.hid (fun w h => recover_ok m hm sv ids hids w h)
  have hI := recW_length m ids
  generalize recW m ids = d at *
  have hE := equal_id d key hI hk
  go_enter Try.func73, Try.ntmps73
  go_upto_region 1 with fail
  obtain ⟨w2, hw2, hbl, hb2, hs2⟩ := allocs_named w [.cells (key.map bv).toArray 24, .cells (m.map bv).toArray 24]
  change Code.wp _ _ _ _ (List.foldl World.alloc w [.cells (key.map bv).toArray 24, .cells (m.map bv).toArray 24])
  rw [hw2]
  have hK : w2.heap[w.heap.size]? = some (.cells (key.map bv).toArray 24 (0, 0)) := hbl 0
  have hM : w2.heap[w.heap.size + 1]? = some (.cells (m.map bv).toArray 24 (0, 0)) := hbl 1
  have hv2 := hv.mono hb2
  clear hbl hw2 hs2 hv
  go_wp2_with (refine wpList_load_row rfl 24 (.tmp 4) rfl (w.heap.size + 1) rfl 24 _ (0, 0) (.array 32 5) hM (by kernel_rfl) rfl (id_info m hm) ?_)
  refine (HR.out w2 hv2).mono ?_
  rintro e w3 ⟨rfl, hb3⟩
  have hK3 := (hb3.block _ (Array.getElem?_eq_some_iff.1 hK).1).trans hK
  have hbw := hb2.trans (hb3.mono hb2.size)
  clear hb3 hb2 hK hM hv2 HR
  dsimp only
  go_upto_region 2 with (refine wpList_store_new rfl 24 (.tmp 7) (.tmp 13) rfl _ _ (d.map bv).toArray rfl rfl (id_info d hI) (id_size d hI).symm (id_one d) ?_)
  have hD4 : (w3.alloc (Obj.cells (d.map bv).toArray 24)).heap[w3.heap.size]? = some (.cells (d.map bv).toArray 24 (0, 0)) := heap_alloc_new w3 _
  have hK4 := (Below.heap_alloc w3 (Obj.cells (d.map bv).toArray 24) _ (Array.getElem?_eq_some_iff.1 hK3).1).trans hK3
  have hb4 := hbw.alloc hbw.size (Obj.cells (d.map bv).toArray 24)
  generalize w3.alloc (Obj.cells (d.map bv).toArray 24) = w4 at *
  clear hK3 hbw
  go_wp2_with (first
    | (refine wpList_load_rowg (by kernel_rfl) 24 (.tmp 7) rfl w3.heap.size rfl 24 _ (0, 0) (.array 32 5) hD4 (by kernel_rfl) rfl (id_info d hI) ?_)
    | (refine wpList_load_rowg (by kernel_rfl) 24 (.tmp 3) rfl w.heap.size rfl 24 _ (0, 0) (.array 32 5) hK4 (by kernel_rfl) rfl (id_info key hk) ?_))
  go_ret
  exact ⟨ret_val (by simp), hb4⟩

set_option maxRecDepth 100000 in
set_option maxHeartbeats 400000 in
theorem verify_long (key m : List UInt8) (hm : m.length = 32) (sa : Option Addr) (len cap : Nat) (hlen : len ≠ 67) (w : World) :
    Calls Try.prog 73 #[bagg key, bagg m, .slice sa len cap] w fun e w' => e = .returned (.bool false) ∧ Below w.heap.size w w' := by
  have HR := Lib.hid (fun w => recover_long m sa len cap hlen w)
  go_enter Try.func73, Try.ntmps73
  go_upto_region 1 with fail
  obtain ⟨w2, hw2, hbl, hb2, hs2⟩ := allocs_named w [.cells (key.map bv).toArray 24, .cells (m.map bv).toArray 24]
  change Code.wp _ _ _ _ (List.foldl World.alloc w [.cells (key.map bv).toArray 24, .cells (m.map bv).toArray 24])
  rw [hw2]
  have hM : w2.heap[w.heap.size + 1]? = some (.cells (m.map bv).toArray 24 (0, 0)) := hbl 1
  clear hbl hw2 hs2
  go_wp2_with (refine wpList_load_row rfl 24 (.tmp 4) rfl (w.heap.size + 1) rfl 24 _ (0, 0) (.array 32 5) hM (by kernel_rfl) rfl (id_info m hm) ?_)
  refine (HR.out w2).mono ?_
  rintro e w3 ⟨rfl, hb3⟩
  have hbw := hb2.trans (hb3.mono hb2.size)
  clear hb3 hb2 hM HR
  dsimp only
  go_upto_region 2 with (refine wpList_store_new rfl 24 (.tmp 7) (.tmp 13) rfl _ _ (z32.map bv).toArray rfl rfl (id_info z32 rfl) (id_size z32 rfl).symm (id_one z32) ?_)
  have hb4 := hbw.alloc hbw.size (Obj.cells (z32.map bv).toArray 24)
  generalize w3.alloc (Obj.cells (z32.map bv).toArray 24) = w4 at *
  go_wp2_with fail
  go_ret
  exact ⟨ret_val rfl, hb4⟩
end Go.Proofs.Ytcfkapoppmpehaa

/-
  What a call of the law's own ends gives.
-/
import Derived.Test.YtcfkapoppmpehaaWr
namespace Go.Proofs.Ytcfkapoppmpehaa
open Go.RowKit

set_option maxRecDepth 100000 in
set_option maxHeartbeats 1000000 in
theorem ends102_any (u : Value) (ids : List (List UInt8)) (hids : ids.length ≤ 100) (w : World) (hu : RdI w u ids) :
    Calls Try.prog 102 #[u] w fun e w' => e = .returned (bagg (keyOf ids)) ∧ Below w.heap.size w w' := by
  have hu0 := hu
  obtain ⟨a', cap', rfl, hc', hl', hr'⟩ := hu
  have hZ0 : (w.alloc (Obj.cells zero24 24)).heap[w.heap.size]? = some (.cells zero24 24 (0, 0)) := heap_alloc_new w _
  have hb0 : Below w.heap.size w (w.alloc (Obj.cells zero24 24)) := (Below.refl _ _).alloc (Nat.le_refl _) _
  have hs0 : (w.alloc (Obj.cells zero24 24)).heap.size = w.heap.size + 1 := by simp
  go_enter Try.func102, Try.ntmps102
  go_upto_region 1 with fail
  change Code.wp _ _ _ _ (w.alloc (Obj.cells zero24 24))
  generalize w.alloc (Obj.cells zero24 24) = w1 at *
  have hu1 := hu0.mono hb0
  clear hu0 hr'
  have hown : OwnB (w1.alloc (Obj.cells #[bv 75] 5)) (w.heap.size + 1) (.slice (some ⟨w.heap.size + 1, 0, none⟩) 1 1) [75] := by
    refine ⟨rfl, .inr ⟨w.heap.size + 1, 1, #[bv 75], rfl, Nat.le_refl _, ?_, Nat.le_refl _, by decide, rfl, rfl⟩⟩
    rw [← hs0]; exact heap_alloc_new _ _
  have hbr : Below (w.heap.size + 1) w1 (w1.alloc (Obj.cells #[bv 75] 5)) := (Below.refl _ _).alloc (by omega) _
  go_wp2_with fail
  change Code.wp _ _ _ _ (w1.alloc (Obj.cells #[bv 75] 5))
  generalize w1.alloc (Obj.cells #[bv 75] 5) = w2 at *
  go_loopw [3, 9] (fun v i wr => ∃ k : Nat, k ≤ ids.length ∧ i = .int .i64 k ∧ OwnB wr (w.heap.size + 1) v ([75] ++ (ids.take k).flatten) ∧ Below (w.heap.size + 1) w1 wr) (fun _ i _ => ids.length - (intOf i).toNat)
  case atStart => exact ⟨0, by omega, rfl, by simpa using hown, hbr⟩
  case round =>
    clear hown hbr
    obtain ⟨k, hk, rfl, hown, hbr⟩ := hrel
    have hsr := hbr.size
    by_cases hlt : k < ids.length
    · have hg : decide ((k : Int) < (ids.length : Int)) = true := decide_eq_true (by omega)
      obtain ⟨_, _, hve, _, _, hrr⟩ := hu1.mono (by rw [hs0]; exact hbr)
      cases hve
      obtain ⟨b, o, rfl, hcell⟩ := hrr (by omega)
      have hrg := hcell k hlt
      have hpl := hl' k hlt
      have Hnext := Lib.hid (show [75] ++ (ids.take (k + 1)).flatten = ([75] ++ (ids.take k).flatten) ++ ids.getD k [] by rw [List.take_add_one, List.flatten_append, List.append_assoc]; simp [hlt])
      have hll : ([75] ++ (ids.take k).flatten).length = 1 + 32 * k := by
        rw [List.length_append, flatten_length32 _ (fun x hx => by obtain ⟨j, hj, rfl⟩ := List.getElem_of_mem hx; rw [List.getElem_take]; have := hl' j (by simp at hj; omega); simpa [show j < ids.length by simp at hj; omega] using this)]
        rw [List.length_take, List.length_singleton]; omega
      generalize [75] ++ (ids.take k).flatten = l at *
      generalize ids.getD k [] = y at *
      have hnew : (wr.alloc (Obj.cells (y.map bv).toArray 24)).heap[wr.heap.size]? = some (.cells (y.map bv).toArray 24 (0, 0)) := heap_alloc_new wr _
      have hown0 := hown.alloc (Obj.cells (y.map bv).toArray 24)
      have hb0' := hbr.alloc (by rw [← hs0]; exact hsr) (Obj.cells (y.map bv).toArray 24)
      clear hcell hrr hu1
      go_wp2_with (first
        | (refine wpList_load_mid rfl 24 (.tmp 11) rfl b (o + k * 32) rfl (y.map bv) (.array 32 5) hrg (by kernel_rfl) rfl (by rw [List.length_map, hpl]; kernel_rfl) ?_)
        | (refine wpList_store_new rfl 24 (.tmp 5) (.tmp 12) rfl _ _ (y.map bv).toArray rfl rfl (id_info y hpl) (id_size y hpl).symm (id_one y) ?_)
        | (refine wpList_append_own' rfl (.tmp 13) (.tmp 14) rfl (w.heap.size + 1) _ l rfl hown0 ⟨wr.heap.size, 0, none⟩ 32 32 y rfl hpl (fun j hj => cells_row _ hnew j hj) (by omega) w1 hb0' (by rw [← hs0]; exact hb0'.size) ?_))
      intro v5 w5 hown5 hb5
      have hown6 := hown5
      rw [← Hnext.out] at hown6
      clear hown5 hnew hown0 hb0' Hnext hown
      go_wp2_with fail
      go_roundw
      case rel => exact ⟨k + 1, by omega, by go_num, hown6, hb5⟩
      case measure => simp [intOf]; omega
    · obtain rfl : k = ids.length := by omega
      have hg : decide (((ids.length : Nat) : Int) < (ids.length : Int)) = false := decide_eq_false (by omega)
      rw [List.take_of_length_le (Nat.le_refl _)] at hown
      have hll : ([75] ++ ids.flatten).length ≤ 10000 := by
        rw [List.length_append, List.length_singleton, flatten_length32 _ (fun x hx => by obtain ⟨j, hj, rfl⟩ := List.getElem_of_mem hx; have := hl' j hj; simpa [hj] using this)]
        omega
      have hI := keyOf_length ids
      have HS := Lib.hid (sum_any u3 ([75] ++ ids.flatten) (by omega) wr hown.rd)
      rw [show shaB ([75] ++ ids.flatten) = keyOf ids from rfl] at HS
      obtain ⟨d, hd⟩ : ∃ d, keyOf ids = d := ⟨_, rfl⟩
      rw [hd] at HS hI
      have Hd := Lib.hid hd
      clear hd
      have hZr := (hbr.block _ (by omega)).trans hZ0
      have hbw := hb0.trans (hbr.mono (by omega))
      clear hll hu1
      go_wp2_with fail
      refine HS.out.mono ?_
      rintro e w6 ⟨rfl, hb6⟩
      have hZ6 := (hb6.block _ (Array.getElem?_eq_some_iff.1 hZr).1).trans hZr
      have hbw6 := hbw.trans (hb6.mono hbw.size)
      dsimp only
      go_wp2_with (refine wpList_store_row rfl 24 (.tmp 2) (.tmp 18) rfl w.heap.size 24 zero24 (d.map bv).toArray rfl rfl hZ6 (id_info d hI) (id_size d hI).symm (id_one d) ?_)
      refine bodyPost_ret (results_cell_row (d := .array 32 5) rfl _ _ w.heap.size 24 _ (0, 0) rfl (setRow_heap _ _ _ _ _ _ hZ6) (by kernel_rfl) rfl (id_info d hI)) rfl ⟨by rw [Hd.out], below_setRow' hbw6 (Nat.le_refl _) _⟩
end Go.Proofs.Ytcfkapoppmpehaa

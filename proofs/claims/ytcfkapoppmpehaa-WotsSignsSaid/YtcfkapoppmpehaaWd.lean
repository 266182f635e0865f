/-
  What a call of the one-time layer's digest gives.
-/
import Derived.Test.YtcfkapoppmpehaaKw
import Derived.Test.YtcfkapoppmpehaaRfill
namespace Go.Proofs.Ytcfkapoppmpehaa
open Go.RowKit

/-- A slice of numbers is read. -/
def RdN (w : World) (v : Value) (ns : List Nat) : Prop :=
  ∃ a cap, v = .slice a ns.length cap ∧ ns.length ≤ cap ∧ (0 < ns.length → ∃ b o, a = some ⟨b, o, none⟩ ∧ ∀ i, i < ns.length → w.cell? ⟨b, o + i, none⟩ = some (.int .i64 (ns.getD i 0 : Nat)))
theorem RdN.mono {w w' : World} {v : Value} {ns : List Nat} (h : RdN w v ns) (hb : Below w.heap.size w w') : RdN w' v ns := by
  obtain ⟨a, cap, rfl, hc, hr⟩ := h
  refine ⟨a, cap, rfl, hc, fun h0 => ?_⟩
  obtain ⟨b, o, rfl, hj⟩ := hr h0
  refine ⟨b, o, rfl, fun i hi => ?_⟩
  have h1 := hj i hi
  rw [hb.cell (p := ⟨b, o + i, none⟩) (block_lt_of_cell h1)]
  exact h1

set_option maxRecDepth 100000 in
set_option maxHeartbeats 1000000 in
theorem wdigest_any (c : UInt8) (v u : Value) (ns : List Nat) (ids : List (List UInt8)) (hns : ns.length ≤ 10) (hn : ∀ i, ns.getD i 0 < 256) (hids : ids.length ≤ 100) (w : World) (hv : RdN w v ns) (hu : RdI w u ids) :
    Calls Try.prog 100 #[bv c, v, u] w fun e w' => e = .returned (bagg (shaB (c :: (ns.map UInt8.ofNat ++ ids.flatten)))) ∧ Below w.heap.size w w' := by
  have hv0 := hv
  have hu0 := hu
  obtain ⟨a, cap, rfl, hc, hr⟩ := hv
  obtain ⟨a', cap', rfl, hc', hl', hr'⟩ := hu
  have h1 : (0 : Int) ≤ 1 + (ns.length : Int) + (ids.length : Int) * 32 := by omega
  have h2 : 1 + (ns.length : Int) + (ids.length : Int) * 32 ≤ 100000 := by omega
  have hmk := fun u => run_make42 u 0 (1 + ↑ns.length + ↑ids.length * 32) 0 (1 + ns.length + ids.length * 32) rfl (by omega) (by omega) (by omega)
  have hZ0 : (w.alloc (Obj.cells zero24 24)).heap[w.heap.size]? = some (.cells zero24 24 (0, 0)) := heap_alloc_new w _
  have hb0 : Below w.heap.size w (w.alloc (Obj.cells zero24 24)) := (Below.refl _ _).alloc (Nat.le_refl _) _
  have hs0 : (w.alloc (Obj.cells zero24 24)).heap.size = w.heap.size + 1 := by simp
  go_enter Try.func100, Try.ntmps100
  go_upto_region 1 with fail
  change Code.wp _ _ _ _ (w.alloc (Obj.cells zero24 24))
  generalize w.alloc (Obj.cells zero24 24) = w1 at *
  have hv1 := hv0.mono hb0
  have hu1 := hu0.mono hb0
  clear hv0 hu0 hr hr'
  have hown0 : OwnB (w1.alloc (Obj.cells ((List.replicate (1 + ns.length + ids.length * 32) (0 : UInt8)).map bv).toArray 5)) w1.heap.size (.slice (some ⟨w1.heap.size, 0, none⟩) 0 (1 + ns.length + ids.length * 32)) [] :=
    ⟨rfl, .inr ⟨w1.heap.size, 1 + ns.length + ids.length * 32, _, rfl, Nat.le_refl _, heap_alloc_new _ _, Nat.zero_le _, by have : maxLen = 9223372036854775807 := rfl; omega, by simp, by simp⟩⟩
  have hb1 : Below w1.heap.size w1 (w1.alloc (Obj.cells ((List.replicate (1 + ns.length + ids.length * 32) (0 : UInt8)).map bv).toArray 5)) := (Below.refl _ _).alloc (Nat.le_refl _) _
  have hown1 := hown0.alloc (Obj.cells #[bv c] 5)
  have hb2 := hb1.alloc (by simp) (Obj.cells #[bv c] 5)
  have hnew : ((w1.alloc (Obj.cells ((List.replicate (1 + ns.length + ids.length * 32) (0 : UInt8)).map bv).toArray 5)).alloc (Obj.cells #[bv c] 5)).heap[w1.heap.size + 1]? = some (.cells (([c] : List UInt8).map bv).toArray 5 (0, 0)) := by
    have := heap_alloc_new (w1.alloc (Obj.cells ((List.replicate (1 + ns.length + ids.length * 32) (0 : UInt8)).map bv).toArray 5)) (Obj.cells #[bv c] 5)
    simpa using this
  rw [hs0] at hown0 hb1 hown1 hb2 hnew
  have hs3 : ((w1.alloc (Obj.cells ((List.replicate (1 + ns.length + ids.length * 32) (0 : UInt8)).map bv).toArray 5)).alloc (Obj.cells #[bv c] 5)).heap.size = w.heap.size + 3 := by simp [hs0]
  simp only [List.map_replicate, List.toArray_replicate] at hown1 hb2 hnew hs3
  go_wp2_with (refine wpList_append_own' rfl (.tmp 19) (.tmp 21) rfl (w.heap.size + 1) _ [] rfl hown1 ⟨w.heap.size + 1 + 1, 0, none⟩ 1 1 [c] rfl rfl (fun j hj => cells_row _ hnew j hj) (by simp) w1 hb2 (by rw [hs3]; omega) ?_)
  intro v4 w4 hown4 hb4
  clear hmk hown0 hb1 hown1 hb2 hnew hs3
  have hs4 := hb4.size
  go_wp2_with fail
  go_loopw [7, 25] (fun v i wr => ∃ k : Nat, k ≤ ns.length ∧ i = .int .i64 k ∧ OwnB wr (w.heap.size + 1) v ([c] ++ (ns.take k).map UInt8.ofNat) ∧ Below (w.heap.size + 1) w1 wr) (fun _ i _ => ns.length - (intOf i).toNat)
  case atStart => exact ⟨0, by omega, rfl, by simpa using hown4, hb4⟩
  case round =>
    clear hown4 hb4
    obtain ⟨k, hk, rfl, hown, hbr⟩ := hrel
    have hsr := hbr.size
    by_cases hlt : k < ns.length
    · have hg : decide ((k : Int) < (ns.length : Int)) = true := decide_eq_true (by omega)
      obtain ⟨_, _, hve, _, hrr⟩ := hv1.mono (by rw [hs0]; exact hbr)
      cases hve
      obtain ⟨b, o, rfl, hcell⟩ := hrr (by omega)
      have e1 := hcell k hlt
      have hnk := hn k
      have Hnext := Lib.hid (show [c] ++ (ns.take (k + 1)).map UInt8.ofNat = ([c] ++ (ns.take k).map UInt8.ofNat) ++ [UInt8.ofNat (ns.getD k 0)] by rw [List.take_add_one, List.map_append, List.append_assoc]; simp [hlt])
      have hll : ([c] ++ (ns.take k).map UInt8.ofNat).length = 1 + k := by simp; omega
      have hbv : bv (UInt8.ofNat (ns.getD k 0)) = .int .u8 (ns.getD k 0 : Nat) := by
        show Value.int .u8 _ = _
        rw [UInt8.toNat_ofNat', Nat.mod_eq_of_lt (by omega)]
      generalize [c] ++ (ns.take k).map UInt8.ofNat = l at *
      generalize ns.getD k 0 = n at *
      generalize UInt8.ofNat n = y at *
      have hnew : (wr.alloc (Obj.cells #[.int .u8 (n : Nat)] 5)).heap[wr.heap.size]? = some (.cells (([y] : List UInt8).map bv).toArray 5 (0, 0)) := by
        have := heap_alloc_new wr (Obj.cells #[.int .u8 (n : Nat)] 5)
        rw [this]; simp [hbv]
      have hown0 := hown.alloc (Obj.cells #[.int .u8 (n : Nat)] 5)
      have hb0' := hbr.alloc (by rw [← hs0]; exact hsr) (Obj.cells #[.int .u8 (n : Nat)] 5)
      clear hcell hrr hv1 hbv
      go_wp2_with (refine wpList_append_own' rfl (.tmp 29) (.tmp 32) rfl (w.heap.size + 1) _ l rfl hown0 ⟨wr.heap.size, 0, none⟩ 1 1 [y] rfl rfl (fun j hj => cells_row _ hnew j hj) (by omega) w1 hb0' (by rw [← hs0]; exact hb0'.size) ?_)
      intro v5 w5 hown5 hb5
      have hown6 := hown5
      rw [← Hnext.out] at hown6
      clear hown5 hnew hown0 hb0' Hnext hown
      go_wp2_with fail
      go_roundw
      case rel => exact ⟨k + 1, by omega, by go_num, hown6, hb5⟩
      case measure => simp [intOf]; omega
    · obtain rfl : k = ns.length := by omega
      have hg : decide (((ns.length : Nat) : Int) < (ns.length : Int)) = false := decide_eq_false (by omega)
      rw [List.take_of_length_le (Nat.le_refl _)] at hown
      clear hv1
      go_wp2_with fail
      have hll0 : ([c] ++ ns.map UInt8.ofNat).length = 1 + ns.length := by simp; omega
      generalize hpre : [c] ++ ns.map UInt8.ofNat = pre at *
      go_loopw [7, 37] (fun v i wr => ∃ k : Nat, k ≤ ids.length ∧ i = .int .i64 k ∧ OwnB wr (w.heap.size + 1) v (pre ++ (ids.take k).flatten) ∧ Below (w.heap.size + 1) w1 wr) (fun _ i _ => ids.length - (intOf i).toNat)
      case atStart => exact ⟨0, by omega, rfl, by simpa using hown, hbr⟩
      case round =>
        clear hown hbr hsr
        obtain ⟨k, hk, rfl, hown, hbr⟩ := hrel
        have hsr := hbr.size
        by_cases hlt : k < ids.length
        · have hg : decide ((k : Int) < (ids.length : Int)) = true := decide_eq_true (by omega)
          obtain ⟨_, _, hve, _, _, hrr⟩ := hu1.mono (by rw [hs0]; exact hbr)
          cases hve
          obtain ⟨b, o, rfl, hcell⟩ := hrr (by omega)
          have hrg := hcell k hlt
          have hpl := hl' k hlt
          have Hnext := Lib.hid (show pre ++ (ids.take (k + 1)).flatten = (pre ++ (ids.take k).flatten) ++ ids.getD k [] by rw [List.take_add_one, List.flatten_append, List.append_assoc]; simp [hlt])
          have hll : (pre ++ (ids.take k).flatten).length = 1 + ns.length + 32 * k := by
            rw [List.length_append, hll0, flatten_length32 _ (fun x hx => by obtain ⟨j, hj, rfl⟩ := List.getElem_of_mem hx; rw [List.getElem_take]; have := hl' j (by simp at hj; omega); simpa [show j < ids.length by simp at hj; omega] using this)]
            rw [List.length_take]; omega
          generalize pre ++ (ids.take k).flatten = l at *
          generalize ids.getD k [] = y at *
          have hnew : (wr.alloc (Obj.cells (y.map bv).toArray 24)).heap[wr.heap.size]? = some (.cells (y.map bv).toArray 24 (0, 0)) := heap_alloc_new wr _
          have hown0 := hown.alloc (Obj.cells (y.map bv).toArray 24)
          have hb0' := hbr.alloc (by rw [← hs0]; exact hsr) (Obj.cells (y.map bv).toArray 24)
          clear hcell hrr hu1
          go_wp2_with (first
            | (refine wpList_load_mid rfl 24 (.tmp 39) rfl b (o + k * 32) rfl (y.map bv) (.array 32 5) hrg (by kernel_rfl) rfl (by rw [List.length_map, hpl]; kernel_rfl) ?_)
            | (refine wpList_store_new rfl 24 (.tmp 11) (.tmp 40) rfl _ _ (y.map bv).toArray rfl rfl (id_info y hpl) (id_size y hpl).symm (id_one y) ?_)
            | (refine wpList_append_own' rfl (.tmp 41) (.tmp 42) rfl (w.heap.size + 1) _ l rfl hown0 ⟨wr.heap.size, 0, none⟩ 32 32 y rfl hpl (fun j hj => cells_row _ hnew j hj) (by omega) w1 hb0' (by rw [← hs0]; exact hb0'.size) ?_))
          intro v5 w5 hown5 hb5
          have hown6 := hown5
          rw [← Hnext.out] at hown6
          clear hown5 hnew hown0 hb0' Hnext hown
          go_wp2_with fail
          go_roundw
          case rel => exact ⟨k + 1, by omega, by go_num, hown6, hb5⟩
          case measure => simp [intOf]; omega
        · obtain rfl : k = ids.length := by omega
          have hg : decide (((ids.length : Nat) : Int) < (ids.length : Int)) = false := decide_eq_false (by omega)
          rw [List.take_of_length_le (Nat.le_refl _)] at hown
          have hll : (pre ++ ids.flatten).length ≤ 10000 := by
            rw [List.length_append, hll0, flatten_length32 _ (fun x hx => by obtain ⟨j, hj, rfl⟩ := List.getElem_of_mem hx; have := hl' j hj; simpa [hj] using this)]
            omega
          have hI := shaB_length (pre ++ ids.flatten)
          have HS := Lib.hid (sum_any u7 (pre ++ ids.flatten) (by omega) wr hown.rd)
          obtain ⟨d, hd⟩ : ∃ d, shaB (pre ++ ids.flatten) = d := ⟨_, rfl⟩
          rw [hd] at HS hI
          have Hd := Lib.hid hd
          clear hd
          have hZr := (hbr.block _ (by omega)).trans hZ0
          have hbw := hb0.trans (hbr.mono (by omega))
          have Hpre := Lib.hid hpre
          clear hpre hll hll0 hu1
          go_wp2_with fail
          refine HS.out.mono ?_
          rintro e w6 ⟨rfl, hb6⟩
          have hZ6 := (hb6.block _ (Array.getElem?_eq_some_iff.1 hZr).1).trans hZr
          have hbw6 := hbw.trans (hb6.mono hbw.size)
          dsimp only
          go_wp2_with (refine wpList_store_row rfl 24 (.tmp 6) (.tmp 46) rfl w.heap.size 24 zero24 (d.map bv).toArray rfl rfl hZ6 (id_info d hI) (id_size d hI).symm (id_one d) ?_)
          refine bodyPost_ret (results_cell_row (d := .array 32 5) rfl _ _ w.heap.size 24 _ (0, 0) rfl (setRow_heap _ _ _ _ _ _ hZ6) (by kernel_rfl) rfl (id_info d hI)) rfl ⟨by rw [← Hd.out, ← Hpre.out]; rfl, below_setRow' hbw6 (Nat.le_refl _) _⟩
end Go.Proofs.Ytcfkapoppmpehaa

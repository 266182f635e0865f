/-
  Signatures: what Encode answers.
-/
import Derived.Test.YtcfkapoppmpehaaSg3
import Derived.Test.YtcfkapoppmpehaaSeed
namespace Go.Proofs.Ytcfkapoppmpehaa
open Go.RowKit

theorem idx119a (x y : Value) (w : World) : (Instr.index 119 (.agg #[x, y]) (.int .i64 0)).run Try.prog w = .ok x w :=
  run_index_cells w 119 27 2 (.slice 24) (by kernel_rfl) (by kernel_rfl) rfl (by kernel_rfl) _ 0 _ (by omega) rfl
theorem idx119b (x y : Value) (w : World) : (Instr.index 119 (.agg #[x, y]) (.int .i64 1)).run Try.prog w = .ok y w :=
  run_index_cells w 119 27 2 (.slice 24) (by kernel_rfl) (by kernel_rfl) rfl (by kernel_rfl) _ 1 _ (by omega) rfl
def preE (c : UInt8) (cs ps : List (List UInt8)) : Nat → List UInt8
  | 0 => [c]
  | 1 => [c] ++ cs.flatten
  | _ => [c] ++ cs.flatten ++ ps.flatten

set_option maxRecDepth 100000 in
set_option maxHeartbeats 4000000 in
theorem encode_ok (v : Value) (n : Nat) (hn : n < 8) (cs ps : List (List UInt8)) (w : World) (hv : RdS w v (n : Int) cs ps) (hl1 : cs.length = 67) (hl2 : ps.length = 3) :
    Calls Try.prog 37 #[v] w fun e w' => ∃ v', e = .returned (.tuple #[v', .int .i64 0]) ∧ RdB w' v' (bytS n cs ps) ∧ Below w.heap.size w w' := by
  obtain ⟨cv, pv, rfl, hc, hp⟩ := hv
  have hc0 := hc
  have hp0 := hp
  obtain ⟨ca, cc, rfl, hcc, _, _⟩ := hc0
  obtain ⟨pa, pc, rfl, hpc, _, _⟩ := hp0
  have hcv := conv_u8 n
  have hclen := hc.len32
  have hplen := hp.len32
  have HL := Lib.hid (leafed_any (n : Int))
  rw [decide_eq_true (show 0 ≤ (n : Int) ∧ (n : Int) < 8 by omega)] at HL
  have hB := Lib.hid (show bytS n cs ps = [UInt8.ofNat n] ++ cs.flatten ++ ps.flatten from rfl)
  generalize UInt8.ofNat n = c at *
  have e67 : ((cs.length : Int) != 67) = false := by simp; omega
  have e3 : ((ps.length : Int) != 3) = false := by simp; omega
  replace hl1 : cs.length ≤ 67 := by omega
  replace hl2 : ps.length ≤ 3 := by omega
  go_enter Try.func37, Try.ntmps37
  go_upto_region 1 with fail
  have hb1 : Below w.heap.size w (w.alloc (Obj.cells #[.int .i64 n, .slice ca cs.length cc, .slice pa ps.length pc] 49)) := (Below.refl _ _).alloc (Nat.le_refl _) _
  have hB0 : (w.alloc (Obj.cells #[.int .i64 n, .slice ca cs.length cc, .slice pa ps.length pc] 49)).heap[w.heap.size]? = some (.cells #[.int .i64 n, .slice ca cs.length cc, .slice pa ps.length pc] 49 (0, 0)) := heap_alloc_new w _
  change Code.wp _ _ _ _ (w.alloc (Obj.cells #[.int .i64 n, .slice ca cs.length cc, .slice pa ps.length pc] 49))
  generalize w.alloc (Obj.cells #[.int .i64 n, .slice ca cs.length cc, .slice pa ps.length pc] 49) = w0 at *
  have h0 : w0.cell? ⟨w.heap.size, 0, none⟩ = some (.int .i64 n) := by rw [cell_of_row _ _ _ _ _ _ hB0]; rfl
  have h1 : w0.cell? ⟨w.heap.size, 1, none⟩ = some (.slice ca cs.length cc) := by rw [cell_of_row _ _ _ _ _ _ hB0]; rfl
  have h2 : w0.cell? ⟨w.heap.size, 2, none⟩ = some (.slice pa ps.length pc) := by rw [cell_of_row _ _ _ _ _ _ hB0]; rfl
  replace hc := hc.mono hb1
  replace hp := hp.mono hb1
  clear hB0
  go_wp2_with fail
  refine (HL.out w0).mono ?_
  rintro e w1 ⟨rfl, hb2⟩
  replace h0 := (hb2.cell (p := ⟨w.heap.size, 0, none⟩) (block_lt_of_cell h0)).trans h0
  replace h1 := (hb2.cell (p := ⟨w.heap.size, 1, none⟩) (block_lt_of_cell h1)).trans h1
  replace h2 := (hb2.cell (p := ⟨w.heap.size, 2, none⟩) (block_lt_of_cell h2)).trans h2
  replace hc := hc.mono hb2
  replace hp := hp.mono hb2
  replace hb1 := hb1.trans (hb2.mono hb1.size)
  clear hb2 HL
  dsimp only
  obtain ⟨B, hBs⟩ : ∃ B, B = w1.heap.size := ⟨_, rfl⟩
  have hs1 : Hid (w1.heap.size = B) := Lib.hid hBs.symm
  have hBw : w.heap.size < B := by rw [hBs]; exact block_lt_of_cell h0
  have hown0 : OwnB (w1.alloc (Obj.cells #[bv c] 5)) B (.slice (some ⟨w1.heap.size, 0, none⟩) 1 1) [c] :=
    ⟨rfl, .inr ⟨w1.heap.size, 1, #[bv c], rfl, by rw [hs1.out]; exact Nat.le_refl _, heap_alloc_new _ _, Nat.le_refl _, by decide, rfl, rfl⟩⟩
  have hbr0 : Below B w1 (w1.alloc (Obj.cells #[bv c] 5)) := (Below.refl _ _).alloc (by rw [hs1.out]; exact Nat.le_refl _) _
  clear hBs
  go_upto_region 4 with fail
  change Code.wp _ _ _ _ (w1.alloc (Obj.cells #[bv c] 5))
  replace h1 := (hbr0.cell (p := ⟨w.heap.size, 1, none⟩) hBw).trans h1
  replace h2 := (hbr0.cell (p := ⟨w.heap.size, 2, none⟩) hBw).trans h2
  generalize w1.alloc (Obj.cells #[bv c] 5) = w2 at *
  generalize Value.slice (some ⟨w1.heap.size, 0, none⟩) 1 1 = v2 at *
  clear hcv h0
  go_wp2_with fail
  go_loopw [4, 34] (fun v i wr => ∃ j : Nat, j ≤ 2 ∧ i = .int .i64 j ∧ OwnB wr B v (preE c cs ps j) ∧ Below B w1 wr) (fun _ i _ => 2 - (intOf i).toNat)
  case atStart => exact ⟨0, by omega, rfl, hown0, hbr0⟩
  case round =>
    clear hown0 hbr0 h1 h2
    obtain ⟨j, hj, rfl, hownj, hbrj⟩ := hrel
    have hj3 : j = 0 ∨ j = 1 ∨ j = 2 := by omega
    rcases hj3 with rfl | rfl | rfl
    · rw [show preE c cs ps 0 = [c] from rfl] at hownj
      rw [show ((0 : Nat) : Int) = 0 from rfl]
      have hix := idx119a (.slice ca cs.length cc) (.slice pa ps.length pc)
      have H1 := Lib.hid (show preE c cs ps 1 = [c] ++ cs.flatten from rfl)
      go_wp2_with fail
      go_loopw [4, 39] (fun v i wr => ∃ k : Nat, k ≤ cs.length ∧ i = .int .i64 k ∧ OwnB wr B v ([c] ++ (cs.take k).flatten) ∧ Below B w1 wr) (fun _ i _ => cs.length - (intOf i).toNat)
      case atStart => exact ⟨0, by omega, rfl, by simpa using hownj, hbrj⟩
      case round =>
        clear hownj hbrj
        obtain ⟨k, hk, rfl, hown, hbr⟩ := hrel
        have hsr := hbr.size
        by_cases hlt : k < cs.length
        · have hg : decide ((k : Int) < (cs.length : Int)) = true := decide_eq_true (by omega)
          obtain ⟨_, _, hve, _, hl', hrr⟩ := hc.mono (by rw [hs1.out]; exact hbr)
          cases hve
          obtain ⟨b, o, rfl, hcell⟩ := hrr (by omega)
          have hrg := hcell k hlt
          have hpl := hl' k hlt
          have Hnext := Lib.hid (show [c] ++ (cs.take (k + 1)).flatten = ([c] ++ (cs.take k).flatten) ++ cs.getD k [] by rw [List.take_add_one, List.flatten_append, List.append_assoc]; simp [hlt])
          have hpr0 : ([c]).length ≤ 3000 := by first | exact hprel | (rw [List.length_singleton]; omega)
          have hll : ([c] ++ (cs.take k).flatten).length ≤ 9000 := by
            rw [List.length_append, flatten_len32 _ (fun x hx => by obtain ⟨j, hj, rfl⟩ := List.getElem_of_mem hx; rw [List.getElem_take]; have := hl' j (by simp at hj; omega); simpa [show j < cs.length by simp at hj; omega] using this)]
            rw [List.length_take]; omega
          generalize [c] ++ (cs.take k).flatten = l at *
          generalize cs.getD k [] = y at *
          have hnew : (wr.alloc (Obj.cells (y.map bv).toArray 24)).heap[wr.heap.size]? = some (.cells (y.map bv).toArray 24 (0, 0)) := heap_alloc_new wr _
          have hown0 := hown.alloc (Obj.cells (y.map bv).toArray 24)
          have hb0' := hbr.alloc (by rw [← hs1.out]; exact hsr) (Obj.cells (y.map bv).toArray 24)
          clear hcell hrr
          go_wp2_with (first
            | (refine wpList_load_mid rfl 24 (.tmp 41) rfl b (o + k * 32) rfl (y.map bv) (.array 32 5) hrg (by kernel_rfl) rfl (by rw [List.length_map, hpl]; kernel_rfl) ?_)
            | (refine wpList_store_new rfl 24 (.tmp 8) (.tmp 42) rfl _ _ (y.map bv).toArray rfl rfl (id_info y hpl) (id_size y hpl).symm (id_one y) ?_)
            | (refine wpList_append_own' rfl (.tmp 43) (.tmp 44) rfl B _ l rfl hown0 ⟨wr.heap.size, 0, none⟩ 32 32 y rfl hpl (fun j hj => cells_row _ hnew j hj) (by omega) w1 hb0' (by rw [← hs1.out]; exact hb0'.size) ?_))
          intro v5 w5 hown5 hb5
          have hown6 := hown5
          rw [← Hnext.out] at hown6
          clear hown5 hnew hown0 hb0' Hnext hown
          go_wp2_with fail
          go_roundw
          case rel => exact ⟨k + 1, by omega, by go_num, hown6, hb5⟩
          case measure => simp [intOf]; omega
        · obtain rfl : k = cs.length := by omega
          have hg : decide (((cs.length : Nat) : Int) < (cs.length : Int)) = false := decide_eq_false (by omega)
          rw [List.take_of_length_le (Nat.le_refl _)] at hown
          rw [← H1.out] at hown
          go_wp2_with fail
          go_roundw
          case rel => exact ⟨1, by omega, by go_num, hown, hbr⟩
          case measure => simp [intOf]
    · rw [show preE c cs ps 1 = [c] ++ cs.flatten from rfl] at hownj
      rw [show ((1 : Nat) : Int) = 1 from rfl]
      have hix := idx119b (.slice ca cs.length cc) (.slice pa ps.length pc)
      have H1 := Lib.hid (show preE c cs ps 2 = ([c] ++ cs.flatten) ++ ps.flatten from rfl)
      have hprel : ([c] ++ cs.flatten).length ≤ 3000 := by rw [List.length_append, hclen]; simp; omega
      generalize [c] ++ cs.flatten = pre at *
      go_wp2_with fail
      go_loopw [4, 39] (fun v i wr => ∃ k : Nat, k ≤ ps.length ∧ i = .int .i64 k ∧ OwnB wr B v (pre ++ (ps.take k).flatten) ∧ Below B w1 wr) (fun _ i _ => ps.length - (intOf i).toNat)
      case atStart => exact ⟨0, by omega, rfl, by simpa using hownj, hbrj⟩
      case round =>
        clear hownj hbrj
        obtain ⟨k, hk, rfl, hown, hbr⟩ := hrel
        have hsr := hbr.size
        by_cases hlt : k < ps.length
        · have hg : decide ((k : Int) < (ps.length : Int)) = true := decide_eq_true (by omega)
          obtain ⟨_, _, hve, _, hl', hrr⟩ := hp.mono (by rw [hs1.out]; exact hbr)
          cases hve
          obtain ⟨b, o, rfl, hcell⟩ := hrr (by omega)
          have hrg := hcell k hlt
          have hpl := hl' k hlt
          have Hnext := Lib.hid (show pre ++ (ps.take (k + 1)).flatten = (pre ++ (ps.take k).flatten) ++ ps.getD k [] by rw [List.take_add_one, List.flatten_append, List.append_assoc]; simp [hlt])
          have hpr0 : (pre).length ≤ 3000 := by first | exact hprel | (rw [List.length_singleton]; omega)
          have hll : (pre ++ (ps.take k).flatten).length ≤ 9000 := by
            rw [List.length_append, flatten_len32 _ (fun x hx => by obtain ⟨j, hj, rfl⟩ := List.getElem_of_mem hx; rw [List.getElem_take]; have := hl' j (by simp at hj; omega); simpa [show j < ps.length by simp at hj; omega] using this)]
            rw [List.length_take]; omega
          generalize pre ++ (ps.take k).flatten = l at *
          generalize ps.getD k [] = y at *
          have hnew : (wr.alloc (Obj.cells (y.map bv).toArray 24)).heap[wr.heap.size]? = some (.cells (y.map bv).toArray 24 (0, 0)) := heap_alloc_new wr _
          have hown0 := hown.alloc (Obj.cells (y.map bv).toArray 24)
          have hb0' := hbr.alloc (by rw [← hs1.out]; exact hsr) (Obj.cells (y.map bv).toArray 24)
          clear hcell hrr
          go_wp2_with (first
            | (refine wpList_load_mid rfl 24 (.tmp 41) rfl b (o + k * 32) rfl (y.map bv) (.array 32 5) hrg (by kernel_rfl) rfl (by rw [List.length_map, hpl]; kernel_rfl) ?_)
            | (refine wpList_store_new rfl 24 (.tmp 8) (.tmp 42) rfl _ _ (y.map bv).toArray rfl rfl (id_info y hpl) (id_size y hpl).symm (id_one y) ?_)
            | (refine wpList_append_own' rfl (.tmp 43) (.tmp 44) rfl B _ l rfl hown0 ⟨wr.heap.size, 0, none⟩ 32 32 y rfl hpl (fun j hj => cells_row _ hnew j hj) (by omega) w1 hb0' (by rw [← hs1.out]; exact hb0'.size) ?_))
          intro v5 w5 hown5 hb5
          have hown6 := hown5
          rw [← Hnext.out] at hown6
          clear hown5 hnew hown0 hb0' Hnext hown
          go_wp2_with fail
          go_roundw
          case rel => exact ⟨k + 1, by omega, by go_num, hown6, hb5⟩
          case measure => simp [intOf]; omega
        · obtain rfl : k = ps.length := by omega
          have hg : decide (((ps.length : Nat) : Int) < (ps.length : Int)) = false := decide_eq_false (by omega)
          rw [List.take_of_length_le (Nat.le_refl _)] at hown
          rw [← H1.out] at hown
          go_wp2_with fail
          go_roundw
          case rel => exact ⟨2, by omega, by go_num, hown, hbr⟩
          case measure => simp [intOf]
    · rw [show preE c cs ps 2 = [c] ++ cs.flatten ++ ps.flatten from rfl] at hownj
      rw [show ((2 : Nat) : Int) = 2 from rfl]
      go_wp2_with fail
      refine bodyPost_ret (results_tmp2 rfl _ _ _) rfl ?_
      exact ⟨_, rfl, by rw [hB.out]; exact hownj.rd, hb1.trans (hbrj.mono (by omega))⟩

set_option maxRecDepth 100000 in
set_option maxHeartbeats 4000000 in
theorem encode_err (v : Value) (leaf : Int) (cs ps : List (List UInt8)) (w : World) (hv : RdS w v leaf cs ps) (hn : ¬ okS leaf cs ps) :
    Calls Try.prog 37 #[v] w fun e w' => e = .returned (.tuple #[.slice none 0 0, .int .i64 2]) ∧ Below w.heap.size w w' := by
  obtain ⟨cv, pv, rfl, ⟨ca, cc, rfl, hcc, -, -⟩, ⟨pa, pc, rfl, hpc, -, -⟩⟩ := hv
  have HL := Lib.hid (leafed_any leaf)
  unfold okS at hn
  go_enter Try.func37, Try.ntmps37
  go_upto_region 1 with fail
  have hb1 : Below w.heap.size w (w.alloc (Obj.cells #[.int .i64 leaf, .slice ca cs.length cc, .slice pa ps.length pc] 49)) := (Below.refl _ _).alloc (Nat.le_refl _) _
  have hB0 : (w.alloc (Obj.cells #[.int .i64 leaf, .slice ca cs.length cc, .slice pa ps.length pc] 49)).heap[w.heap.size]? = some (.cells #[.int .i64 leaf, .slice ca cs.length cc, .slice pa ps.length pc] 49 (0, 0)) := heap_alloc_new w _
  change Code.wp _ _ _ _ (w.alloc (Obj.cells #[.int .i64 leaf, .slice ca cs.length cc, .slice pa ps.length pc] 49))
  generalize w.alloc (Obj.cells #[.int .i64 leaf, .slice ca cs.length cc, .slice pa ps.length pc] 49) = w0 at *
  have h0 : w0.cell? ⟨w.heap.size, 0, none⟩ = some (.int .i64 leaf) := by rw [cell_of_row _ _ _ _ _ _ hB0]; rfl
  have h1 : w0.cell? ⟨w.heap.size, 1, none⟩ = some (.slice ca cs.length cc) := by rw [cell_of_row _ _ _ _ _ _ hB0]; rfl
  have h2 : w0.cell? ⟨w.heap.size, 2, none⟩ = some (.slice pa ps.length pc) := by rw [cell_of_row _ _ _ _ _ _ hB0]; rfl
  clear hB0
  go_wp2_with fail
  refine (HL.out w0).mono ?_
  rintro e w1 ⟨rfl, hb2⟩
  replace h0 := (hb2.cell (p := ⟨w.heap.size, 0, none⟩) (block_lt_of_cell h0)).trans h0
  replace h1 := (hb2.cell (p := ⟨w.heap.size, 1, none⟩) (block_lt_of_cell h1)).trans h1
  replace h2 := (hb2.cell (p := ⟨w.heap.size, 2, none⟩) (block_lt_of_cell h2)).trans h2
  replace hb1 := hb1.trans (hb2.mono hb1.size)
  clear hb2 HL
  dsimp only
  by_cases q0 : 0 ≤ leaf ∧ leaf < 8
  · rw [decide_eq_true q0]
    by_cases q1 : cs.length = 67
    · have e67 : ((cs.length : Int) != 67) = false := by simp; omega
      have e3 : ((ps.length : Int) != 3) = true := by simp; omega
      go_wp2_with fail
      refine bodyPost_ret (results_tmp2 rfl _ _ _) rfl ?_
      exact ⟨rfl, hb1⟩
    · have e67 : ((cs.length : Int) != 67) = true := by simp; omega
      go_wp2_with fail
      refine bodyPost_ret (results_tmp2 rfl _ _ _) rfl ?_
      exact ⟨rfl, hb1⟩
  · rw [decide_eq_false q0]
    go_wp2_with fail
    refine bodyPost_ret (results_tmp2 rfl _ _ _) rfl ?_
    exact ⟨rfl, hb1⟩
end Go.Proofs.Ytcfkapoppmpehaa

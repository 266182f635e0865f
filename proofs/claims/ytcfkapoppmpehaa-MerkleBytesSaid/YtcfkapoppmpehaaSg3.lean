/-
  Signatures: their bytes, as the law's own encoding gives them.
-/
import Derived.Test.YtcfkapoppmpehaaSg1
namespace Go.Proofs.Ytcfkapoppmpehaa
open Go.RowKit

/-- The bytes of a signature. -/
def bytS (n : Nat) (cs ps : List (List UInt8)) : List UInt8 := [UInt8.ofNat n] ++ cs.flatten ++ ps.flatten
theorem conv_u8 (n : Nat) (w : World) : (convert 3 5 (.int .i64 n)).run Try.prog w = .ok (bv (UInt8.ofNat n)) w := by
  have h3 : Try.prog.underlying 3 = some (.int .i64) := by kernel_rfl
  have h5 : Try.prog.underlying 5 = some (.int .u8) := by kernel_rfl
  have e : (IntKind.u8.wrap (n : Int)) = ((UInt8.ofNat n).toNat : Int) := by
    rw [UInt8.toNat_ofNat']
    simp [IntKind.wrap, IntKind.bits, IntKind.signed]
  simp [convert, run_underlying h3, run_underlying h5, Conv.intToInt, bv, e]
theorem RdI.len32 {w : World} {v : Value} {ids : List (List UInt8)} (h : RdI w v ids) : ids.flatten.length = 32 * ids.length := by
  obtain ⟨_, _, _, _, hl, _⟩ := h
  exact flatten_len32 _ (fun x hx => by obtain ⟨j, hj, rfl⟩ := List.getElem_of_mem hx; have := hl j hj; simpa [hj] using this)
theorem bytS_length {w : World} {v u : Value} {n : Nat} {cs ps : List (List UInt8)} (h : RdI w v cs) (h2 : RdI w u ps) : (bytS n cs ps).length = 1 + 32 * cs.length + 32 * ps.length := by
  rw [bytS, List.length_append, List.length_append, h.len32, h2.len32]; simp

set_option maxRecDepth 100000 in
set_option maxHeartbeats 4000000 in
theorem bytes40_any (v : Value) (n : Nat) (cs ps : List (List UInt8)) (w : World) (hv : RdS w v (n : Int) cs ps) (hl1 : cs.length ≤ 67) (hl2 : ps.length ≤ 3) :
    Calls Try.prog 40 #[v] w fun e w' => ∃ v', e = .returned v' ∧ RdB w' v' (bytS n cs ps) ∧ Below w.heap.size w w' := by
  obtain ⟨cv, pv, rfl, hc, hp⟩ := hv
  have hc0 := hc
  have hp0 := hp
  obtain ⟨ca, cc, rfl, hcc, _, _⟩ := hc0
  obtain ⟨pa, pc, rfl, hpc, _, _⟩ := hp0
  have hcv := conv_u8 n
  have hclen := hc.len32
  have hB := Lib.hid (show bytS n cs ps = [UInt8.ofNat n] ++ cs.flatten ++ ps.flatten from rfl)
  generalize UInt8.ofNat n = c at *
  go_enter Try.func40, Try.ntmps40
  go_upto_region 1 with fail
  have hb1 : Below w.heap.size w (w.alloc (Obj.cells #[.int .i64 n, .slice ca cs.length cc, .slice pa ps.length pc] 49)) := (Below.refl _ _).alloc (Nat.le_refl _) _
  have hB0 : (w.alloc (Obj.cells #[.int .i64 n, .slice ca cs.length cc, .slice pa ps.length pc] 49)).heap[w.heap.size]? = some (.cells #[.int .i64 n, .slice ca cs.length cc, .slice pa ps.length pc] 49 (0, 0)) := heap_alloc_new w _
  have hs1 : Hid ((w.alloc (Obj.cells #[.int .i64 n, .slice ca cs.length cc, .slice pa ps.length pc] 49)).heap.size = w.heap.size + 1) := Lib.hid (by simp)
  change Code.wp _ _ _ _ (w.alloc (Obj.cells #[.int .i64 n, .slice ca cs.length cc, .slice pa ps.length pc] 49))
  generalize w.alloc (Obj.cells #[.int .i64 n, .slice ca cs.length cc, .slice pa ps.length pc] 49) = w1 at *
  have h0 : w1.cell? ⟨w.heap.size, 0, none⟩ = some (.int .i64 n) := by rw [cell_of_row _ _ _ _ _ _ hB0]; rfl
  have h1 : w1.cell? ⟨w.heap.size, 1, none⟩ = some (.slice ca cs.length cc) := by rw [cell_of_row _ _ _ _ _ _ hB0]; rfl
  have h2 : w1.cell? ⟨w.heap.size, 2, none⟩ = some (.slice pa ps.length pc) := by rw [cell_of_row _ _ _ _ _ _ hB0]; rfl
  replace hc := hc.mono hb1
  replace hp := hp.mono hb1
  have hown0 : OwnB (w1.alloc (Obj.cells #[bv c] 5)) (w.heap.size + 1) (.slice (some ⟨w1.heap.size, 0, none⟩) 1 1) [c] :=
    ⟨rfl, .inr ⟨w1.heap.size, 1, #[bv c], rfl, by rw [hs1.out]; exact Nat.le_refl _, heap_alloc_new _ _, Nat.le_refl _, by decide, rfl, rfl⟩⟩
  have hbr0 : Below (w.heap.size + 1) w1 (w1.alloc (Obj.cells #[bv c] 5)) := (Below.refl _ _).alloc (by rw [hs1.out]; exact Nat.le_refl _) _
  clear hB0
  go_upto_region 2 with fail
  change Code.wp _ _ _ _ (w1.alloc (Obj.cells #[bv c] 5))
  replace h1 := (hbr0.cell (p := ⟨w.heap.size, 1, none⟩) (by show w.heap.size < _; omega)).trans h1
  generalize w1.alloc (Obj.cells #[bv c] 5) = w2 at *
  generalize Value.slice (some ⟨w1.heap.size, 0, none⟩) 1 1 = v2 at *
  clear hcv h0
  go_wp2_with fail
  go_loopw [3, 15] (fun v i wr => ∃ k : Nat, k ≤ cs.length ∧ i = .int .i64 k ∧ OwnB wr (w.heap.size + 1) v ([c] ++ (cs.take k).flatten) ∧ Below (w.heap.size + 1) w1 wr) (fun _ i _ => cs.length - (intOf i).toNat)
  case atStart => exact ⟨0, by omega, rfl, by simpa using hown0, hbr0⟩
  case round =>
    clear hown0 hbr0
    obtain ⟨k, hk, rfl, hown, hbr⟩ := hrel
    have hsr := hbr.size
    by_cases hlt : k < cs.length
    · have hg : decide ((k : Int) < (cs.length : Int)) = true := decide_eq_true (by omega)
      obtain ⟨_, _, hve, _, hl', hrr⟩ := hc.mono (by rw [hs1.out]; exact hbr)
      cases hve
      obtain ⟨b, o, rfl, hcell⟩ := hrr (by omega)
      have hrg := hcell k hlt
      have hpl := hl' k hlt
      have Hnext := Lib.hid (show [c] ++ (cs.take (k + 1)).flatten = ([c] ++ (cs.take k).flatten) ++ cs.getD k [] by rw [List.take_add_one, List.flatten_append, List.append_assoc]; simp [hlt])
      have hpr0 : ([c]).length ≤ 3000 := by first | exact hprel | (rw [List.length_singleton]; omega)
      have hll : ([c] ++ (cs.take k).flatten).length ≤ 9000 := by
        rw [List.length_append, flatten_len32 _ (fun x hx => by obtain ⟨j, hj, rfl⟩ := List.getElem_of_mem hx; rw [List.getElem_take]; have := hl' j (by simp at hj; omega); simpa [show j < cs.length by simp at hj; omega] using this)]
        rw [List.length_take]; omega
      generalize [c] ++ (cs.take k).flatten = l at *
      generalize cs.getD k [] = y at *
      have hnew : (wr.alloc (Obj.cells (y.map bv).toArray 24)).heap[wr.heap.size]? = some (.cells (y.map bv).toArray 24 (0, 0)) := heap_alloc_new wr _
      have hown0 := hown.alloc (Obj.cells (y.map bv).toArray 24)
      have hb0' := hbr.alloc (by rw [← hs1.out]; exact hsr) (Obj.cells (y.map bv).toArray 24)
      clear hcell hrr
      go_wp2_with (first
        | (refine wpList_load_mid rfl 24 (.tmp 17) rfl b (o + k * 32) rfl (y.map bv) (.array 32 5) hrg (by kernel_rfl) rfl (by rw [List.length_map, hpl]; kernel_rfl) ?_)
        | (refine wpList_store_new rfl 24 (.tmp 5) (.tmp 18) rfl _ _ (y.map bv).toArray rfl rfl (id_info y hpl) (id_size y hpl).symm (id_one y) ?_)
        | (refine wpList_append_own' rfl (.tmp 19) (.tmp 20) rfl (w.heap.size + 1) _ l rfl hown0 ⟨wr.heap.size, 0, none⟩ 32 32 y rfl hpl (fun j hj => cells_row _ hnew j hj) (by omega) w1 hb0' (by rw [← hs1.out]; exact hb0'.size) ?_))
      intro v5 w5 hown5 hb5
      have hown6 := hown5
      rw [← Hnext.out] at hown6
      clear hown5 hnew hown0 hb0' Hnext hown
      go_wp2_with fail
      go_roundw
      case rel => exact ⟨k + 1, by omega, by go_num, hown6, hb5⟩
      case measure => simp [intOf]; omega
    · obtain rfl : k = cs.length := by omega
      have hg : decide (((cs.length : Nat) : Int) < (cs.length : Int)) = false := decide_eq_false (by omega)
      rw [List.take_of_length_le (Nat.le_refl _)] at hown
      replace h2 := (hbr.cell (p := ⟨w.heap.size, 2, none⟩) (by show w.heap.size < _; omega)).trans h2
      generalize hpd : [c] ++ cs.flatten = pre at *
      have hprel : pre.length ≤ 3000 := by rw [← hpd, List.length_append, hclen]; simp; omega
      replace hpd := Lib.hid hpd
      clear hclen
      go_wp2_with fail
      go_loopw [3, 26] (fun v i wr => ∃ k : Nat, k ≤ ps.length ∧ i = .int .i64 k ∧ OwnB wr (w.heap.size + 1) v (pre ++ (ps.take k).flatten) ∧ Below (w.heap.size + 1) w1 wr) (fun _ i _ => ps.length - (intOf i).toNat)
      case atStart => exact ⟨0, by omega, rfl, by simpa using hown, hbr⟩
      case round =>
        clear hown hbr
        obtain ⟨k, hk, rfl, hown, hbr⟩ := hrel
        have hsr := hbr.size
        by_cases hlt : k < ps.length
        · have hg : decide ((k : Int) < (ps.length : Int)) = true := decide_eq_true (by omega)
          obtain ⟨_, _, hve, _, hl', hrr⟩ := hp.mono (by rw [hs1.out]; exact hbr)
          cases hve
          obtain ⟨b, o, rfl, hcell⟩ := hrr (by omega)
          have hrg := hcell k hlt
          have hpl := hl' k hlt
          have Hnext := Lib.hid (show pre ++ (ps.take (k + 1)).flatten = (pre ++ (ps.take k).flatten) ++ ps.getD k [] by rw [List.take_add_one, List.flatten_append, List.append_assoc]; simp [hlt])
          have hpr0 : (pre).length ≤ 3000 := by first | exact hprel | (rw [List.length_singleton]; omega)
          have hll : (pre ++ (ps.take k).flatten).length ≤ 9000 := by
            rw [List.length_append, flatten_len32 _ (fun x hx => by obtain ⟨j, hj, rfl⟩ := List.getElem_of_mem hx; rw [List.getElem_take]; have := hl' j (by simp at hj; omega); simpa [show j < ps.length by simp at hj; omega] using this)]
            rw [List.length_take]; omega
          generalize pre ++ (ps.take k).flatten = l at *
          generalize ps.getD k [] = y at *
          have hnew : (wr.alloc (Obj.cells (y.map bv).toArray 24)).heap[wr.heap.size]? = some (.cells (y.map bv).toArray 24 (0, 0)) := heap_alloc_new wr _
          have hown0 := hown.alloc (Obj.cells (y.map bv).toArray 24)
          have hb0' := hbr.alloc (by rw [← hs1.out]; exact hsr) (Obj.cells (y.map bv).toArray 24)
          clear hcell hrr
          go_wp2_with (first
            | (refine wpList_load_mid rfl 24 (.tmp 28) rfl b (o + k * 32) rfl (y.map bv) (.array 32 5) hrg (by kernel_rfl) rfl (by rw [List.length_map, hpl]; kernel_rfl) ?_)
            | (refine wpList_store_new rfl 24 (.tmp 7) (.tmp 29) rfl _ _ (y.map bv).toArray rfl rfl (id_info y hpl) (id_size y hpl).symm (id_one y) ?_)
            | (refine wpList_append_own' rfl (.tmp 30) (.tmp 31) rfl (w.heap.size + 1) _ l rfl hown0 ⟨wr.heap.size, 0, none⟩ 32 32 y rfl hpl (fun j hj => cells_row _ hnew j hj) (by omega) w1 hb0' (by rw [← hs1.out]; exact hb0'.size) ?_))
          intro v5 w5 hown5 hb5
          have hown6 := hown5
          rw [← Hnext.out] at hown6
          clear hown5 hnew hown0 hb0' Hnext hown
          go_wp2_with fail
          go_roundw
          case rel => exact ⟨k + 1, by omega, by go_num, hown6, hb5⟩
          case measure => simp [intOf]; omega
        · obtain rfl : k = ps.length := by omega
          have hg : decide (((ps.length : Nat) : Int) < (ps.length : Int)) = false := decide_eq_false (by omega)
          rw [List.take_of_length_le (Nat.le_refl _)] at hown
          go_wp2_with fail
          go_ret
          exact ⟨_, rfl, by rw [hB.out]; exact hown.rd, hb1.trans (hbr.mono (by omega))⟩
end Go.Proofs.Ytcfkapoppmpehaa

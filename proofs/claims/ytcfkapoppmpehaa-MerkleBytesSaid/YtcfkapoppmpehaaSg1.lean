/-
  Signatures: whether one is right, whether two are the same.
-/
import Derived.Test.YtcfkapoppmpehaaSg2
import Derived.Test.YtcfkapoppmpehaaEq
namespace Go.Proofs.Ytcfkapoppmpehaa
open Go.RowKit

def okS (leaf : Int) (cs ps : List (List UInt8)) : Prop := 0 ≤ leaf ∧ leaf < 8 ∧ cs.length = 67 ∧ ps.length = 3
instance (leaf : Int) (cs ps : List (List UInt8)) : Decidable (okS leaf cs ps) := by unfold okS; infer_instance

set_option maxRecDepth 100000 in
set_option maxHeartbeats 2000000 in
theorem right38_any (v : Value) (leaf : Int) (cs ps : List (List UInt8)) (w : World) (hv : RdS w v leaf cs ps) :
    Calls Try.prog 38 #[v] w fun e w' => e = .returned (.bool (decide (okS leaf cs ps))) ∧ Below w.heap.size w w' := by
  obtain ⟨cv, pv, rfl, ⟨ca, cc, rfl, hcc, -, -⟩, ⟨pa, pc, rfl, hpc, -, -⟩⟩ := hv
  have HD : ∀ b, (okS leaf cs ps ↔ b = true) → decide (okS leaf cs ps) = b := fun b h => by
    cases b
    · exact decide_eq_false (fun h1 => by have := h.1 h1; cases this)
    · exact decide_eq_true (h.2 rfl)
  unfold okS at HD
  replace HD := Lib.hid HD
  go_enter Try.func38, Try.ntmps38
  go_upto_region 1 with fail
  obtain ⟨w2, hw2, hbl, hb2, -⟩ := allocs_named w [.cells #[.int .i64 leaf, .slice ca cs.length cc, .slice pa ps.length pc] 49]
  change Code.wp _ _ _ _ (List.foldl World.alloc w [.cells #[.int .i64 leaf, .slice ca cs.length cc, .slice pa ps.length pc] 49])
  rw [hw2]
  have hB0 : w2.heap[w.heap.size]? = some (.cells #[.int .i64 leaf, .slice ca cs.length cc, .slice pa ps.length pc] 49 (0, 0)) := hbl 0
  have h0 : w2.cell? ⟨w.heap.size, 0, none⟩ = some (.int .i64 leaf) := by rw [cell_of_row _ _ _ _ _ _ hB0]; rfl
  have h1 : w2.cell? ⟨w.heap.size, 1, none⟩ = some (.slice ca cs.length cc) := by rw [cell_of_row _ _ _ _ _ _ hB0]; rfl
  have h2 : w2.cell? ⟨w.heap.size, 2, none⟩ = some (.slice pa ps.length pc) := by rw [cell_of_row _ _ _ _ _ _ hB0]; rfl
  clear hw2 hbl hB0
  by_cases q0 : 0 ≤ leaf
  · have g0 : decide (0 ≤ leaf) = true := decide_eq_true q0
    by_cases q1 : leaf < 8
    · have g1 : decide (leaf < 8) = true := decide_eq_true q1
      by_cases q2 : cs.length = 67
      · have g2 : ((cs.length : Int) == 67) = true := by simp; omega
        by_cases q3 : ps.length = 3
        · have g3 : ((ps.length : Int) == 3) = true := by simp; omega
          go_wp2_with fail
          go_ret
          exact ⟨ret_val (show Value.bool true = Value.bool (decide (okS leaf cs ps)) from congrArg Value.bool (HD.out true (by simp only [iff_true]; omega)).symm), hb2⟩
        · have g3 : ((ps.length : Int) == 3) = false := by simp; omega
          go_wp2_with fail
          go_ret
          exact ⟨ret_val (show Value.bool false = Value.bool (decide (okS leaf cs ps)) from congrArg Value.bool (HD.out false (by simp only [Bool.false_eq_true, iff_false]; omega)).symm), hb2⟩
      · have g2 : ((cs.length : Int) == 67) = false := by simp; omega
        go_wp2_with fail
        go_ret
        exact ⟨ret_val (show Value.bool false = Value.bool (decide (okS leaf cs ps)) from congrArg Value.bool (HD.out false (by simp only [Bool.false_eq_true, iff_false]; omega)).symm), hb2⟩
    · have g1 : decide (leaf < 8) = false := decide_eq_false q1
      go_wp2_with fail
      go_ret
      exact ⟨ret_val (show Value.bool false = Value.bool (decide (okS leaf cs ps)) from congrArg Value.bool (HD.out false (by simp only [Bool.false_eq_true, iff_false]; omega)).symm), hb2⟩
  · have g0 : decide (0 ≤ leaf) = false := decide_eq_false q0
    go_wp2_with fail
    go_ret
    exact ⟨ret_val (show Value.bool false = Value.bool (decide (okS leaf cs ps)) from congrArg Value.bool (HD.out false (by simp only [Bool.false_eq_true, iff_false]; omega)).symm), hb2⟩

set_option maxRecDepth 100000 in
set_option maxHeartbeats 2000000 in
theorem same41_any (v v' : Value) (leaf leaf' : Int) (cs ps cs' ps' : List (List UInt8)) (w : World) (hv : RdS w v leaf cs ps) (hv' : RdS w v' leaf' cs' ps') (hl : cs.length < 65536) (hl2 : ps.length < 65536) :
    Calls Try.prog 41 #[v, v'] w fun e w' => e = .returned (.bool (decide (leaf = leaf' ∧ cs = cs' ∧ ps = ps'))) ∧ Below w.heap.size w w' := by
  obtain ⟨cv, pv, rfl, hc, hp⟩ := hv
  obtain ⟨cv', pv', rfl, hc', hp'⟩ := hv'
  have HC := Lib.hid (fun w h1 h2 => same_any cv cv' cs cs' w h1 h2 hl)
  have HP := Lib.hid (fun w h1 h2 => same_any pv pv' ps ps' w h1 h2 hl2)
  go_enter Try.func41, Try.ntmps41
  go_upto_region 1 with fail
  obtain ⟨w2, hw2, hbl, hb2, -⟩ := allocs_named w [.cells #[.int .i64 leaf, cv, pv] 49, .cells #[.int .i64 leaf', cv', pv'] 49]
  change Code.wp _ _ _ _ (List.foldl World.alloc w [.cells #[.int .i64 leaf, cv, pv] 49, .cells #[.int .i64 leaf', cv', pv'] 49])
  rw [hw2]
  have hB0 : w2.heap[w.heap.size]? = some (.cells #[.int .i64 leaf, cv, pv] 49 (0, 0)) := hbl 0
  have hB1 : w2.heap[w.heap.size + 1]? = some (.cells #[.int .i64 leaf', cv', pv'] 49 (0, 0)) := hbl 1
  have h0 : w2.cell? ⟨w.heap.size, 0, none⟩ = some (.int .i64 leaf) := by rw [cell_of_row _ _ _ _ _ _ hB0]; rfl
  have h1 : w2.cell? ⟨w.heap.size, 1, none⟩ = some cv := by rw [cell_of_row _ _ _ _ _ _ hB0]; rfl
  have h2 : w2.cell? ⟨w.heap.size, 2, none⟩ = some pv := by rw [cell_of_row _ _ _ _ _ _ hB0]; rfl
  have k0 : w2.cell? ⟨w.heap.size + 1, 0, none⟩ = some (.int .i64 leaf') := by rw [cell_of_row _ _ _ _ _ _ hB1]; rfl
  have k1 : w2.cell? ⟨w.heap.size + 1, 1, none⟩ = some cv' := by rw [cell_of_row _ _ _ _ _ _ hB1]; rfl
  have k2 : w2.cell? ⟨w.heap.size + 1, 2, none⟩ = some pv' := by rw [cell_of_row _ _ _ _ _ _ hB1]; rfl
  clear hw2 hbl hB0 hB1
  replace hc := hc.mono hb2
  replace hp := hp.mono hb2
  replace hc' := hc'.mono hb2
  replace hp' := hp'.mono hb2
  by_cases q0 : leaf = leaf'
  · have g0 : (leaf == leaf') = true := by simp [q0]
    go_wp2_with fail
    refine (HC.out w2 hc hc').mono ?_
    rintro e w3 ⟨rfl, hb3⟩
    replace hp := hp.mono hb3
    replace hp' := hp'.mono hb3
    replace h2 := (hb3.cell (p := ⟨w.heap.size, 2, none⟩) (block_lt_of_cell h2)).trans h2
    replace k2 := (hb3.cell (p := ⟨w.heap.size + 1, 2, none⟩) (block_lt_of_cell k2)).trans k2
    replace hb2 := hb2.trans (hb3.mono hb2.size)
    clear h0 h1 k0 k1 hc hc' hb3
    dsimp only
    by_cases q1 : cs = cs'
    · rw [decide_eq_true q1]
      go_wp2_with fail
      refine (HP.out w3 hp hp').mono ?_
      rintro e w4 ⟨rfl, hb4⟩
      replace hb2 := hb2.trans (hb4.mono hb2.size)
      dsimp only
      go_wp2_with fail
      go_ret
      exact ⟨ret_val (congrArg Value.bool (show decide (ps = ps') = decide (leaf = leaf' ∧ cs = cs' ∧ ps = ps') from by simp [q0, q1])), hb2⟩
    · rw [decide_eq_false q1]
      go_wp2_with fail
      go_ret
      exact ⟨ret_val (congrArg Value.bool (show false = decide (leaf = leaf' ∧ cs = cs' ∧ ps = ps') from by simp [q1])), hb2⟩
  · have g0 : (leaf == leaf') = false := by simp [q0]
    go_wp2_with fail
    go_ret
    exact ⟨ret_val (congrArg Value.bool (show false = decide (leaf = leaf' ∧ cs = cs' ∧ ps = ps') from by simp [q0])), hb2⟩
end Go.Proofs.Ytcfkapoppmpehaa

/-
  What a call of Chain gives.
-/
import Derived.Test.YtcfkapoppmpehaaWc
namespace Go.Proofs.Ytcfkapoppmpehaa
open Go.RowKit

set_option maxRecDepth 100000 in
set_option maxHeartbeats 400000 in
theorem chain63_any (x : List UInt8) (hx : x.length = 32) (c f t : Nat) (hc : c < 67) (hft : f ≤ t) (ht : t ≤ 15) (w : World) :
    Calls Try.prog 63 #[bagg x, .int .i64 c, .int .i64 f, .int .i64 t] w fun e w' => e = .returned (.tuple #[bagg (walkW x c f (t - f)), .int .i64 0]) ∧ Below w.heap.size w w' := by
  have hd : decide (0 ≤ (c : Int) ∧ (c : Int) < 67) = true := by simp; omega
  have hg0 : decide ((f : Int) < 0) = false := decide_eq_false (by omega)
  have hg1 : decide ((t : Int) < (f : Int)) = false := decide_eq_false (by omega)
  have hg3 : decide (t < f) = false := decide_eq_false (by omega)
  have hg4 : decide (15 < t) = false := decide_eq_false (by omega)
  have hg2 : decide ((15 : Int) < (t : Int)) = false := decide_eq_false (by omega)
  go_enter Try.func63, Try.ntmps63
  go_wp2_with fail
  obtain ⟨w2, hw2, hbl, hbq, hsq⟩ := allocs_named w [.cells (x.map bv).toArray 24, .cells zero24 24]
  change Calls _ _ _ (List.foldl World.alloc w [.cells (x.map bv).toArray 24, .cells zero24 24]) _
  rw [hw2]
  clear hw2
  refine (chained_any c w2).mono ?_
  rintro e w3 ⟨rfl, hb0⟩
  rw [hd]
  have hX := (hb0.block _ (by simp at hsq; omega)).trans (hbl 0)
  have hZ := (hb0.block _ (by simp at hsq; omega)).trans (hbl 1)
  have hb := hbq.trans (hb0.mono hbq.size)
  clear hd hbq hb0 hbl
  dsimp only
  go_wp2_with fail
  clear hg0 hg1 hg2 hg3 hg4
  go_loopw [10] (fun i wr => ∃ k : Nat, k ≤ t - f ∧ i = .int .i64 ((f + k : Nat) : Int) ∧ Below w.heap.size w wr ∧ wr.heap[w.heap.size]? = some (.cells ((walkW x c f k).map bv).toArray 24 (0, 0)) ∧ wr.heap[w.heap.size + 1]? = some (.cells zero24 24 (0, 0))) (fun i _ => t - (intOf i).toNat)
  case atStart => exact ⟨0, by omega, rfl, hb, hX, hZ⟩
  case round =>
    clear hb hX hZ
    obtain ⟨k, hk, rfl, hb, hX, hZ⟩ := hrel
    have hl := walkW_length x c f k hx
    by_cases hlt : k < t - f
    · have hg : decide (((f + k : Nat) : Int) < (t : Int)) = true := decide_eq_true (by omega)
      have Hst := Lib.hid (show walkW x c f (k + 1) = stepW (walkW x c f k) c (f + k) from rfl)
      have HS := Lib.hid (step62_any (walkW x c f k) hl c (f + k) hc (by omega) wr)
      rw [← Hst.out] at HS
      have hl2 := walkW_length x c f (k + 1) hx
      have Hnx := Lib.hid (show ((f + k : Nat) : Int) + 1 = ((f + (k + 1) : Nat) : Int) by omega)
      have hm : f + k < t := by omega
      generalize hy : walkW x c f k = y at *
      generalize hz : walkW x c f (k + 1) = z at *
      have Hz := Lib.hid hz
      clear hy hz Hst
      generalize hfk : f + k = m at *
      have Hfk := Lib.hid hfk
      clear hfk
      go_wp2_with (refine wpList_load_row rfl 24 (.tmp 4) rfl w.heap.size rfl 24 _ (0, 0) (.array 32 5) hX (by kernel_rfl) rfl (id_info y hl) ?_)
      refine HS.out.mono ?_
      rintro e w6 ⟨rfl, hb6⟩
      have hX6 := (hb6.block _ (Array.getElem?_eq_some_iff.1 hX).1).trans hX
      have hZ6 := (hb6.block _ (Array.getElem?_eq_some_iff.1 hZ).1).trans hZ
      have hbw6 := hb.trans (hb6.mono hb.size)
      dsimp only
      go_wp2_with (refine wpList_store_row rfl 24 (.tmp 4) (.tmp 39) rfl w.heap.size 24 _ (z.map bv).toArray rfl rfl hX6 (id_info z hl2) ((id_size y hl).trans (id_size z hl2).symm) (id_one z) ?_)
      go_roundw
      case rel =>
        refine ⟨k + 1, by omega, by rw [Hnx.out], below_setRow' hbw6 (Nat.le_refl _) _, ?_, by rw [setRow_other _ _ _ _ (by omega)]; exact hZ6⟩
        rw [Hz.out]
        exact setRow_heap _ _ _ _ _ _ hX6
      case measure => simp [intOf]; omega
    · obtain rfl : k = t - f := by omega
      rw [show f + (t - f) = t by omega]
      have hg : decide ((t : Int) < (t : Int)) = false := decide_eq_false (by omega)
      obtain ⟨y, hy⟩ : ∃ y, walkW x c f (t - f) = y := ⟨_, rfl⟩
      rw [hy] at hl hX
      have Hy := Lib.hid hy
      clear hy
      go_wp2_with (first
        | (refine wpList_load_row rfl 24 (.tmp 4) rfl w.heap.size rfl 24 _ (0, 0) (.array 32 5) hX (by kernel_rfl) rfl (id_info y hl) ?_)
        | (refine wpList_store_row rfl 24 (.tmp 8) (.tmp 41) rfl (w.heap.size + 1) 24 zero24 (y.map bv).toArray rfl rfl hZ (id_info y hl) (id_size y hl).symm (id_one y) ?_))
      exact bodyPost_ret (results_cell_tmp (d := .array 32 5) rfl _ _ (w.heap.size + 1) 24 _ (0, 0) rfl (setRow_heap _ _ _ _ _ _ hZ) (by kernel_rfl) rfl (id_info y hl)) rfl ⟨by rw [Hy.out]; rfl, below_setRow' hb (by omega) _⟩

set_option maxRecDepth 100000 in
set_option maxHeartbeats 400000 in
theorem chain63_err (x : List UInt8) (c f t : Int) (hc : ¬(0 ≤ c ∧ c < 67 ∧ 0 ≤ f ∧ f ≤ t ∧ t ≤ 15)) (w : World) :
    Calls Try.prog 63 #[bagg x, .int .i64 c, .int .i64 f, .int .i64 t] w fun e w' => e = .returned (.tuple #[bagg z32, .int .i64 2]) ∧ Below w.heap.size w w' := by
  have hB := build24_zero
  have hcase : Hid (decide (0 ≤ c ∧ c < 67) = false ∨ (decide (0 ≤ c ∧ c < 67) = true ∧ decide (f < 0) = true) ∨ (decide (0 ≤ c ∧ c < 67) = true ∧ decide (f < 0) = false ∧ decide (t < f) = true) ∨ (decide (0 ≤ c ∧ c < 67) = true ∧ decide (f < 0) = false ∧ decide (t < f) = false ∧ decide (15 < t) = true)) := Lib.hid (by
    by_cases h1 : 0 ≤ c ∧ c < 67
    · right
      by_cases h2 : f < 0
      · exact .inl ⟨decide_eq_true h1, decide_eq_true h2⟩
      · right
        by_cases h3 : t < f
        · exact .inl ⟨decide_eq_true h1, decide_eq_false h2, decide_eq_true h3⟩
        · exact .inr ⟨decide_eq_true h1, decide_eq_false h2, decide_eq_false h3, decide_eq_true (by omega)⟩
    · exact .inl (decide_eq_false h1))
  clear hc
  go_enter Try.func63, Try.ntmps63
  go_wp2_with fail
  obtain ⟨w2, hw2, hbl, hbq, hsq⟩ := allocs_named w [.cells (x.map bv).toArray 24, .cells zero24 24]
  change Calls _ _ _ (List.foldl World.alloc w [.cells (x.map bv).toArray 24, .cells zero24 24]) _
  rw [hw2]
  clear hw2
  refine (chained_any c w2).mono ?_
  rintro e w3 ⟨rfl, hb0⟩
  have hZ := (hb0.block _ (by simp at hsq; omega)).trans (hbl 1)
  have hb := hbq.trans (hb0.mono hbq.size)
  clear hbq hb0 hbl
  dsimp only
  rcases hcase.out with hd | ⟨hd, hn0⟩ | ⟨hd, hn0, hn1⟩ | ⟨hd, hn0, hn1, hn2⟩
  all_goals
    rw [hd]
    clear hd
    try have hm0 := of_decide_eq_true hn0
    try have hm1 := of_decide_eq_true hn1
    go_wp2_with (refine wpList_store_row rfl 24 (.tmp 8) (.tmp 27) rfl (w.heap.size + 1) 24 zero24 (z32.map bv).toArray rfl rfl hZ (id_info z32 rfl) (id_size z32 rfl).symm (id_one z32) ?_)
    exact bodyPost_ret (results_cell_tmp (d := .array 32 5) rfl _ _ (w.heap.size + 1) 24 _ (0, 0) rfl (setRow_heap _ _ _ _ _ _ hZ) (by kernel_rfl) rfl (id_info z32 rfl)) rfl ⟨rfl, below_setRow' hb (by omega) _⟩
end Go.Proofs.Ytcfkapoppmpehaa

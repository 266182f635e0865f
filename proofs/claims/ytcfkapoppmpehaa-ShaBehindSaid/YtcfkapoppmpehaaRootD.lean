/-
  What a call of the definition's Constants and Start gives.
-/
import Derived.Test.YtcfkapoppmpehaaRootB
import Derived.Test.YtcfkapoppmpehaaRootC
import Derived.Test.YtcfkapoppmpehaaRwords
namespace Go.Proofs.Ytcfkapoppmpehaa
open Go.RowKit

/-- The first k places written. -/
def fillW (f : Nat → BitVec 32) (n k : Nat) : List (BitVec 32) := (List.range n).map fun i => if i < k then f i else 0#32
theorem fillW_length (f : Nat → BitVec 32) (n k : Nat) : (fillW f n k).length = n := by simp [fillW]
theorem fillW_set (f : Nat → BitVec 32) (n k : Nat) : (fillW f n k).set k (f k) = fillW f n (k + 1) := by
  refine List.ext_getElem? fun i => ?_
  rw [List.getElem?_set]
  unfold fillW
  simp only [List.getElem?_map, List.length_map, List.length_range]
  by_cases h : k = i
  · subst h
    rw [if_pos rfl]
    by_cases hk : k < n
    · rw [if_pos hk, List.getElem?_range hk]; simp
    · rw [if_neg hk, List.getElem?_eq_none (by simp; omega)]; rfl
  · rw [if_neg h]
    by_cases hk : i < n
    · rw [List.getElem?_range hk]
      simp only [Option.map_some, Option.some.injEq]
      by_cases h1 : i < k
      · rw [if_pos h1, if_pos (by omega)]
      · rw [if_neg h1, if_neg (by omega)]
    · rw [List.getElem?_eq_none (by simp; omega)]; rfl
theorem fillW_end (f : Nat → BitVec 32) (n : Nat) : fillW f n n = (List.range n).map f := by
  unfold fillW
  refine List.map_congr_left fun i hi => ?_
  rw [if_pos (List.mem_range.1 hi)]

set_option maxRecDepth 100000 in
set_option maxHeartbeats 1000000 in
theorem roots_any (w : World) :
    Calls Try.prog 57 #[] w fun e w' => e = .returned (wagg constL) ∧ Below w.heap.size w w' := by
  obtain ⟨F, hF⟩ : ∃ F : Nat → BitVec 32, F = fun i => rootW (pr i) true := ⟨_, rfl⟩
  have Hend : Hid (fillW F 64 64 = constL) := Lib.hid (by rw [fillW_end, hF]; exact cubes_const)
  have HF : Hid (∀ k, rootW (pr k) true = F k) := Lib.hid fun k => by rw [hF]
  clear hF
  go_enter Try.func57, Try.ntmps57
  go_wp2_with fail
  obtain ⟨w2, hw2, hbl, hb2, hs2⟩ := allocs_named w [.cells ((fillW F 64 0).map wv).toArray 69, .cells ((fillW F 64 0).map wv).toArray 69]
  change Code.wp _ _ _ _ (List.foldl World.alloc w [.cells ((fillW F 64 0).map wv).toArray 69, .cells ((fillW F 64 0).map wv).toArray 69])
  rw [hw2]
  have hR : w2.heap[w.heap.size]? = some (.cells ((fillW F 64 0).map wv).toArray 69 (0, 0)) := hbl 0
  have hO : w2.heap[w.heap.size + 1]? = some (.cells ((fillW F 64 0).map wv).toArray 69 (0, 0)) := hbl 1
  clear hbl hw2 hs2
  go_loopw [3] (fun i wr => ∃ k : Nat, k ≤ 64 ∧ i = .int .i64 k ∧ Below w.heap.size w wr ∧ wr.heap[w.heap.size]? = some (.cells ((fillW F 64 0).map wv).toArray 69 (0, 0)) ∧
    wr.heap[w.heap.size + 1]? = some (.cells ((fillW F 64 k).map wv).toArray 69 (0, 0))) (fun i _ => 64 - (intOf i).toNat)
  case atStart => exact ⟨0, by omega, rfl, hb2, hR, hO⟩
  case round =>
    clear hb2 hR hO
    obtain ⟨k, hk, rfl, hb, hR, hO⟩ := hrel
    have hwl := fillW_length F 64 k
    by_cases hlt : k < 64
    · have e1 : wr.cell? ⟨w.heap.size + 1, k, none⟩ = some (wv ((fillW F 64 k).getD k 0#32)) := by
        rw [cell_of_row _ _ _ _ _ _ hO, getw _ _ (by omega)]
      have f1 : wr.frozen? ⟨w.heap.size + 1, k, none⟩ = false := frozen_of_row _ _ _ _ _ hO
      have Hst := Lib.hid (fillW_set F 64 k)
      have hlt' : decide ((k : Int) < 64) = true := by simp; omega
      have HP := Lib.hid (prime_any k hlt wr)
      have hp := pr_facts k hlt
      have HD := Lib.hid (digits_cube (pr k) (by omega) wr)
      have HFk := Lib.hid (HF.out k)
      clear hp
      generalize (fillW F 64 k).getD k 0#32 = y at *
      generalize hpk : pr k = P at *
      clear hpk
      go_wp2_with fail
      refine HP.out.mono ?_
      rintro e w5 ⟨rfl, rfl⟩
      go_wp2_with fail
      refine HD.out.mono ?_
      rintro e w5 ⟨rfl, rfl⟩
      rw [HFk.out]
      go_wp2_with fail
      go_roundw
      case rel =>
        refine ⟨k + 1, by omega, by go_num, hb.setCell (by show _ ≤ w.heap.size + 1; omega) _, by rw [heap_setCell_other _ _ _ _ (by show w.heap.size ≠ w.heap.size + 1; omega)]; exact hR, ?_⟩
        have h := heap_setCell_same wr (w.heap.size + 1) k _ _ (wv (F k)) hO
        rw [setL, Hst.out] at h
        exact h
      case measure => simp [intOf]; omega
    · obtain rfl : k = 64 := by omega
      have hO : wr.heap[w.heap.size + 1]? = some (.cells ((fillW F 64 64).map wv).toArray 69 (0, 0)) := hO
      have h0 := fillW_length F 64 0
      rw [Hend.out] at hwl hO
      obtain ⟨l, hcl⟩ : ∃ l, constL = l := ⟨_, rfl⟩
      rw [hcl] at hwl hO
      replace hcl := Lib.hid hcl
      generalize fillW F 64 0 = z at *
      go_wp2_with (first
        | (refine wpList_load_row rfl 69 (.tmp 1) rfl (w.heap.size + 1) rfl 69 _ (0, 0) (.array 64 64) hO (by kernel_rfl) rfl (words_info l hwl) ?_)
        | (refine wpList_store_row rfl 69 (.tmp 0) (.tmp 12) rfl w.heap.size 69 _ (l.map wv).toArray rfl rfl hR (words_info l hwl) ((words_size z h0).trans (words_size l hwl).symm) (words_one l) ?_))
      refine bodyPost_ret (results_cell_row (d := .array 64 64) rfl _ _ w.heap.size 69 _ (0, 0) rfl (setRow_heap _ _ _ _ _ _ hR) (by kernel_rfl) rfl (words_info l hwl)) rfl ⟨by rw [hcl.out], below_setRow' hb (by omega) _⟩
theorem eight_size (l : List (BitVec 32)) (h : l.length = 8) : (l.map wv).toArray.size = 8 := by simp [h]
theorem eight_info (l : List (BitVec 32)) (h : l.length = 8) : (Try.prog.info? 65).map (·.size) = some (l.map wv).toArray.size := by rw [eight_size l h]; kernel_rfl
set_option maxRecDepth 100000 in
set_option maxHeartbeats 1000000 in
theorem squares_any (w : World) :
    Calls Try.prog 53 #[] w fun e w' => e = .returned (wagg startS.list) ∧ Below w.heap.size w w' := by
  obtain ⟨F, hF⟩ : ∃ F : Nat → BitVec 32, F = fun i => rootW (pr i) false := ⟨_, rfl⟩
  have Hend : Hid (fillW F 8 8 = startS.list) := Lib.hid (by rw [fillW_end, hF]; exact squares_start)
  have HF : Hid (∀ k, rootW (pr k) false = F k) := Lib.hid fun k => by rw [hF]
  clear hF
  go_enter Try.func53, Try.ntmps53
  go_wp2_with fail
  obtain ⟨w2, hw2, hbl, hb2, hs2⟩ := allocs_named w [.cells ((fillW F 8 0).map wv).toArray 65, .cells ((fillW F 8 0).map wv).toArray 65]
  change Code.wp _ _ _ _ (List.foldl World.alloc w [.cells ((fillW F 8 0).map wv).toArray 65, .cells ((fillW F 8 0).map wv).toArray 65])
  rw [hw2]
  have hR : w2.heap[w.heap.size]? = some (.cells ((fillW F 8 0).map wv).toArray 65 (0, 0)) := hbl 0
  have hO : w2.heap[w.heap.size + 1]? = some (.cells ((fillW F 8 0).map wv).toArray 65 (0, 0)) := hbl 1
  clear hbl hw2 hs2
  go_loopw [3] (fun i wr => ∃ k : Nat, k ≤ 8 ∧ i = .int .i64 k ∧ Below w.heap.size w wr ∧ wr.heap[w.heap.size]? = some (.cells ((fillW F 8 0).map wv).toArray 65 (0, 0)) ∧
    wr.heap[w.heap.size + 1]? = some (.cells ((fillW F 8 k).map wv).toArray 65 (0, 0))) (fun i _ => 8 - (intOf i).toNat)
  case atStart => exact ⟨0, by omega, rfl, hb2, hR, hO⟩
  case round =>
    clear hb2 hR hO
    obtain ⟨k, hk, rfl, hb, hR, hO⟩ := hrel
    have hwl := fillW_length F 8 k
    by_cases hlt : k < 8
    · have e1 : wr.cell? ⟨w.heap.size + 1, k, none⟩ = some (wv ((fillW F 8 k).getD k 0#32)) := by
        rw [cell_of_row _ _ _ _ _ _ hO, getw _ _ (by omega)]
      have f1 : wr.frozen? ⟨w.heap.size + 1, k, none⟩ = false := frozen_of_row _ _ _ _ _ hO
      have Hst := Lib.hid (fillW_set F 8 k)
      have hlt' : decide ((k : Int) < 8) = true := by simp; omega
      have HP := Lib.hid (prime_any k (by omega) wr)
      have hp := pr_facts k (by omega)
      have HD := Lib.hid (digits_sq (pr k) wr)
      have HFk := Lib.hid (HF.out k)
      clear hp
      generalize (fillW F 8 k).getD k 0#32 = y at *
      generalize hpk : pr k = P at *
      clear hpk
      go_wp2_with fail
      refine HP.out.mono ?_
      rintro e w5 ⟨rfl, rfl⟩
      go_wp2_with fail
      refine HD.out.mono ?_
      rintro e w5 ⟨rfl, rfl⟩
      rw [HFk.out]
      go_wp2_with fail
      go_roundw
      case rel =>
        refine ⟨k + 1, by omega, by go_num, hb.setCell (by show _ ≤ w.heap.size + 1; omega) _, by rw [heap_setCell_other _ _ _ _ (by show w.heap.size ≠ w.heap.size + 1; omega)]; exact hR, ?_⟩
        have h := heap_setCell_same wr (w.heap.size + 1) k _ _ (wv (F k)) hO
        rw [setL, Hst.out] at h
        exact h
      case measure => simp [intOf]; omega
    · obtain rfl : k = 8 := by omega
      have hO : wr.heap[w.heap.size + 1]? = some (.cells ((fillW F 8 8).map wv).toArray 65 (0, 0)) := hO
      have h0 := fillW_length F 8 0
      rw [Hend.out] at hwl hO
      obtain ⟨l, hcl⟩ : ∃ l, startS.list = l := ⟨_, rfl⟩
      rw [hcl] at hwl hO
      replace hcl := Lib.hid hcl
      generalize fillW F 8 0 = z at *
      go_wp2_with (first
        | (refine wpList_load_row rfl 65 (.tmp 1) rfl (w.heap.size + 1) rfl 65 _ (0, 0) (.array 8 64) hO (by kernel_rfl) rfl (eight_info l hwl) ?_)
        | (refine wpList_store_row rfl 65 (.tmp 0) (.tmp 12) rfl w.heap.size 65 _ (l.map wv).toArray rfl rfl hR (eight_info l hwl) ((eight_size z h0).trans (eight_size l hwl).symm) (words_one l) ?_))
      refine bodyPost_ret (results_cell_row (d := .array 8 64) rfl _ _ w.heap.size 65 _ (0, 0) rfl (setRow_heap _ _ _ _ _ _ hR) (by kernel_rfl) rfl (eight_info l hwl)) rfl ⟨by rw [hcl.out], below_setRow' hb (by omega) _⟩
end Go.Proofs.Ytcfkapoppmpehaa

/-
  What a call of the definition's Words gives.
-/
import Derived.Test.YtcfkapoppmpehaaRw
namespace Go.Proofs.Ytcfkapoppmpehaa
open Go.RowKit

theorem take4 (bs : List UInt8) (k : Nat) (h : 4 * k + 4 ≤ bs.length) : (bs.drop (4 * k)).take 4 = [bs.getD (4 * k) 0, bs.getD (4 * k + 1) 0, bs.getD (4 * k + 2) 0, bs.getD (4 * k + 3) 0] := by
  refine ext_getD (by simp; omega) fun i hi => ?_
  have h4 : i < 4 := by simp at hi; omega
  rw [List.getD_eq_getElem?_getD, List.getElem?_take, if_pos h4, List.getElem?_drop, ← List.getD_eq_getElem?_getD]
  match i, h4 with
  | 0, _ => rfl
  | 1, _ => rfl
  | 2, _ => rfl
  | 3, _ => rfl
theorem word4_num (b0 b1 b2 b3 : UInt8) : ((numB [b0, b1, b2, b3] : Nat) : Int) % 4294967296 = ((word4 b0 b1 b2 b3).toNat : Int) := by
  unfold word4 numB
  rw [BitVec.toNat_ofNat]
  simp only [List.foldl_cons, List.foldl_nil]
  omega
/-- A piece of a slice of bytes. -/
theorem RdB.piece {w : World} {b o n c : Nat} {bs : List UInt8} (h : RdB w (.slice (some ⟨b, o, none⟩) n c) bs) (lo m c' : Nat) (hm : lo + m ≤ bs.length) (hc : m ≤ c') : RdB w (.slice (some ⟨b, o + lo, none⟩) m c') ((bs.drop lo).take m) := by
  obtain ⟨a, c, hv, _, hr⟩ := h
  cases hv
  have hl : ((bs.drop lo).take m).length = m := by simp; omega
  refine ⟨_, c', by rw [hl], by omega, fun h0 => ⟨b, o + lo, rfl, fun i hi => ?_⟩⟩
  obtain ⟨b', o', hh, hrr⟩ := hr (by omega)
  cases hh
  rw [hl] at hi
  rw [show o + lo + i = o + (lo + i) by omega, hrr (lo + i) (by omega)]
  rw [List.getD_eq_getElem?_getD, List.getD_eq_getElem?_getD, List.getElem?_take, if_pos hi, List.getElem?_drop]
theorem words_size (l : List (BitVec 32)) (h : l.length = 64) : (l.map wv).toArray.size = 64 := by simp [h]
theorem words_info (l : List (BitVec 32)) (h : l.length = 64) : (Try.prog.info? 69).map (·.size) = some (l.map wv).toArray.size := by rw [words_size l h]; kernel_rfl
theorem words_one (l : List (BitVec 32)) : (l.map wv).toArray.all (·.oneCell') = true := by simp; intro x _; rfl

set_option maxRecDepth 100000 in
set_option maxHeartbeats 1000000 in
theorem words_any (v : Value) (bs : List UInt8) (hl : bs.length = 64) (w : World) (hv : RdB w v bs) :
    Calls Try.prog 95 #[v] w fun e w' => e = .returned (wagg (wordsL bs 64)) ∧ Below w.heap.size w w' := by
  have hv0 := hv
  obtain ⟨a, cap, rfl, hc, hr⟩ := hv
  obtain ⟨b, o, rfl, hcell⟩ := hr (by omega)
  clear hr hcell
  rw [hl] at hc hv0 ⊢
  go_enter Try.func95, Try.ntmps95
  go_wp2_with fail
  obtain ⟨w2, hw2, hbl, hb2, hs2⟩ := allocs_named w [.cells ((wordsL bs 0).map wv).toArray 69, .cells ((wordsL bs 0).map wv).toArray 69]
  change Code.wp _ _ _ _ (List.foldl World.alloc w [.cells ((wordsL bs 0).map wv).toArray 69, .cells ((wordsL bs 0).map wv).toArray 69])
  rw [hw2]
  have hR : w2.heap[w.heap.size]? = some (.cells ((wordsL bs 0).map wv).toArray 69 (0, 0)) := hbl 0
  have hO : w2.heap[w.heap.size + 1]? = some (.cells ((wordsL bs 0).map wv).toArray 69 (0, 0)) := hbl 1
  clear hbl hw2 hs2
  go_loopw [9] (fun i wr => ∃ k : Nat, k ≤ 64 ∧ i = .int .i64 k ∧ Below w.heap.size w wr ∧ wr.heap[w.heap.size]? = some (.cells ((wordsL bs 0).map wv).toArray 69 (0, 0)) ∧
    wr.heap[w.heap.size + 1]? = some (.cells ((wordsL bs k).map wv).toArray 69 (0, 0))) (fun i _ => 64 - (intOf i).toNat)
  case atStart => exact ⟨0, by omega, rfl, hb2, hR, hO⟩
  case round =>
    clear hb2 hR hO
    obtain ⟨k, hk, rfl, hb, hR, hO⟩ := hrel
    have hwl := wordsL_length bs k
    by_cases hlt : k < 64
    · have eo : ∀ j, j < 64 → wr.cell? ⟨w.heap.size + 1, j, none⟩ = some (wv ((wordsL bs k).getD j 0#32)) := fun j hj => by
        rw [cell_of_row _ _ _ _ _ _ hO, getw _ _ (by omega)]
      have fo : ∀ j, wr.frozen? ⟨w.heap.size + 1, j, none⟩ = false := fun j => frozen_of_row _ _ _ _ _ hO
      have eo := Lib.hid eo
      have fo := Lib.hid fo
      have Hst := Lib.hid (show (wordsL bs k).set k (wordAt bs (wordsL bs k) k) = wordsL bs (k + 1) from rfl)
      have hlt' : decide ((k : Int) < 64) = true := by simp; omega
      by_cases h16 : k < 16
      · have h16' : decide ((k : Int) < 16) = true := by simp; omega
        have Hw := Lib.hid (show wordAt bs (wordsL bs k) k = word4 (bs.getD (4 * k) 0) (bs.getD (4 * k + 1) 0) (bs.getD (4 * k + 2) 0) (bs.getD (4 * k + 3) 0) from by rw [wordAt, if_pos h16])
        have ht := take4 bs k (by omega)
        have hrd := (hv0.mono' hb).piece (4 * k) 4 (cap - 4 * k) (by omega) (by omega)
        rw [ht] at hrd
        have HN := Lib.hid (number_any 4 _ _ wr rfl (by omega) hrd)
        clear ht hrd
        have e1 := eo.out k hlt
        have f1 := fo.out k
        generalize (wordsL bs k).getD k 0#32 = y at *
        go_wp2_with fail
        rw [show 4 * k + 4 - 4 * k = 4 from by omega]
        refine HN.out.mono ?_
        rintro e w5 ⟨rfl, hb5⟩
        have hOlt := (Array.getElem?_eq_some_iff.1 hO).1
        have hO5 := (hb5.block _ hOlt).trans hO
        have hR5 := (hb5.block _ (Array.getElem?_eq_some_iff.1 hR).1).trans hR
        have e5 : w5.cell? ⟨w.heap.size + 1, k, none⟩ = some (wv y) := (hb5.cell (p := ⟨w.heap.size + 1, k, none⟩) hOlt).trans e1
        have f5 : w5.frozen? ⟨w.heap.size + 1, k, none⟩ = false := (hb5.frozen (p := ⟨w.heap.size + 1, k, none⟩) hOlt).trans f1
        have hn4 := Lib.hid (word4_num (bs.getD (4 * k) 0) (bs.getD (4 * k + 1) 0) (bs.getD (4 * k + 2) 0) (bs.getD (4 * k + 3) 0))
        generalize bs.getD (4 * k) 0 = b0 at *
        generalize bs.getD (4 * k + 1) 0 = b1 at *
        generalize bs.getD (4 * k + 2) 0 = b2 at *
        generalize bs.getD (4 * k + 3) 0 = b3 at *
        have hb0 : (0 : Int) ≤ (numB [b0, b1, b2, b3] : Int) := by omega
        generalize (numB [b0, b1, b2, b3] : Nat) = N at *
        clear e1 f1
        go_wp2_with fail
        go_roundw
        case rel =>
          refine ⟨k + 1, by omega, by go_num, (hb.trans (hb5.mono hb.size)).setCell (by show _ ≤ w.heap.size + 1; omega) _, by rw [heap_setCell_other _ _ _ _ (by show w.heap.size ≠ w.heap.size + 1; omega)]; exact hR5, ?_⟩
          have h := heap_setCell_same w5 (w.heap.size + 1) k _ _ (wv (word4 b0 b1 b2 b3)) hO5
          rw [setL, ← Hw.out, Hst.out, Hw.out] at h
          rw [hn4.out]
          exact h
        case measure => simp [intOf]; omega
      · have h16' : decide ((k : Int) < 16) = false := by simp; omega
        have Hw := Lib.hid (show wordAt bs (wordsL bs k) k = wadd (wadd (wadd (mixP ((wordsL bs k).getD (k - 2) 0#32) 17 19 10) ((wordsL bs k).getD (k - 7) 0#32)) (mixP ((wordsL bs k).getD (k - 15) 0#32) 7 18 3)) ((wordsL bs k).getD (k - 16) 0#32) from by rw [wordAt, if_neg h16])
        have e2 := gro_cell (eo.out (k - 2) (by omega))
        have e15 := gro_cell (eo.out (k - 15) (by omega))
        have e7 := gro_cell (eo.out (k - 7) (by omega))
        have e16 := gro_cell (eo.out (k - 16) (by omega))
        have e1 := gro_cell (eo.out k hlt)
        have f1 := gro_free (eo.out k hlt) (fo.out k)
        generalize (wordsL bs k).getD k 0#32 = y at *
        generalize (wordsL bs k).getD (k - 2) 0#32 = y2 at *
        generalize (wordsL bs k).getD (k - 15) 0#32 = y15 at *
        generalize (wordsL bs k).getD (k - 7) 0#32 = y7 at *
        generalize (wordsL bs k).getD (k - 16) 0#32 = y16 at *
        go_wp2_with fail
        refine wp_region_qgro rfl (by kernel_rfl) ?_
        repeat go_big_quiet_step (fail)
        refine wpQuiet_nil ?_
        rintro _ ⟨p, rfl⟩
        go_wp2_with fail
        refine (rturn_same y2 17 (by omega) _).mono ?_
        rintro e w' ⟨rfl, rfl⟩
        go_wp2_with fail
        refine (rturn_same y2 19 (by omega) _).mono ?_
        rintro e w' ⟨rfl, rfl⟩
        go_wp2_with fail
        refine (rpush_same y2 10 (by omega) _).mono ?_
        rintro e w' ⟨rfl, rfl⟩
        go_wp2_with fail
        refine (rturn_same y15 7 (by omega) _).mono ?_
        rintro e w' ⟨rfl, rfl⟩
        go_wp2_with fail
        refine (rturn_same y15 18 (by omega) _).mono ?_
        rintro e w' ⟨rfl, rfl⟩
        go_wp2_with fail
        refine (rpush_same y15 3 (by omega) _).mono ?_
        rintro e w' ⟨rfl, rfl⟩
        go_wp2_with fail
        refine wp_region_qgrot 15 rfl (by kernel_rfl) ?_
        simp only [List.take_succ_cons, List.take_zero, List.drop_succ_cons, List.drop_zero]
        repeat go_big_quiet_step (fail)
        refine wpQuiet_nil ?_
        rintro _ ⟨p2, rfl⟩
        go_wp2
        go_roundw
        case rel =>
          refine ⟨k + 1, by omega, by go_num, (hb.trans ((below_gro wr _).mono hb.size)).setCell (by show _ ≤ w.heap.size + 1; omega) _, by rw [heap_setCell_other _ _ _ _ (by show w.heap.size ≠ w.heap.size + 1; omega)]; exact gro_heap hR _, ?_⟩
          have h := heap_setCell_same (gro wr (p.then p2)) (w.heap.size + 1) k _ _ (wv (wordAt bs (wordsL bs k) k)) (gro_heap hO _)
          rw [setL, Hst.out, Hw.out] at h
          exact h
        case measure => simp [intOf]; omega
    · obtain rfl : k = 64 := by omega
      have hO : wr.heap[w.heap.size + 1]? = some (.cells ((wordsL bs 64).map wv).toArray 69 (0, 0)) := hO
      have h0 := wordsL_length bs 0
      generalize he : wordsL bs 64 = l at *
      have HL := Lib.hid he
      clear he
      generalize wordsL bs 0 = z at *
      go_wp2_with (first
        | (refine wpList_load_row rfl 69 (.tmp 3) rfl (w.heap.size + 1) rfl 69 _ (0, 0) (.array 64 64) hO (by kernel_rfl) rfl (words_info l hwl) ?_)
        | (refine wpList_store_row rfl 69 (.tmp 2) (.tmp 65) rfl w.heap.size 69 _ (l.map wv).toArray rfl rfl hR (words_info l hwl) ((words_size z h0).trans (words_size l hwl).symm) (words_one l) ?_))
      refine bodyPost_ret (results_cell_row (d := .array 64 64) rfl _ _ w.heap.size 69 _ (0, 0) rfl (setRow_heap _ _ _ _ _ _ hR) (by kernel_rfl) rfl (words_info l hwl)) rfl ⟨by rw [HL.out], below_setRow' hb (by omega) _⟩
end Go.Proofs.Ytcfkapoppmpehaa

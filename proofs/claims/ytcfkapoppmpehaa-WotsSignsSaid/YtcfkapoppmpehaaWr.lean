/-
  What calls of the law's own start, step and walk give.
-/
import Derived.Test.YtcfkapoppmpehaaWh
namespace Go.Proofs.Ytcfkapoppmpehaa
open Go.RowKit

set_option maxRecDepth 100000 in
set_option maxHeartbeats 400000 in
theorem start64_any (x : List UInt8) (hx : x.length = 32) (c : Nat) (hc : c < 67) (w : World) :
    Calls Try.prog 64 #[bagg x, .int .i64 c] w fun e w' => e = .returned (bagg (startW x c)) ∧ Below w.heap.size w w' := by
  have hbc : bv (UInt8.ofNat c) = .int .u8 c := by
    show Value.int .u8 _ = _
    rw [UInt8.toNat_ofNat', Nat.mod_eq_of_lt (by omega)]
  go_enter Try.func64, Try.ntmps64
  go_upto_region 1 with fail
  obtain ⟨w3, hw3, hbl, hb, hs⟩ := allocs_named w [.cells (x.map bv).toArray 24, .cells zero24 24]
  have hX := hbl 0
  have hZ := hbl 1
  clear hbl
  simp only [List.getElem?_cons_zero, List.getElem?_cons_succ, List.length_cons, List.length_nil, Nat.add_zero] at hX hZ hs
  change Code.wp _ _ _ _ (List.foldl World.alloc w [.cells (x.map bv).toArray 24, .cells zero24 24])
  rw [hw3]
  clear hw3
  have hs3 : w3.heap.size = w.heap.size + 2 := hs
  have hbl0 := (Below.refl (w.heap.size + 2) w3).alloc (by omega) (Obj.cells #[bv 83, .int .u8 (c : Nat)] 5)
  have hown0 : OwnB (w3.alloc (Obj.cells #[bv 83, .int .u8 (c : Nat)] 5)) (w.heap.size + 2) (.slice (some ⟨w3.heap.size, 0, none⟩) 2 2) [83, UInt8.ofNat c] := by
    refine ⟨rfl, .inr ⟨w3.heap.size, 2, _, rfl, by omega, heap_alloc_new _ _, Nat.le_refl _, by have : maxLen = 9223372036854775807 := rfl; omega, rfl, ?_⟩⟩
    simp [hbc]
  have hX1 := (hbl0.block w.heap.size (by omega)).trans hX
  have hbase : w.heap.size + 2 ≤ (w3.alloc (Obj.cells #[bv 83, .int .u8 (c : Nat)] 5)).heap.size := by simp; omega
  replace hs3 := Lib.hid hs3
  clear hs
  go_wp2_with (refine wpList_append_own' rfl (.tmp 7) (.tmp 8) rfl (w.heap.size + 2) _ [83, UInt8.ofNat c] rfl hown0 ⟨w.heap.size, 0, none⟩ 32 32 x rfl hx (fun j hj => cells_row x hX1 j hj) (by simp) w3 hbl0 hbase ?_)
  intro v1 w4 hown1 hb1
  have hZ2 := (hb1.block (w.heap.size + 1) (by omega)).trans hZ
  have hlt2 : w.heap.size + 1 < w4.heap.size := (Array.getElem?_eq_some_iff.1 hZ2).1
  have hI := startW_length x c
  have HS := Lib.hid (sum_any v1 ([83, UInt8.ofNat c] ++ x) (by simp [hx]) w4 hown1.rd)
  rw [show shaB ([83, UInt8.ofNat c] ++ x) = startW x c from rfl] at HS
  have hsz := hs3.out
  clear hs3 hown0 hown1 hbc hX1
  generalize hd : startW x c = d at *
  have Hd := Lib.hid hd
  clear hd
  have hbw := hb.trans (hb1.mono (by omega))
  replace hsz := Lib.hid hsz
  go_wp2_with fail
  refine HS.out.mono ?_
  rintro e w6 ⟨rfl, hb6⟩
  have hZ6 := (hb6.block _ hlt2).trans hZ2
  have hbw6 := hbw.trans (hb6.mono hbw.size)
  dsimp only
  go_wp2_with (refine wpList_store_row rfl 24 (.tmp 4) (.tmp 10) rfl (w.heap.size + 1) 24 zero24 (d.map bv).toArray rfl rfl hZ6 (id_info d hI) (id_size d hI).symm (id_one d) ?_)
  exact bodyPost_ret (results_cell_row (d := .array 32 5) rfl _ _ (w.heap.size + 1) 24 _ (0, 0) rfl (setRow_heap _ _ _ _ _ _ hZ6) (by kernel_rfl) rfl (id_info d hI)) rfl ⟨by rw [Hd.out], below_setRow' hbw6 (by omega) _⟩
set_option maxRecDepth 100000 in
set_option maxHeartbeats 400000 in
theorem step65_any (x : List UInt8) (hx : x.length = 32) (c n : Nat) (hc : c < 67) (hn : n < 15) (w : World) :
    Calls Try.prog 65 #[bagg x, .int .i64 c, .int .i64 n] w fun e w' => e = .returned (bagg (stepW x c n)) ∧ Below w.heap.size w w' := by
  have hbc : bv (UInt8.ofNat c) = .int .u8 c := by
    show Value.int .u8 _ = _
    rw [UInt8.toNat_ofNat', Nat.mod_eq_of_lt (by omega)]
  have hbn : bv (UInt8.ofNat n) = .int .u8 n := by
    show Value.int .u8 _ = _
    rw [UInt8.toNat_ofNat', Nat.mod_eq_of_lt (by omega)]
  go_enter Try.func65, Try.ntmps65
  go_upto_region 1 with fail
  obtain ⟨w3, hw3, hbl, hb, hs⟩ := allocs_named w [.cells (x.map bv).toArray 24, .cells zero24 24]
  have hX := hbl 0
  have hZ := hbl 1
  clear hbl
  simp only [List.getElem?_cons_zero, List.getElem?_cons_succ, List.length_cons, List.length_nil, Nat.add_zero] at hX hZ hs
  change Code.wp _ _ _ _ (List.foldl World.alloc w [.cells (x.map bv).toArray 24, .cells zero24 24])
  rw [hw3]
  clear hw3
  have hs3 : w3.heap.size = w.heap.size + 2 := hs
  have hbl0 := (Below.refl (w.heap.size + 2) w3).alloc (by omega) (Obj.cells #[bv 67, .int .u8 (c : Nat), .int .u8 (n : Nat)] 5)
  have hown0 : OwnB (w3.alloc (Obj.cells #[bv 67, .int .u8 (c : Nat), .int .u8 (n : Nat)] 5)) (w.heap.size + 2) (.slice (some ⟨w3.heap.size, 0, none⟩) 3 3) [67, UInt8.ofNat c, UInt8.ofNat n] := by
    refine ⟨rfl, .inr ⟨w3.heap.size, 3, _, rfl, by omega, heap_alloc_new _ _, Nat.le_refl _, by have : maxLen = 9223372036854775807 := rfl; omega, rfl, ?_⟩⟩
    simp [hbc, hbn]
  have hX1 := (hbl0.block w.heap.size (by omega)).trans hX
  have hbase : w.heap.size + 2 ≤ (w3.alloc (Obj.cells #[bv 67, .int .u8 (c : Nat), .int .u8 (n : Nat)] 5)).heap.size := by simp; omega
  replace hs3 := Lib.hid hs3
  clear hs
  go_wp2_with (refine wpList_append_own' rfl (.tmp 11) (.tmp 12) rfl (w.heap.size + 2) _ [67, UInt8.ofNat c, UInt8.ofNat n] rfl hown0 ⟨w.heap.size, 0, none⟩ 32 32 x rfl hx (fun j hj => cells_row x hX1 j hj) (by simp) w3 hbl0 hbase ?_)
  intro v1 w4 hown1 hb1
  have hZ2 := (hb1.block (w.heap.size + 1) (by omega)).trans hZ
  have hlt2 : w.heap.size + 1 < w4.heap.size := (Array.getElem?_eq_some_iff.1 hZ2).1
  have hI := stepW_length x c n
  have HS := Lib.hid (sum_any v1 ([67, UInt8.ofNat c, UInt8.ofNat n] ++ x) (by simp [hx]) w4 hown1.rd)
  rw [show shaB ([67, UInt8.ofNat c, UInt8.ofNat n] ++ x) = stepW x c n from rfl] at HS
  have hsz := hs3.out
  clear hs3 hown0 hown1 hbc hbn hX1
  generalize hd : stepW x c n = d at *
  have Hd := Lib.hid hd
  clear hd
  have hbw := hb.trans (hb1.mono (by omega))
  replace hsz := Lib.hid hsz
  go_wp2_with fail
  refine HS.out.mono ?_
  rintro e w6 ⟨rfl, hb6⟩
  have hZ6 := (hb6.block _ hlt2).trans hZ2
  have hbw6 := hbw.trans (hb6.mono hbw.size)
  dsimp only
  go_wp2_with (refine wpList_store_row rfl 24 (.tmp 6) (.tmp 14) rfl (w.heap.size + 1) 24 zero24 (d.map bv).toArray rfl rfl hZ6 (id_info d hI) (id_size d hI).symm (id_one d) ?_)
  exact bodyPost_ret (results_cell_row (d := .array 32 5) rfl _ _ (w.heap.size + 1) 24 _ (0, 0) rfl (setRow_heap _ _ _ _ _ _ hZ6) (by kernel_rfl) rfl (id_info d hI)) rfl ⟨by rw [Hd.out], below_setRow' hbw6 (by omega) _⟩
set_option maxRecDepth 100000 in
set_option maxHeartbeats 400000 in
theorem walk66_any (x : List UInt8) (hx : x.length = 32) (c f t : Nat) (hc : c < 67) (hft : f ≤ t) (ht : t ≤ 15) (w : World) :
    Calls Try.prog 66 #[bagg x, .int .i64 c, .int .i64 f, .int .i64 t] w fun e w' => e = .returned (bagg (walkW x c f (t - f))) ∧ Below w.heap.size w w' := by
  go_enter Try.func66, Try.ntmps66
  go_wp2_with fail
  obtain ⟨w3, hw2, hbl, hb, hsq⟩ := allocs_named w [.cells (x.map bv).toArray 24, .cells zero24 24]
  change Code.wp _ _ _ _ (List.foldl World.alloc w [.cells (x.map bv).toArray 24, .cells zero24 24])
  rw [hw2]
  clear hw2
  have hX : w3.heap[w.heap.size]? = _ := hbl 0
  have hZ : w3.heap[w.heap.size + 1]? = _ := hbl 1
  clear hsq hbl
  go_loopw [9] (fun i wr => ∃ k : Nat, k ≤ t - f ∧ i = .int .i64 ((f + k : Nat) : Int) ∧ Below w.heap.size w wr ∧ wr.heap[w.heap.size]? = some (.cells ((walkW x c f k).map bv).toArray 24 (0, 0)) ∧ wr.heap[w.heap.size + 1]? = some (.cells zero24 24 (0, 0))) (fun i _ => t - (intOf i).toNat)
  case atStart => exact ⟨0, by omega, rfl, hb, hX, hZ⟩
  case round =>
    clear hb hX hZ
    obtain ⟨k, hk, rfl, hb, hX, hZ⟩ := hrel
    have hl := walkW_length x c f k hx
    by_cases hlt : k < t - f
    · have hg : decide (((f + k : Nat) : Int) < (t : Int)) = true := decide_eq_true (by omega)
      have Hst := Lib.hid (show walkW x c f (k + 1) = stepW (walkW x c f k) c (f + k) from rfl)
      have HS := Lib.hid (step65_any (walkW x c f k) hl c (f + k) hc (by omega) wr)
      rw [← Hst.out] at HS
      have hl2 := walkW_length x c f (k + 1) hx
      have Hnx := Lib.hid (show ((f + k : Nat) : Int) + 1 = ((f + (k + 1) : Nat) : Int) by omega)
      have hm : f + k < t := by omega
      generalize hy : walkW x c f k = y at *
      generalize hz : walkW x c f (k + 1) = z at *
      have Hz := Lib.hid hz
      clear hy hz Hst
      generalize hfk : f + k = m at *
      have Hfk := Lib.hid hfk
      clear hfk
      go_wp2_with (refine wpList_load_row rfl 24 (.tmp 4) rfl w.heap.size rfl 24 _ (0, 0) (.array 32 5) hX (by kernel_rfl) rfl (id_info y hl) ?_)
      refine HS.out.mono ?_
      rintro e w6 ⟨rfl, hb6⟩
      have hX6 := (hb6.block _ (Array.getElem?_eq_some_iff.1 hX).1).trans hX
      have hZ6 := (hb6.block _ (Array.getElem?_eq_some_iff.1 hZ).1).trans hZ
      have hbw6 := hb.trans (hb6.mono hb.size)
      dsimp only
      go_wp2_with (refine wpList_store_row rfl 24 (.tmp 4) (.tmp 19) rfl w.heap.size 24 _ (z.map bv).toArray rfl rfl hX6 (id_info z hl2) ((id_size y hl).trans (id_size z hl2).symm) (id_one z) ?_)
      go_roundw
      case rel =>
        refine ⟨k + 1, by omega, by rw [Hnx.out], below_setRow' hbw6 (Nat.le_refl _) _, ?_, by rw [setRow_other _ _ _ _ (by omega)]; exact hZ6⟩
        rw [Hz.out]
        exact setRow_heap _ _ _ _ _ _ hX6
      case measure => simp [intOf]; omega
    · obtain rfl : k = t - f := by omega
      rw [show f + (t - f) = t by omega]
      have hg : decide ((t : Int) < (t : Int)) = false := decide_eq_false (by omega)
      obtain ⟨y, hy⟩ : ∃ y, walkW x c f (t - f) = y := ⟨_, rfl⟩
      rw [hy] at hl hX
      have Hy := Lib.hid hy
      clear hy
      go_wp2_with (first
        | (refine wpList_load_row rfl 24 (.tmp 4) rfl w.heap.size rfl 24 _ (0, 0) (.array 32 5) hX (by kernel_rfl) rfl (id_info y hl) ?_)
        | (refine wpList_store_row rfl 24 (.tmp 8) (.tmp 20) rfl (w.heap.size + 1) 24 zero24 (y.map bv).toArray rfl rfl hZ (id_info y hl) (id_size y hl).symm (id_one y) ?_))
      exact bodyPost_ret (results_cell_row (d := .array 32 5) rfl _ _ (w.heap.size + 1) 24 _ (0, 0) rfl (setRow_heap _ _ _ _ _ _ hZ) (by kernel_rfl) rfl (id_info y hl)) rfl ⟨by rw [Hy.out], below_setRow' hb (by omega) _⟩
end Go.Proofs.Ytcfkapoppmpehaa

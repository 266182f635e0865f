/-
  ShaTables: the written constants are the roots of primes: the walk.
-/
import Derived.Test.YtcfkapoppmpehaaRootD
import Derived.Test.YtcfkapoppmpehaaL05
import Derived.Test.YtcfkapoppmpehaaRsum
namespace Go.Proofs.Ytcfkapoppmpehaa
open Go.RowKit

theorem cube_at (k : Nat) (h : k < 64) : rootW (pr k) true = constL.getD k 0#32 := by
  rw [← cubes_const]; simp [h]

set_option maxRecDepth 100000 in
set_option maxHeartbeats 1000000 in
theorem shaTables_any (z : Int) (w : World) :
    Calls Try.prog 11 #[.int .i64 z] w fun e w' => e = .returned (.bool true) ∧ Below w.heap.size w w' := by
  obtain ⟨k, zz, hk, hz1, hz2⟩ := at_64 z
  have HC := Lib.hid constants_any
  have HR := Lib.hid roots_any
  have HW := Lib.hid written_any
  have HS := Lib.hid start_any
  have HQ := Lib.hid squares_any
  have hx := cube_at k hk
  have hp := pr_facts k hk
  have HD := Lib.hid (digits_cube (pr k) (by omega))
  have HP := Lib.hid (prime_any k hk)
  have hcl : constL.length = 64 := rfl
  have hsl : startS.list.length = 8 := rfl
  have hgk := getw constL k (by omega)
  rw [← hx] at hgk
  clear hx hp
  generalize rootW (pr k) true = x at *
  generalize pr k = q at *
  generalize constL = cs at *
  generalize startS.list = ss at *
  have E69 := equal_words 69 64 (by kernel_rfl) cs cs hcl hcl
  have E65 := equal_words 65 8 (by kernel_rfl) ss ss hsl hsl
  go_enter Try.func11, Try.ntmps11
  go_wp2_with fail
  refine (wakes03 w).mono ?_
  rintro e w2 ⟨rfl, hb2⟩
  dsimp only
  go_wp2_with fail
  refine (HC.out w2).mono ?_
  rintro e w3 ⟨rfl, hb3⟩
  have hbw3 := hb2.trans (hb3.mono hb2.size)
  clear hb2 hb3
  dsimp only
  go_wp2_with fail
  refine (HS.out w3).mono ?_
  rintro e w4 ⟨rfl, hb4⟩
  have hbw4 := hbw3.trans (hb4.mono hbw3.size)
  clear hb4 hbw3
  dsimp only
  obtain ⟨w5, hw5, hbl, hb5, hs5⟩ := allocs_named w4 [.cells ((List.replicate 64 0#32).map wv).toArray 69, .cells ((List.replicate 8 0#32).map wv).toArray 65]
  have hR : w5.heap[w4.heap.size]? = some (.cells ((List.replicate 64 0#32).map wv).toArray 69 (0, 0)) := hbl 0
  have hO : w5.heap[w4.heap.size + 1]? = some (.cells ((List.replicate 8 0#32).map wv).toArray 65 (0, 0)) := hbl 1
  have hO' : (w5.setRow w4.heap.size (cs.map wv).toArray).heap[w4.heap.size + 1]? = some (.cells ((List.replicate 8 0#32).map wv).toArray 65 (0, 0)) := by rw [setRow_other _ _ _ _ (by omega)]; exact hO
  have hbw5 := hbw4.trans (hb5.mono hbw4.size)
  clear hbl hs5 hb5
  go_wp2_with (first
    | (change wpList _ _ _ _ _ (List.foldl World.alloc w4 [.cells ((List.replicate 64 0#32).map wv).toArray 69, .cells ((List.replicate 8 0#32).map wv).toArray 65])
       rw [hw5]
       refine wpList_store_row rfl 69 (.tmp 3) (.tmp 8) rfl w4.heap.size 69 _ (cs.map wv).toArray rfl rfl hR (words_info cs hcl) ((words_size _ rfl).trans (words_size cs hcl).symm) (words_one cs) ?_)
    | (refine wpList_store_row rfl 65 (.tmp 4) (.tmp 9) rfl (w4.heap.size + 1) 65 _ (ss.map wv).toArray rfl rfl hO' (eight_info ss hsl) ((eight_size _ rfl).trans (eight_size ss hsl).symm) (words_one ss) ?_))
  have hA6 : ((w5.setRow w4.heap.size (cs.map wv).toArray).setRow (w4.heap.size + 1) (ss.map wv).toArray).heap[w4.heap.size]? = some (.cells (cs.map wv).toArray 69 (0, 0)) := by
    rw [setRow_other _ _ _ _ (by omega)]; exact setRow_heap _ _ _ _ _ _ hR
  have hB6 : ((w5.setRow w4.heap.size (cs.map wv).toArray).setRow (w4.heap.size + 1) (ss.map wv).toArray).heap[w4.heap.size + 1]? = some (.cells (ss.map wv).toArray 65 (0, 0)) := setRow_heap _ _ _ _ _ _ hO'
  have hbw6 := below_setRow' (below_setRow' hbw5 hbw4.size (cs.map wv).toArray) (show w.heap.size ≤ w4.heap.size + 1 by have := hbw4.size; omega) (ss.map wv).toArray
  generalize (w5.setRow w4.heap.size (cs.map wv).toArray).setRow (w4.heap.size + 1) (ss.map wv).toArray = w6 at *
  clear hR hO hO' hw5 hbw5
  have ra : ∀ p, (gro w6 p).rangeAt w4.heap.size 0 (cs.map wv) := fun p => by
    have := rangeAt_row (gro_heap hA6 p) 0 64
    simpa [hcl, List.take_of_length_le] using this
  have rb : ∀ p, (gro w6 p).rangeAt (w4.heap.size + 1) 0 (ss.map wv) := fun p => by
    have := rangeAt_row (gro_heap hB6 p) 0 8
    simpa [hsl, List.take_of_length_le] using this
  have ek : w6.cell? ⟨w4.heap.size, k, none⟩ = some (wv x) := by rw [cell_of_row _ _ _ _ _ _ hA6, hgk]
  replace ra := Lib.hid ra
  replace rb := Lib.hid rb
  generalize w4.heap.size = N at *
  refine wp_region_qgro rfl (by kernel_rfl) ?_
  refine wpQuiet_load_mid rfl 69 (.tmp 3) rfl N 0 rfl (cs.map wv) (.array 64 64) (by rintro _ ⟨p, rfl⟩; exact ra.out p) (by kernel_rfl) rfl (by rw [List.length_map, hcl]; kernel_rfl) ?_
  simp only [Act.put, List.setIfInBounds_toArray, List.set_cons_succ, List.set_cons_zero]
  go_big_quiet_step ((go_at_call 52; exact gro_call (HW.out _)))
  go_big_quiet_step (fail)
  go_big_quiet_step (fail)
  refine wpQuiet_load_midg (by kernel_rfl) 65 (.tmp 4) rfl (N + 1) 0 rfl (ss.map wv) (.array 8 64) (by rintro _ ⟨p, rfl⟩; exact rb.out p) (by kernel_rfl) rfl (by rw [List.length_map, hsl]; kernel_rfl) ?_
  simp only [Act.put, List.setIfInBounds_toArray, List.set_cons_succ, List.set_cons_zero]
  go_big_quiet_step ((go_at_call 53; exact gro_call (HQ.out _)))
  go_big_quiet_step (fail)
  go_big_quiet_step (fail)
  refine wpQuiet_nil ?_
  rintro _ ⟨p, rfl⟩
  have hbw7 := hbw6.trans ((below_gro w6 p).mono hbw6.size)
  have ek7 := gro_cell ek p
  generalize gro w6 p = w7 at *
  clear ra rb ek hbw6 hA6 hB6 E65 E69 hgk
  have ek8 := gro_cell ek7
  have HP' : Hid (∀ p, Calls Try.prog 55 #[.int .i64 k] (gro w7 p) fun e w' => e = .returned (.int .u64 q) ∧ Below (gro w7 p).heap.size (gro w7 p) w') := Lib.hid fun p => (HP.out _).mono fun e w' ⟨h, hw⟩ => ⟨h, hw ▸ Below.refl _ _⟩
  have HD' : Hid (∀ p, Calls Try.prog 54 #[.int .u64 q, .bool true] (gro w7 p) fun e w' => e = .returned (wv x) ∧ Below (gro w7 p).heap.size (gro w7 p) w') := Lib.hid fun p => (HD.out _).mono fun e w' ⟨h, hw⟩ => ⟨h, hw ▸ Below.refl _ _⟩
  go_wp2_with fail
  refine wp_region_qgro rfl (by kernel_rfl) ?_
  go_big_quiet_step (fail)
  go_big_quiet_step (fail)
  go_big_quiet_step (fail)
  go_big_quiet_step (fail)
  go_big_quiet_step ((go_at_call 55; exact gro_call (HP'.out _)))
  go_big_quiet_step ((go_at_call 54; exact gro_call (HD'.out _)))
  go_big_quiet_step (fail)
  go_big_quiet_step (fail)
  refine wpQuiet_nil ?_
  rintro _ ⟨p2, rfl⟩
  go_wp2_with fail
  go_ret
  exact ⟨ret_val (by simp), hbw7.trans ((below_gro w7 p2).mono hbw7.size)⟩
end Go.Proofs.Ytcfkapoppmpehaa

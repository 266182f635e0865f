/-
  ShaDigits: a digest in digits, the digest that a text says, and which of two stands ahead: the walk.
-/
import Derived.Test.YtcfkapoppmpehaaRefp
import Derived.Test.YtcfkapoppmpehaaL03
namespace Go.Proofs.Ytcfkapoppmpehaa
open Go.RowKit

set_option maxRecDepth 100000 in
set_option maxHeartbeats 1000000 in
theorem shaDigits_any (a b : List UInt8) (s : ByteArray) (ha : a.length = 32) (hb : b.length = 32) (w : World) :
    Calls Try.prog 4 #[bagg a, bagg b, .string s] w fun e w' => e = .returned (.bool true) ∧ Below w.heap.size w w' := by
  have Hp := Lib.hid (parse_any s)
  have Hr := Lib.hid (refparse_any s)
  have Ht := Lib.hid (text_any a ha)
  have Hrt := Lib.hid (reftext_any a ha)
  have Lab := Lib.hid (less_any a b ha hb)
  have Lba := Lib.hid (less_any b a hb ha)
  have Rab := Lib.hid (refless_any a b ha hb)
  have Rba := Lib.hid (refless_any b a hb ha)
  unfold parseV at Hp
  unfold refV at Hr
  have hI : (if says s.data.toList then acc s.data.toList 64 else List.replicate 32 0).length = 32 := by
    split
    · exact acc_length _ _
    · rfl
  generalize (if says s.data.toList then acc s.data.toList 64 else List.replicate 32 0) = id at *
  generalize says s.data.toList = ok at *
  generalize (⟨(hexS a).toArray⟩ : ByteArray) = ta at *
  generalize lessB a b = p at *
  generalize lessB b a = q at *
  have hE := equal_id id id hI hI
  go_enter Try.func4, Try.ntmps4
  go_wp2_with fail
  obtain ⟨w2, hw2, hbl, hb2, hs2⟩ := allocs_named w [.cells (a.map bv).toArray 24, .cells (b.map bv).toArray 24]
  change Calls _ _ _ (List.foldl World.alloc w [.cells (a.map bv).toArray 24, .cells (b.map bv).toArray 24]) _
  rw [hw2]
  refine (wakes03 w2).mono ?_
  rintro e w3 ⟨rfl, hb3⟩
  have hA := (hb3.block _ (by simp at hs2; omega)).trans (hbl 0)
  have hB := (hb3.block _ (by simp at hs2; omega)).trans (hbl 1)
  have hbw := hb2.trans (hb3.mono hb2.size)
  clear hbl hb2 hs2 hb3 hw2
  dsimp only
  go_wp2_with fail
  refine (Hp.out w3).mono ?_
  rintro e w4 ⟨rfl, hb4⟩
  have hA := (hb4.block _ (Array.getElem?_eq_some_iff.1 hA).1).trans hA
  have hB := (hb4.block _ (Array.getElem?_eq_some_iff.1 hB).1).trans hB
  have hbw := hbw.trans (hb4.mono hbw.size)
  clear hb4
  dsimp only
  obtain ⟨e4, he4⟩ : ∃ e4 : Int, (if ok = true then 0 else 130) = e4 := ⟨_, rfl⟩
  rw [he4]
  have He4 := Lib.hid he4
  clear he4
  go_wp2_with (refine wpList_store_new rfl 24 (.tmp 7) (.tmp 16) rfl _ _ (id.map bv).toArray rfl rfl (id_info id hI) (id_size id hI).symm (id_one id) ?_)
  obtain ⟨w5, hw5, hbl5, hb5, hs5⟩ := allocs_named w4 [.cells (id.map bv).toArray 24]
  change Calls _ _ _ (List.foldl World.alloc w4 [.cells (id.map bv).toArray 24]) _
  rw [hw5]
  have hA := (hb5.block _ (Array.getElem?_eq_some_iff.1 hA).1).trans hA
  have hB := (hb5.block _ (Array.getElem?_eq_some_iff.1 hB).1).trans hB
  have hbw := hbw.trans (hb5.mono hbw.size)
  have hC : w5.heap[w4.heap.size]? = some (.cells (id.map bv).toArray 24 (0, 0)) := hbl5 0
  clear hb5 hbl5 hs5 hw5
  generalize w4.heap.size = N at *
  refine (Hr.out w5).mono ?_
  rintro e w6 ⟨rfl, hb6⟩
  have hA := (hb6.block _ (Array.getElem?_eq_some_iff.1 hA).1).trans hA
  have hB := (hb6.block _ (Array.getElem?_eq_some_iff.1 hB).1).trans hB
  have hC := (hb6.block _ (Array.getElem?_eq_some_iff.1 hC).1).trans hC
  have hbw := hbw.trans (hb6.mono hbw.size)
  clear hb6
  dsimp only
  have hC7 := (Below.heap_alloc w6 (Obj.cells (id.map bv).toArray 24) _ (Array.getElem?_eq_some_iff.1 hC).1).trans hC
  have hD7 : (w6.alloc (Obj.cells (id.map bv).toArray 24)).heap[w6.heap.size]? = some (.cells (id.map bv).toArray 24 (0, 0)) := heap_alloc_new w6 _
  have hA7 := (Below.heap_alloc w6 (Obj.cells (id.map bv).toArray 24) _ (Array.getElem?_eq_some_iff.1 hA).1).trans hA
  have hB7 := (Below.heap_alloc w6 (Obj.cells (id.map bv).toArray 24) _ (Array.getElem?_eq_some_iff.1 hB).1).trans hB
  have hb7 := hbw.alloc hbw.size (Obj.cells (id.map bv).toArray 24)
  have ra : ∀ p, (gro (w6.alloc (Obj.cells (id.map bv).toArray 24)) p).rangeAt w.heap.size 0 (a.map bv) := fun p => by
    have := rangeAt_row (gro_heap hA7 p) 0 32
    simpa [ha, List.take_of_length_le] using this
  have rb : ∀ p, (gro (w6.alloc (Obj.cells (id.map bv).toArray 24)) p).rangeAt (w.heap.size + 1) 0 (b.map bv) := fun p => by
    have := rangeAt_row (gro_heap hB7 p) 0 32
    simpa [hb, List.take_of_length_le] using this
  have ra := Lib.hid ra
  have rb := Lib.hid rb
  have he4' : (e4 == 0) = ok := by have := He4.out; cases ok <;> (subst this; rfl)
  have he5' : (e4 != 130) = ok := by have := He4.out; cases ok <;> (subst this; rfl)
  clear hA hB hC hbw He4
  cases ok
  all_goals go_wp2_with (first
    | (refine wpList_store_new rfl 24 (.tmp 9) (.tmp 21) rfl _ _ (id.map bv).toArray rfl rfl (id_info id hI) (id_size id hI).symm (id_one id) ?_)
    | (refine wpList_load_rowg (by kernel_rfl) 24 (.tmp 7) rfl N rfl 24 _ (0, 0) (.array 32 5) hC7 (by kernel_rfl) rfl (id_info id hI) ?_)
    | (refine wpList_load_rowg (by kernel_rfl) 24 (.tmp 9) rfl w6.heap.size rfl 24 _ (0, 0) (.array 32 5) hD7 (by kernel_rfl) rfl (id_info id hI) ?_))
  all_goals refine wp_region_qgro rfl (by kernel_rfl) ?_
  all_goals
    refine wpQuiet_load_midg (by kernel_rfl) 24 (.tmp 3) rfl w.heap.size 0 rfl (a.map bv) (.array 32 5) (by rintro _ ⟨p, rfl⟩; exact ra.out p) (by kernel_rfl) rfl (by rw [List.length_map, ha]; kernel_rfl) ?_
    simp only [Act.put, List.setIfInBounds_toArray, List.set_cons_succ, List.set_cons_zero]
    go_big_quiet_step ((go_at_call 32; exact gro_call (Ht.out _)))
    refine wpQuiet_load_midg (by kernel_rfl) 24 (.tmp 3) rfl w.heap.size 0 rfl (a.map bv) (.array 32 5) (by rintro _ ⟨p, rfl⟩; exact ra.out p) (by kernel_rfl) rfl (by rw [List.length_map, ha]; kernel_rfl) ?_
    simp only [Act.put, List.setIfInBounds_toArray, List.set_cons_succ, List.set_cons_zero]
    go_big_quiet_step ((go_at_call 33; exact gro_call (Hrt.out _)))
    go_big_quiet_step (fail)
    go_big_quiet_step (fail)
    refine wpQuiet_load_midg (by kernel_rfl) 24 (.tmp 3) rfl w.heap.size 0 rfl (a.map bv) (.array 32 5) (by rintro _ ⟨p, rfl⟩; exact ra.out p) (by kernel_rfl) rfl (by rw [List.length_map, ha]; kernel_rfl) ?_
    simp only [Act.put, List.setIfInBounds_toArray, List.set_cons_succ, List.set_cons_zero]
    refine wpQuiet_load_midg (by kernel_rfl) 24 (.tmp 4) rfl (w.heap.size + 1) 0 rfl (b.map bv) (.array 32 5) (by rintro _ ⟨p, rfl⟩; exact rb.out p) (by kernel_rfl) rfl (by rw [List.length_map, hb]; kernel_rfl) ?_
    simp only [Act.put, List.setIfInBounds_toArray, List.set_cons_succ, List.set_cons_zero]
    go_big_quiet_step ((go_at_call 34; exact gro_call (Lab.out _)))
    refine wpQuiet_load_midg (by kernel_rfl) 24 (.tmp 3) rfl w.heap.size 0 rfl (a.map bv) (.array 32 5) (by rintro _ ⟨p, rfl⟩; exact ra.out p) (by kernel_rfl) rfl (by rw [List.length_map, ha]; kernel_rfl) ?_
    simp only [Act.put, List.setIfInBounds_toArray, List.set_cons_succ, List.set_cons_zero]
    refine wpQuiet_load_midg (by kernel_rfl) 24 (.tmp 4) rfl (w.heap.size + 1) 0 rfl (b.map bv) (.array 32 5) (by rintro _ ⟨p, rfl⟩; exact rb.out p) (by kernel_rfl) rfl (by rw [List.length_map, hb]; kernel_rfl) ?_
    simp only [Act.put, List.setIfInBounds_toArray, List.set_cons_succ, List.set_cons_zero]
    go_big_quiet_step ((go_at_call 35; exact gro_call (Rab.out _)))
    go_big_quiet_step (fail)
    go_big_quiet_step (fail)
    go_big_quiet_step (fail)
    refine wpQuiet_load_midg (by kernel_rfl) 24 (.tmp 4) rfl (w.heap.size + 1) 0 rfl (b.map bv) (.array 32 5) (by rintro _ ⟨p, rfl⟩; exact rb.out p) (by kernel_rfl) rfl (by rw [List.length_map, hb]; kernel_rfl) ?_
    simp only [Act.put, List.setIfInBounds_toArray, List.set_cons_succ, List.set_cons_zero]
    refine wpQuiet_load_midg (by kernel_rfl) 24 (.tmp 3) rfl w.heap.size 0 rfl (a.map bv) (.array 32 5) (by rintro _ ⟨p, rfl⟩; exact ra.out p) (by kernel_rfl) rfl (by rw [List.length_map, ha]; kernel_rfl) ?_
    simp only [Act.put, List.setIfInBounds_toArray, List.set_cons_succ, List.set_cons_zero]
    go_big_quiet_step ((go_at_call 34; exact gro_call (Lba.out _)))
    refine wpQuiet_load_midg (by kernel_rfl) 24 (.tmp 4) rfl (w.heap.size + 1) 0 rfl (b.map bv) (.array 32 5) (by rintro _ ⟨p, rfl⟩; exact rb.out p) (by kernel_rfl) rfl (by rw [List.length_map, hb]; kernel_rfl) ?_
    simp only [Act.put, List.setIfInBounds_toArray, List.set_cons_succ, List.set_cons_zero]
    refine wpQuiet_load_midg (by kernel_rfl) 24 (.tmp 3) rfl w.heap.size 0 rfl (a.map bv) (.array 32 5) (by rintro _ ⟨p, rfl⟩; exact ra.out p) (by kernel_rfl) rfl (by rw [List.length_map, ha]; kernel_rfl) ?_
    simp only [Act.put, List.setIfInBounds_toArray, List.set_cons_succ, List.set_cons_zero]
    go_big_quiet_step ((go_at_call 35; exact gro_call (Rba.out _)))
    go_big_quiet_step (fail)
    go_big_quiet_step (fail)
    go_big_quiet_step (fail)
    refine wpQuiet_nil ?_
    rintro _ ⟨p, rfl⟩
    go_wp2_with fail
    go_ret
    exact ⟨ret_val (by simp), hb7.trans ((below_gro _ p).mono hb7.size)⟩
end Go.Proofs.Ytcfkapoppmpehaa

/-
  WotsLong: what any list of digests leads to, or that it is none: the walk.
-/
import Derived.Test.YtcfkapoppmpehaaL19
import Derived.Test.YtcfkapoppmpehaaL03
namespace Go.Proofs.Ytcfkapoppmpehaa
open Go.RowKit Go.Shelf

theorem RdI.takeN {w : World} {a : Option Addr} {n c : Nat} {ids : List (List UInt8)} (h : RdI w (.slice a n c) ids) (m : Nat) : RdI w (.slice a (ids.take m).length c) (ids.take m) := by
  obtain ⟨a0, c0, hv, hc, hl, hr⟩ := h
  cases hv
  refine ⟨a, c, rfl, by simp; omega, fun i hi => ?_, fun h0 => ?_⟩
  · have h2 : i < m ∧ i < ids.length := by simp at hi; omega
    have := hl i h2.2
    rw [List.getD_eq_getElem?_getD, List.getElem?_take, if_pos h2.1, ← List.getD_eq_getElem?_getD]
    exact this
  · have h2 : 0 < ids.length := by simp at h0; omega
    obtain ⟨b, o, rfl, hrr⟩ := hr h2
    refine ⟨b, o, rfl, fun i hi => ?_⟩
    have h2 : i < m ∧ i < ids.length := by simp at hi; omega
    rw [List.getD_eq_getElem?_getD, List.getElem?_take, if_pos h2.1, ← List.getD_eq_getElem?_getD]
    exact hrr i h2.2

set_option maxRecDepth 100000 in
set_option maxHeartbeats 2000000 in
theorem wotsLong_any (key m : List UInt8) (hk : key.length = 32) (hm : m.length = 32) (sv : Value) (ids : List (List UInt8)) (w : World) (hv : RdI w sv ids) (hmx : ids.length ≤ maxLen) :
    Calls Try.prog 16 #[bagg key, bagg m, sv] w fun e w' => e = .returned (.bool true) ∧ Below w.heap.size w w' := by
  have hv0 := hv
  obtain ⟨a0, c0, rfl, hc0, -, -⟩ := hv0
  unfold maxLen at hmx
  go_enter Try.func16, Try.ntmps16
  go_upto_region 1 with fail
  obtain ⟨w2, hw2, hbl, hb2, hs2⟩ := allocs_named w [.cells (key.map bv).toArray 24, .cells (m.map bv).toArray 24]
  change Code.wp _ _ _ _ (List.foldl World.alloc w [.cells (key.map bv).toArray 24, .cells (m.map bv).toArray 24])
  rw [hw2]
  have hK : w2.heap[w.heap.size]? = some (.cells (key.map bv).toArray 24 (0, 0)) := hbl 0
  have hM : w2.heap[w.heap.size + 1]? = some (.cells (m.map bv).toArray 24 (0, 0)) := hbl 1
  clear hbl hw2 hs2
  go_wp2_with fail
  refine (wakes06 w2).mono ?_
  rintro e w3 ⟨rfl, hb3⟩
  have hK3 := (hb3.block _ (Array.getElem?_eq_some_iff.1 hK).1).trans hK
  have hM3 := (hb3.block _ (Array.getElem?_eq_some_iff.1 hM).1).trans hM
  have hbw3 := hb2.trans (hb3.mono hb2.size)
  have hv3 := hv.mono hbw3
  clear hb2 hb3 hK hM hv
  dsimp only
  go_upto_region 3 with fail
  iterate 4 go_step
  obtain ⟨w4, hw4, hbl4, hb4, hs4⟩ := allocs_named w3 [.cells #[] 24]
  have hG : w4.heap[w3.heap.size]? = some (.cells #[] 24 (0, 0)) := hbl4 0
  have hK4 := (hb4.block _ (Array.getElem?_eq_some_iff.1 hK3).1).trans hK3
  have hM4 := (hb4.block _ (Array.getElem?_eq_some_iff.1 hM3).1).trans hM3
  have hbw4 := hbw3.trans (hb4.mono hbw3.size)
  have hv4 := (hv3.mono hb4).takeN 80
  change wpList _ _ _ _ _ (List.foldl World.alloc w3 [.cells #[] 24])
  rw [hw4]
  have hs4' : w3.heap.size ≤ w4.heap.size := hb4.size
  have hsB : w.heap.size ≤ w3.heap.size := hbw3.size
  have hkB := (Array.getElem?_eq_some_iff.1 hM3).1
  clear hbl4 hw4 hs4 hK3 hM3 hbw3 hv3 hb4
  have hlen : (ids.take 80).length = min ids.length 80 := by simp [Nat.min_comm]
  obtain ⟨q, hq⟩ : ∃ q, q = (ids.take 80).length := ⟨_, rfl⟩
  have hmin : (if 80 < (ids.length : Int) then 80 else (ids.length : Int)) = (q : Int) := by rw [hq, hlen]; omega
  have hq' : q ≤ c0 := by rw [hq, hlen]; omega
  have Hq := Lib.hid hq
  have Hl := Lib.hid hlen
  clear hq hlen
  have hv5 : RdI w4 (.slice a0 q c0) (ids.take 80) := by rw [Hq.out]; exact hv4
  have hl80 : (ids.take 80).length ≤ 80 := by rw [Hl.out]; omega
  generalize ids.take 80 = idp at *
  clear hv4 Hl
  go_wp2_with (first
    | (refine wpList_slice_to rfl (.tmp 13) (.tmp 16) rfl a0 ids.length c0 q hq' rfl rfl ?_)
    | (refine wpList_append_ids rfl (.tmp 12) (.tmp 17) rfl w3.heap.size w3.heap.size rfl hG (Nat.le_refl _) _ idp rfl hv5 (by omega) w4 (Below.refl _ _) hs4' ?_))
  intro v5 w5 hv6 hb5 _
  have hK5 := (hb5.block _ (by omega)).trans hK4
  have hM5 := (hb5.block _ hkB).trans hM4
  have hbw5 := hbw4.trans (hb5.mono hsB)
  clear hv5 hG hb5 hK4 hM4 hbw4 hs4' hsB hkB hmin hq' Hq
  obtain ⟨a5, c5, rfl, hrest⟩ := hv6
  have hv6 : RdI w5 (.slice a5 idp.length c5) idp := ⟨a5, c5, rfl, hrest⟩
  clear hrest
  by_cases h67 : idp.length = 67
  · have hne : ((idp.length : Int) != 67) = false := by simp; omega
    have HR := Lib.hid (fun w h => recover_ok m hm (.slice a5 idp.length c5) idp h67 w h)
    have HL := Lib.hid (fun w h => recovered72_any m hm (.slice a5 idp.length c5) idp h67 w h)
    have HV := Lib.hid (fun w h => verify_ok key m hk hm (.slice a5 idp.length c5) idp h67 w h)
    have hI := recW_length m idp
    generalize recW m idp = d at *
    replace h67 := Lib.hid h67
    have hE := Lib.hid (equal_self d hI)
    go_wp2_with (refine wpList_load_row rfl 24 (.tmp 4) rfl (w.heap.size + 1) rfl 24 _ (0, 0) (.array 32 5) hM5 (by kernel_rfl) rfl (id_info m hm) ?_)
    refine (HR.out w5 hv6).mono ?_
    rintro e w6 ⟨rfl, hb6⟩
    have hK6 := (hb6.block _ (Array.getElem?_eq_some_iff.1 hK5).1).trans hK5
    have hM6 := (hb6.block _ (Array.getElem?_eq_some_iff.1 hM5).1).trans hM5
    have hbw6 := hbw5.trans (hb6.mono hbw5.size)
    have hv7 := hv6.mono hb6
    clear hK5 hM5 hbw5 hv6 hb6 HR
    dsimp only
    go_upto_region 5 with (refine wpList_store_new rfl 24 (.tmp 7) (.tmp 23) rfl _ _ (d.map bv).toArray rfl rfl (id_info d hI) (id_size d hI).symm (id_one d) ?_)
    have hD7 : (w6.alloc (Obj.cells (d.map bv).toArray 24)).heap[w6.heap.size]? = some (.cells (d.map bv).toArray 24 (0, 0)) := heap_alloc_new w6 _
    have hb7 : Below w6.heap.size w6 (w6.alloc (Obj.cells (d.map bv).toArray 24)) := (Below.refl _ _).alloc (Nat.le_refl _) _
    have hK7 := (hb7.block _ (Array.getElem?_eq_some_iff.1 hK6).1).trans hK6
    have hM7 := (hb7.block _ (Array.getElem?_eq_some_iff.1 hM6).1).trans hM6
    have hbw7 := hbw6.trans (hb7.mono hbw6.size)
    have hv8 := hv7.mono hb7
    generalize w6.alloc (Obj.cells (d.map bv).toArray 24) = w7 at *
    generalize w6.heap.size = D at *
    clear hK6 hM6 hbw6 hv7 hb7
    go_wp2_with (refine wpList_load_row rfl 24 (.tmp 4) rfl (w.heap.size + 1) rfl 24 _ (0, 0) (.array 32 5) hM7 (by kernel_rfl) rfl (id_info m hm) ?_)
    refine (HL.out w7 hv8).mono ?_
    rintro e w8 ⟨rfl, hb8⟩
    have hK8 := (hb8.block _ (Array.getElem?_eq_some_iff.1 hK7).1).trans hK7
    have hM8 := (hb8.block _ (Array.getElem?_eq_some_iff.1 hM7).1).trans hM7
    have hD8 := (hb8.block _ (Array.getElem?_eq_some_iff.1 hD7).1).trans hD7
    have hbw8 := hbw7.trans (hb8.mono hbw7.size)
    have hv9 := hv8.mono hb8
    clear hK7 hM7 hD7 hbw7 hv8 hb8 HL
    dsimp only
    go_upto_region 8 with (refine wpList_store_new rfl 24 (.tmp 9) (.tmp 44) rfl _ _ (d.map bv).toArray rfl rfl (id_info d hI) (id_size d hI).symm (id_one d) ?_)
    have hF9 : (w8.alloc (Obj.cells (d.map bv).toArray 24)).heap[w8.heap.size]? = some (.cells (d.map bv).toArray 24 (0, 0)) := heap_alloc_new w8 _
    have hb9 : Below w8.heap.size w8 (w8.alloc (Obj.cells (d.map bv).toArray 24)) := (Below.refl _ _).alloc (Nat.le_refl _) _
    have hK9 := (hb9.block _ (Array.getElem?_eq_some_iff.1 hK8).1).trans hK8
    have hM9 := (hb9.block _ (Array.getElem?_eq_some_iff.1 hM8).1).trans hM8
    have hD9 := (hb9.block _ (Array.getElem?_eq_some_iff.1 hD8).1).trans hD8
    have hbw9 := hbw8.trans (hb9.mono hbw8.size)
    have hv10 := hv9.mono hb9
    generalize w8.alloc (Obj.cells (d.map bv).toArray 24) = w9 at *
    generalize w8.heap.size = F at *
    clear hK8 hM8 hD8 hbw8 hv9 hb9
    have rK := Lib.hid (range_gro hk hK9)
    have rM := Lib.hid (range_gro hm hM9)
    have rD := Lib.hid (range_gro hI hD9)
    have rF := Lib.hid (range_gro hI hF9)
    have hrv := Lib.hid (fun p => hv10.mono (below_gro w9 p))
    clear hK9 hM9 hD9 hF9 hv10
    have hEk : Hid (∀ w, (Op.equalIn 10000 24 (bagg d) (bagg key)).run Try.prog w = .ok (decide (d = key)) w) := Lib.hid (equal_id d key hI hk)
    obtain ⟨bo, hbo⟩ : ∃ bo, decide (d = key) = bo := ⟨_, rfl⟩
    rw [hbo] at HV hEk
    clear hbo
    go_wp2_with fail
    refine wp_region_qgro rfl (by kernel_rfl) ?_
    simp only [Act.put]
    iterate 3 go_big_quiet_step (fail)
    refine wpQuiet_load_midg (by kernel_rfl) 24 (.tmp 7) rfl D 0 rfl (d.map bv) (.array 32 5) (by rintro _ ⟨p, rfl⟩; exact rD.out p) (by kernel_rfl) rfl (by rw [List.length_map, hI]; kernel_rfl) ?_
    simp only [Act.put, List.setIfInBounds_toArray, List.set_cons_succ, List.set_cons_zero]
    refine wpQuiet_load_midg (by kernel_rfl) 24 (.tmp 9) rfl F 0 rfl (d.map bv) (.array 32 5) (by rintro _ ⟨p, rfl⟩; exact rF.out p) (by kernel_rfl) rfl (by rw [List.length_map, hI]; kernel_rfl) ?_
    simp only [Act.put, List.setIfInBounds_toArray, List.set_cons_succ, List.set_cons_zero]
    refine wpQuiet_eqr (by kernel_rfl) 24 24 (.tmp 48) (.tmp 49) rfl (by kernel_rfl) _ _ true rfl rfl hE.out ?_
    simp only [Act.put, List.setIfInBounds_toArray, List.set_cons_succ, List.set_cons_zero]
    iterate 2 go_big_quiet_step (fail)
    refine wpQuiet_load_midg (by kernel_rfl) 24 (.tmp 3) rfl w.heap.size 0 rfl (key.map bv) (.array 32 5) (by rintro _ ⟨p, rfl⟩; exact rK.out p) (by kernel_rfl) rfl (by rw [List.length_map, hk]; kernel_rfl) ?_
    simp only [Act.put, List.setIfInBounds_toArray, List.set_cons_succ, List.set_cons_zero]
    refine wpQuiet_load_midg (by kernel_rfl) 24 (.tmp 4) rfl (w.heap.size + 1) 0 rfl (m.map bv) (.array 32 5) (by rintro _ ⟨p, rfl⟩; exact rM.out p) (by kernel_rfl) rfl (by rw [List.length_map, hm]; kernel_rfl) ?_
    simp only [Act.put, List.setIfInBounds_toArray, List.set_cons_succ, List.set_cons_zero]
    go_big_quiet_step (fail)
    go_big_quiet_step ((go_at_call 73; exact gro_call (HV.out _ (hrv.out _))))
    refine wpQuiet_load_midg (by kernel_rfl) 24 (.tmp 9) rfl F 0 rfl (d.map bv) (.array 32 5) (by rintro _ ⟨p, rfl⟩; exact rF.out p) (by kernel_rfl) rfl (by rw [List.length_map, hI]; kernel_rfl) ?_
    simp only [Act.put, List.setIfInBounds_toArray, List.set_cons_succ, List.set_cons_zero]
    refine wpQuiet_load_midg (by kernel_rfl) 24 (.tmp 3) rfl w.heap.size 0 rfl (key.map bv) (.array 32 5) (by rintro _ ⟨p, rfl⟩; exact rK.out p) (by kernel_rfl) rfl (by rw [List.length_map, hk]; kernel_rfl) ?_
    simp only [Act.put, List.setIfInBounds_toArray, List.set_cons_succ, List.set_cons_zero]
    refine wpQuiet_eqr (by kernel_rfl) 24 24 (.tmp 57) (.tmp 58) rfl (by kernel_rfl) _ _ bo rfl rfl hEk.out ?_
    simp only [Act.put, List.setIfInBounds_toArray, List.set_cons_succ, List.set_cons_zero]
    cases bo
    all_goals
      repeat go_big_quiet_step (fail)
      refine wpQuiet_nil ?_
      rintro _ ⟨p, rfl⟩
      simp only [Exit.then]
      go_wp2_with fail
      go_ret
      exact ⟨ret_val rfl, hbw9.trans ((below_gro w9 p).mono hbw9.size)⟩
  · have hne : ((idp.length : Int) != 67) = true := by simp; omega
    have HR := Lib.hid (fun w => recover_long m a5 idp.length c5 h67 w)
    have HV := Lib.hid (fun w => verify_long key m hm a5 idp.length c5 h67 w)
    have hE := Lib.hid (equal_self z32 rfl)
    have hB := build24_zero
    clear hv6
    go_wp2_with (refine wpList_load_row rfl 24 (.tmp 4) rfl (w.heap.size + 1) rfl 24 _ (0, 0) (.array 32 5) hM5 (by kernel_rfl) rfl (id_info m hm) ?_)
    refine (HR.out w5).mono ?_
    rintro e w6 ⟨rfl, hb6⟩
    have hK6 := (hb6.block _ (Array.getElem?_eq_some_iff.1 hK5).1).trans hK5
    have hM6 := (hb6.block _ (Array.getElem?_eq_some_iff.1 hM5).1).trans hM5
    have hbw6 := hbw5.trans (hb6.mono hbw5.size)
    clear hK5 hM5 hbw5 hb6 HR
    dsimp only
    go_upto_region 5 with (refine wpList_store_new rfl 24 (.tmp 7) (.tmp 23) rfl _ _ (z32.map bv).toArray rfl rfl (id_info z32 rfl) (id_size z32 rfl).symm (id_one z32) ?_)
    have hD7 : (w6.alloc (Obj.cells (z32.map bv).toArray 24)).heap[w6.heap.size]? = some (.cells (z32.map bv).toArray 24 (0, 0)) := heap_alloc_new w6 _
    have hb7 : Below w6.heap.size w6 (w6.alloc (Obj.cells (z32.map bv).toArray 24)) := (Below.refl _ _).alloc (Nat.le_refl _) _
    have hK7 := (hb7.block _ (Array.getElem?_eq_some_iff.1 hK6).1).trans hK6
    have hM7 := (hb7.block _ (Array.getElem?_eq_some_iff.1 hM6).1).trans hM6
    have hbw7 := hbw6.trans (hb7.mono hbw6.size)
    generalize w6.alloc (Obj.cells (z32.map bv).toArray 24) = w7 at *
    generalize w6.heap.size = D at *
    clear hK6 hM6 hbw6 hb7
    go_wp2_with (first
      | (refine wpList_load_rowg (by kernel_rfl) 24 (.tmp 7) rfl D rfl 24 _ (0, 0) (.array 32 5) hD7 (by kernel_rfl) rfl (id_info z32 rfl) ?_)
      | (refine wpList_eqr (by kernel_rfl) 24 24 (.tmp 31) (.tmp 32) rfl (by kernel_rfl) _ _ true rfl rfl hE.out ?_)
      | (refine wpList_load_rowg (by kernel_rfl) 24 (.tmp 3) rfl w.heap.size rfl 24 _ (0, 0) (.array 32 5) hK7 (by kernel_rfl) rfl (id_info key hk) ?_) | (refine wpList_load_rowg (by kernel_rfl) 24 (.tmp 4) rfl (w.heap.size + 1) rfl 24 _ (0, 0) (.array 32 5) hM7 (by kernel_rfl) rfl (id_info m hm) ?_))
    refine (HV.out w7).mono ?_
    rintro e w8 ⟨rfl, hb8⟩
    have hbw8 := hbw7.trans (hb8.mono hbw7.size)
    dsimp only
    go_wp2_with fail
    go_ret
    exact ⟨ret_val rfl, hbw8⟩
end Go.Proofs.Ytcfkapoppmpehaa

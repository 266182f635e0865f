/-
  ShaOrders: by Less digests have one order: the walk.
-/
import Derived.Test.YtcfkapoppmpehaaWake
import Derived.Test.YtcfkapoppmpehaaL03
namespace Go.Proofs.Ytcfkapoppmpehaa
open Go.RowKit

theorem lessB_asym : ∀ (x y : List UInt8), lessB x y = true → lessB y x = false
  | [], _, h => by simp [lessB] at h
  | _ :: _, [], h => by simp [lessB] at h
  | a :: x, b :: y, h => by
    unfold lessB at h ⊢
    by_cases e : a = b
    · rw [if_pos e] at h
      rw [if_pos e.symm]
      exact lessB_asym x y h
    · rw [if_neg e] at h
      rw [if_neg (fun e' => e e'.symm)]
      simp only [decide_eq_true_eq, decide_eq_false_iff_not] at h ⊢
      omega
theorem lessB_total : ∀ (x y : List UInt8), x.length = y.length → x ≠ y → lessB x y = false → lessB y x = true
  | [], [], _, h, _ => absurd rfl h
  | [], _ :: _, h, _, _ => by simp at h
  | _ :: _, [], h, _, _ => by simp at h
  | a :: x, b :: y, hl, hne, h => by
    unfold lessB at h ⊢
    by_cases e : a = b
    · rw [if_pos e] at h
      rw [if_pos e.symm]
      exact lessB_total x y (by simpa using hl) (fun h' => hne (by rw [e, h'])) h
    · rw [if_neg e] at h
      rw [if_neg (fun e' => e e'.symm)]
      simp only [decide_eq_true_eq, decide_eq_false_iff_not] at h ⊢
      have : a.toNat ≠ b.toNat := fun h' => e (UInt8.toNat_inj.1 h')
      omega
theorem lessB_trans : ∀ (x y z : List UInt8), lessB x y = true → lessB y z = true → lessB x z = true
  | [], _, _, h, _ => by simp [lessB] at h
  | _ :: _, [], _, h, _ => by simp [lessB] at h
  | _ :: _, _ :: _, [], _, h => by simp [lessB] at h
  | a :: x, b :: y, c :: z, h, k => by
    unfold lessB at h k ⊢
    by_cases e : a = b
    · subst e
      rw [if_pos rfl] at h
      by_cases e2 : a = c
      · rw [if_pos e2] at k ⊢; exact lessB_trans x y z h k
      · rw [if_neg e2] at k ⊢; exact k
    · rw [if_neg e] at h
      by_cases e2 : b = c
      · subst e2
        rw [if_neg e]; exact h
      · rw [if_neg e2] at k
        simp only [decide_eq_true_eq] at h k
        rw [if_neg (fun h' => by subst h'; omega)]
        simp only [decide_eq_true_eq]
        omega

set_option maxRecDepth 100000 in
set_option maxHeartbeats 1000000 in
theorem shaOrders_any (a b c : List UInt8) (ha : a.length = 32) (hb : b.length = 32) (hc : c.length = 32) (w : World) :
    Calls Try.prog 6 #[bagg a, bagg b, bagg c] w fun e w' => e = .returned (.bool true) ∧ Below w.heap.size w w' := by
  have L := fun (x y : List UInt8) (hx : x.length = 32) (hy : y.length = 32) => less_any x y hx hy
  have Haa := Lib.hid (L a a ha ha)
  have Hab := Lib.hid (L a b ha hb)
  have Hba := Lib.hid (L b a hb ha)
  have Hbc := Lib.hid (L b c hb hc)
  have Hac := Lib.hid (L a c ha hc)
  have hN := equal_id a b ha hb
  rw [lessB_eq] at Haa
  clear L
  go_enter Try.func6, Try.ntmps6
  go_wp2_with fail
  obtain ⟨w2, hw2, hbl, hb2, hs2⟩ := allocs_named w [.cells (a.map bv).toArray 24, .cells (b.map bv).toArray 24, .cells (c.map bv).toArray 24]
  change Calls _ _ _ (List.foldl World.alloc w [.cells (a.map bv).toArray 24, .cells (b.map bv).toArray 24, .cells (c.map bv).toArray 24]) _
  rw [hw2]
  refine (wakes03 w2).mono ?_
  rintro e w3 ⟨rfl, hb3⟩
  have hA := (hb3.block _ (by simp at hs2; omega)).trans (hbl 0)
  have hB := (hb3.block _ (by simp at hs2; omega)).trans (hbl 1)
  have hC := (hb3.block _ (by simp at hs2; omega)).trans (hbl 2)
  have hbw := hb2.trans (hb3.mono hb2.size)
  clear hbl hb2 hs2 hb3 hw2
  dsimp only
  go_wp2_with fail
  have ra : ∀ p, (gro w3 p).rangeAt w.heap.size 0 (a.map bv) := fun p => by
    have := rangeAt_row (gro_heap hA p) 0 32
    simpa [ha, List.take_of_length_le] using this
  have rb : ∀ p, (gro w3 p).rangeAt (w.heap.size + 1) 0 (b.map bv) := fun p => by
    have := rangeAt_row (gro_heap hB p) 0 32
    simpa [hb, List.take_of_length_le] using this
  have ra := Lib.hid ra
  have rb := Lib.hid rb
  by_cases hP : lessB a b = true
  · have hQ := lessB_asym a b hP
    have hab : decide (a = b) = false := by
      simp only [decide_eq_false_iff_not]; rintro rfl; rw [lessB_eq] at hP; cases hP
    rw [hP] at Hab
    rw [hQ] at Hba
    rw [hab] at hN
    refine wp_region_qgro rfl (by kernel_rfl) ?_
    refine wpQuiet_load_midg (by kernel_rfl) 24 (.tmp 3) rfl w.heap.size 0 rfl (a.map bv) (.array 32 5) (by rintro _ ⟨p, rfl⟩; exact ra.out p) (by kernel_rfl) rfl (by rw [List.length_map, ha]; kernel_rfl) ?_
    simp only [Act.put, List.setIfInBounds_toArray, List.set_cons_succ, List.set_cons_zero]
    refine wpQuiet_load_midg (by kernel_rfl) 24 (.tmp 3) rfl w.heap.size 0 rfl (a.map bv) (.array 32 5) (by rintro _ ⟨p, rfl⟩; exact ra.out p) (by kernel_rfl) rfl (by rw [List.length_map, ha]; kernel_rfl) ?_
    simp only [Act.put, List.setIfInBounds_toArray, List.set_cons_succ, List.set_cons_zero]
    go_big_quiet_step ((go_at_call 34; exact gro_call (Haa.out _)))
    go_big_quiet_step (fail)
    refine wpQuiet_load_midg (by kernel_rfl) 24 (.tmp 3) rfl w.heap.size 0 rfl (a.map bv) (.array 32 5) (by rintro _ ⟨p, rfl⟩; exact ra.out p) (by kernel_rfl) rfl (by rw [List.length_map, ha]; kernel_rfl) ?_
    simp only [Act.put, List.setIfInBounds_toArray, List.set_cons_succ, List.set_cons_zero]
    refine wpQuiet_load_midg (by kernel_rfl) 24 (.tmp 4) rfl (w.heap.size + 1) 0 rfl (b.map bv) (.array 32 5) (by rintro _ ⟨p, rfl⟩; exact rb.out p) (by kernel_rfl) rfl (by rw [List.length_map, hb]; kernel_rfl) ?_
    simp only [Act.put, List.setIfInBounds_toArray, List.set_cons_succ, List.set_cons_zero]
    go_big_quiet_step ((go_at_call 34; exact gro_call (Hab.out _)))
    go_big_quiet_step (fail)
    refine wpQuiet_load_midg (by kernel_rfl) 24 (.tmp 4) rfl (w.heap.size + 1) 0 rfl (b.map bv) (.array 32 5) (by rintro _ ⟨p, rfl⟩; exact rb.out p) (by kernel_rfl) rfl (by rw [List.length_map, hb]; kernel_rfl) ?_
    simp only [Act.put, List.setIfInBounds_toArray, List.set_cons_succ, List.set_cons_zero]
    refine wpQuiet_load_midg (by kernel_rfl) 24 (.tmp 3) rfl w.heap.size 0 rfl (a.map bv) (.array 32 5) (by rintro _ ⟨p, rfl⟩; exact ra.out p) (by kernel_rfl) rfl (by rw [List.length_map, ha]; kernel_rfl) ?_
    simp only [Act.put, List.setIfInBounds_toArray, List.set_cons_succ, List.set_cons_zero]
    go_big_quiet_step ((go_at_call 34; exact gro_call (Hba.out _)))
    go_big_quiet_step (fail)
    go_big_quiet_step (fail)
    go_big_quiet_step (fail)
    refine wpQuiet_load_midg (by kernel_rfl) 24 (.tmp 3) rfl w.heap.size 0 rfl (a.map bv) (.array 32 5) (by rintro _ ⟨p, rfl⟩; exact ra.out p) (by kernel_rfl) rfl (by rw [List.length_map, ha]; kernel_rfl) ?_
    simp only [Act.put, List.setIfInBounds_toArray, List.set_cons_succ, List.set_cons_zero]
    refine wpQuiet_load_midg (by kernel_rfl) 24 (.tmp 4) rfl (w.heap.size + 1) 0 rfl (b.map bv) (.array 32 5) (by rintro _ ⟨p, rfl⟩; exact rb.out p) (by kernel_rfl) rfl (by rw [List.length_map, hb]; kernel_rfl) ?_
    simp only [Act.put, List.setIfInBounds_toArray, List.set_cons_succ, List.set_cons_zero]
    go_big_quiet_step (fail)
    refine wpQuiet_load_midg (by kernel_rfl) 24 (.tmp 3) rfl w.heap.size 0 rfl (a.map bv) (.array 32 5) (by rintro _ ⟨p, rfl⟩; exact ra.out p) (by kernel_rfl) rfl (by rw [List.length_map, ha]; kernel_rfl) ?_
    simp only [Act.put, List.setIfInBounds_toArray, List.set_cons_succ, List.set_cons_zero]
    refine wpQuiet_load_midg (by kernel_rfl) 24 (.tmp 4) rfl (w.heap.size + 1) 0 rfl (b.map bv) (.array 32 5) (by rintro _ ⟨p, rfl⟩; exact rb.out p) (by kernel_rfl) rfl (by rw [List.length_map, hb]; kernel_rfl) ?_
    simp only [Act.put, List.setIfInBounds_toArray, List.set_cons_succ, List.set_cons_zero]
    go_big_quiet_step ((go_at_call 34; exact gro_call (Hab.out _)))
    go_big_quiet_step (fail)
    go_big_quiet_step (fail)
    go_big_quiet_step (fail)
    go_big_quiet_step (fail)
    go_big_quiet_step (fail)
    go_big_quiet_step (fail)
    go_big_quiet_step (fail)
    refine wpQuiet_nil ?_
    rintro _ ⟨p, rfl⟩
    have hA4 := gro_heap hA p
    have hB4 := gro_heap hB p
    have hC4 := gro_heap hC p
    have hb4 := hbw.trans ((below_gro w3 p).mono hbw.size)
    have hsz : w.heap.size + 2 < (gro w3 p).heap.size := (Array.getElem?_eq_some_iff.1 hC4).1
    generalize gro w3 p = w4 at *
    clear hA hB hC hbw ra rb
    go_wp2_with (first
      | (refine wpList_load_row rfl 24 (.tmp 3) rfl w.heap.size rfl 24 _ (0, 0) (.array 32 5) hA4 (by kernel_rfl) rfl (id_info a ha) ?_)
      | (refine wpList_load_row rfl 24 (.tmp 4) rfl (w.heap.size + 1) rfl 24 _ (0, 0) (.array 32 5) hB4 (by kernel_rfl) rfl (id_info b hb) ?_))
    refine (Hab.out w4).mono ?_
    rintro e w5 ⟨rfl, hb5⟩
    have hB5 := (hb5.block _ (by omega)).trans hB4
    have hC5 := (hb5.block _ (by omega)).trans hC4
    have hA5 := (hb5.block _ (by omega)).trans hA4
    have hb5' := hb4.trans (hb5.mono hb4.size)
    have hs5 : w.heap.size + 2 < w5.heap.size := (Array.getElem?_eq_some_iff.1 hC5).1
    clear hA4 hB4 hC4 hb4 hb5 hsz
    dsimp only
    by_cases hbc : lessB b c = true
    · have hac := lessB_trans a b c hP hbc
      rw [hbc] at Hbc
      rw [hac] at Hac
      go_wp2_with (first
        | (refine wpList_load_rowg (by kernel_rfl) 24 (.tmp 4) rfl (w.heap.size + 1) rfl 24 _ (0, 0) (.array 32 5) hB5 (by kernel_rfl) rfl (id_info b hb) ?_)
        | (refine wpList_load_rowg (by kernel_rfl) 24 (.tmp 5) rfl (w.heap.size + 2) rfl 24 _ (0, 0) (.array 32 5) hC5 (by kernel_rfl) rfl (id_info c hc) ?_))
      refine (Hbc.out w5).mono ?_
      rintro e w6 ⟨rfl, hb6⟩
      have hA6 := (hb6.block _ (by omega)).trans hA5
      have hC6 := (hb6.block _ (by omega)).trans hC5
      have hb6' := hb5'.trans (hb6.mono hb5'.size)
      clear hA5 hB5 hC5 hb5' hb6
      dsimp only
      go_wp2_with (first
        | (refine wpList_load_rowg (by kernel_rfl) 24 (.tmp 3) rfl w.heap.size rfl 24 _ (0, 0) (.array 32 5) hA6 (by kernel_rfl) rfl (id_info a ha) ?_)
        | (refine wpList_load_rowg (by kernel_rfl) 24 (.tmp 5) rfl (w.heap.size + 2) rfl 24 _ (0, 0) (.array 32 5) hC6 (by kernel_rfl) rfl (id_info c hc) ?_))
      refine (Hac.out w6).mono ?_
      rintro e w7 ⟨rfl, hb7⟩
      have hb7' := hb6'.trans (hb7.mono hb6'.size)
      dsimp only
      go_wp2_with fail
      go_ret
      exact ⟨ret_val rfl, hb7'⟩
    · rw [Bool.not_eq_true] at hbc
      rw [hbc] at Hbc
      go_wp2_with (first
        | (refine wpList_load_rowg (by kernel_rfl) 24 (.tmp 4) rfl (w.heap.size + 1) rfl 24 _ (0, 0) (.array 32 5) hB5 (by kernel_rfl) rfl (id_info b hb) ?_)
        | (refine wpList_load_rowg (by kernel_rfl) 24 (.tmp 5) rfl (w.heap.size + 2) rfl 24 _ (0, 0) (.array 32 5) hC5 (by kernel_rfl) rfl (id_info c hc) ?_))
      refine (Hbc.out w5).mono ?_
      rintro e w6 ⟨rfl, hb6⟩
      have hb6' := hb5'.trans (hb6.mono hb5'.size)
      dsimp only
      go_wp2_with fail
      go_ret
      exact ⟨ret_val rfl, hb6'⟩
  · rw [Bool.not_eq_true] at hP
    rw [hP] at Hab
    obtain ⟨eq, hab, hQ⟩ : ∃ eq : Bool, decide (a = b) = eq ∧ lessB b a = !eq := by
      by_cases h : a = b
      · subst h; exact ⟨true, by simp, by rw [lessB_eq]; rfl⟩
      · exact ⟨false, by simp [h], by rw [lessB_total a b (by omega) h hP]; rfl⟩
    rw [hQ] at Hba
    rw [hab] at hN
    refine wp_region_qgro rfl (by kernel_rfl) ?_
    refine wpQuiet_load_midg (by kernel_rfl) 24 (.tmp 3) rfl w.heap.size 0 rfl (a.map bv) (.array 32 5) (by rintro _ ⟨p, rfl⟩; exact ra.out p) (by kernel_rfl) rfl (by rw [List.length_map, ha]; kernel_rfl) ?_
    simp only [Act.put, List.setIfInBounds_toArray, List.set_cons_succ, List.set_cons_zero]
    refine wpQuiet_load_midg (by kernel_rfl) 24 (.tmp 3) rfl w.heap.size 0 rfl (a.map bv) (.array 32 5) (by rintro _ ⟨p, rfl⟩; exact ra.out p) (by kernel_rfl) rfl (by rw [List.length_map, ha]; kernel_rfl) ?_
    simp only [Act.put, List.setIfInBounds_toArray, List.set_cons_succ, List.set_cons_zero]
    go_big_quiet_step ((go_at_call 34; exact gro_call (Haa.out _)))
    go_big_quiet_step (fail)
    refine wpQuiet_load_midg (by kernel_rfl) 24 (.tmp 3) rfl w.heap.size 0 rfl (a.map bv) (.array 32 5) (by rintro _ ⟨p, rfl⟩; exact ra.out p) (by kernel_rfl) rfl (by rw [List.length_map, ha]; kernel_rfl) ?_
    simp only [Act.put, List.setIfInBounds_toArray, List.set_cons_succ, List.set_cons_zero]
    refine wpQuiet_load_midg (by kernel_rfl) 24 (.tmp 4) rfl (w.heap.size + 1) 0 rfl (b.map bv) (.array 32 5) (by rintro _ ⟨p, rfl⟩; exact rb.out p) (by kernel_rfl) rfl (by rw [List.length_map, hb]; kernel_rfl) ?_
    simp only [Act.put, List.setIfInBounds_toArray, List.set_cons_succ, List.set_cons_zero]
    go_big_quiet_step ((go_at_call 34; exact gro_call (Hab.out _)))
    go_big_quiet_step (fail)
    go_big_quiet_step (fail)
    go_big_quiet_step (fail)
    go_big_quiet_step (fail)
    go_big_quiet_step (fail)
    go_big_quiet_step (fail)
    go_big_quiet_step (fail)
    refine wpQuiet_load_midg (by kernel_rfl) 24 (.tmp 3) rfl w.heap.size 0 rfl (a.map bv) (.array 32 5) (by rintro _ ⟨p, rfl⟩; exact ra.out p) (by kernel_rfl) rfl (by rw [List.length_map, ha]; kernel_rfl) ?_
    simp only [Act.put, List.setIfInBounds_toArray, List.set_cons_succ, List.set_cons_zero]
    refine wpQuiet_load_midg (by kernel_rfl) 24 (.tmp 4) rfl (w.heap.size + 1) 0 rfl (b.map bv) (.array 32 5) (by rintro _ ⟨p, rfl⟩; exact rb.out p) (by kernel_rfl) rfl (by rw [List.length_map, hb]; kernel_rfl) ?_
    simp only [Act.put, List.setIfInBounds_toArray, List.set_cons_succ, List.set_cons_zero]
    go_big_quiet_step (fail)
    refine wpQuiet_load_midg (by kernel_rfl) 24 (.tmp 3) rfl w.heap.size 0 rfl (a.map bv) (.array 32 5) (by rintro _ ⟨p, rfl⟩; exact ra.out p) (by kernel_rfl) rfl (by rw [List.length_map, ha]; kernel_rfl) ?_
    simp only [Act.put, List.setIfInBounds_toArray, List.set_cons_succ, List.set_cons_zero]
    refine wpQuiet_load_midg (by kernel_rfl) 24 (.tmp 4) rfl (w.heap.size + 1) 0 rfl (b.map bv) (.array 32 5) (by rintro _ ⟨p, rfl⟩; exact rb.out p) (by kernel_rfl) rfl (by rw [List.length_map, hb]; kernel_rfl) ?_
    simp only [Act.put, List.setIfInBounds_toArray, List.set_cons_succ, List.set_cons_zero]
    go_big_quiet_step ((go_at_call 34; exact gro_call (Hab.out _)))
    go_big_quiet_step (fail)
    refine wpQuiet_load_midg (by kernel_rfl) 24 (.tmp 4) rfl (w.heap.size + 1) 0 rfl (b.map bv) (.array 32 5) (by rintro _ ⟨p, rfl⟩; exact rb.out p) (by kernel_rfl) rfl (by rw [List.length_map, hb]; kernel_rfl) ?_
    simp only [Act.put, List.setIfInBounds_toArray, List.set_cons_succ, List.set_cons_zero]
    refine wpQuiet_load_midg (by kernel_rfl) 24 (.tmp 3) rfl w.heap.size 0 rfl (a.map bv) (.array 32 5) (by rintro _ ⟨p, rfl⟩; exact ra.out p) (by kernel_rfl) rfl (by rw [List.length_map, ha]; kernel_rfl) ?_
    simp only [Act.put, List.setIfInBounds_toArray, List.set_cons_succ, List.set_cons_zero]
    go_big_quiet_step ((go_at_call 34; exact gro_call (Hba.out _)))
    go_big_quiet_step (fail)
    go_big_quiet_step (fail)
    go_big_quiet_step (fail)
    refine wpQuiet_nil ?_
    rintro _ ⟨p, rfl⟩
    have hA4 := gro_heap hA p
    have hB4 := gro_heap hB p
    have hb4 := hbw.trans ((below_gro w3 p).mono hbw.size)
    generalize gro w3 p = w4 at *
    clear hA hB hC hbw ra rb
    have hee : (!eq != !eq) = false := by cases eq <;> rfl
    go_wp2_with (first
      | (refine wpList_load_row rfl 24 (.tmp 3) rfl w.heap.size rfl 24 _ (0, 0) (.array 32 5) hA4 (by kernel_rfl) rfl (id_info a ha) ?_)
      | (refine wpList_load_row rfl 24 (.tmp 4) rfl (w.heap.size + 1) rfl 24 _ (0, 0) (.array 32 5) hB4 (by kernel_rfl) rfl (id_info b hb) ?_))
    refine (Hab.out w4).mono ?_
    rintro e w5 ⟨rfl, hb5⟩
    have hb5' := hb4.trans (hb5.mono hb4.size)
    dsimp only
    go_wp2_with fail
    go_ret
    exact ⟨ret_val rfl, hb5'⟩
end Go.Proofs.Ytcfkapoppmpehaa

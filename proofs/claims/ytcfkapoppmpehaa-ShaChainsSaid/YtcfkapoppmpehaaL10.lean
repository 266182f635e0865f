/-
  ShaChains: the digest of bytes is what comes of the blocks of Pad from Start on: the walk.
-/
import Derived.Test.YtcfkapoppmpehaaRfill
import Derived.Test.YtcfkapoppmpehaaRblk
namespace Go.Proofs.Ytcfkapoppmpehaa
open Go.RowKit

/-- The bytes of a digest are its words'. -/
theorem word_digest (σ : St) (i : Nat) (h : i < 8) : word4 ((digestB σ).getD (4 * i) 0) ((digestB σ).getD (4 * i + 1) 0) ((digestB σ).getD (4 * i + 2) 0) ((digestB σ).getD (4 * i + 3) 0) = σ.get i := by
  have hd : ∀ j, j < 32 → (digestB σ).getD j 0 = dByte σ j := fun j hj => by simp [digestB, hj]
  rw [hd _ (by omega), hd _ (by omega), hd _ (by omega), hd _ (by omega)]
  unfold word4 dByte
  rw [show 4 * i / 4 = i by omega, show (4 * i + 1) / 4 = i by omega, show (4 * i + 2) / 4 = i by omega, show (4 * i + 3) / 4 = i by omega]
  rw [show 4 * i % 4 = 0 by omega, show (4 * i + 1) % 4 = 1 by omega, show (4 * i + 2) % 4 = 2 by omega, show (4 * i + 3) % 4 = 3 by omega]
  simp only [UInt8.toNat_ofNat']
  apply BitVec.eq_of_toNat_eq
  rw [BitVec.toNat_ofNat]
  have := (σ.get i).isLt
  generalize (σ.get i).toNat = x at *
  omega
theorem pad_prefix (bs : List UInt8) : (padL bs).take bs.length = bs := by
  unfold padL
  rw [List.append_assoc, List.take_left']
  rfl

set_option maxHeartbeats 400000 in
theorem prefix_any (v u : Value) (xs ys : List UInt8) (h : ys.length ≤ xs.length) (hp : xs.take ys.length = ys) (_ : xs.length ≤ 100000) (w : World) (hv : RdB w v xs) (hu : RdB w u ys) :
    Calls Try.prog 48 #[v, u] w fun e w' => e = .returned (.bool true) ∧ w = w' := by
  have hv0 := hv
  have hu0 := hu
  obtain ⟨a, c, rfl, hc, _⟩ := hv
  obtain ⟨b, c2, rfl, hc2, _⟩ := hu
  have hrd := hv0.take ys.length h
  rw [hp] at hrd
  have HB := Lib.hid (beq_any _ _ ys ys w hrd hu0)
  have hg : decide ((ys.length : Int) ≤ (xs.length : Int)) = true := decide_eq_true (by omega)
  have h1 : (ys.length : Int) ≤ (c : Int) := by omega
  clear hp
  go_enter Try.func48, Try.ntmps48
  go_wp2_with fail
  refine HB.out.mono ?_
  rintro e w' ⟨rfl, rfl⟩
  dsimp only
  go_wp2_with fail
  go_ret
  exact ⟨ret_val (by simp), rfl⟩

set_option maxRecDepth 100000 in
set_option maxHeartbeats 2000000 in
theorem shaChains_any (v : Value) (bs0 : List UInt8) (w : World) (hv : RdB w v bs0) :
    Calls Try.prog 10 #[v] w fun e w' => e = .returned (.bool true) ∧ Below w.heap.size w w' := by
  have Hrow := Lib.hid (fun w h => row_any v bs0 w h)
  have hl7 : (bs0.take 700).length ≤ 700 := by rw [List.length_take]; omega
  generalize bs0.take 700 = bs at *
  have Hsum := Lib.hid (fun v w h => sum_any v bs (by omega) w h)
  have Hpad := Lib.hid (fun v w h => pad_any v bs (by omega) w h)
  have hpl := padL_length bs
  have hfl := fillN_lt bs.length
  have hmod := padL_mod bs
  have hpre := pad_prefix bs
  have hI := shaB_length bs
  have hsh : shaB bs = digestB (hashTo (padL bs) ((padL bs).length / 64)) := rfl
  have hw1 : (((padL bs).length : Int) % 64 != 0) = false := by
    have : ((padL bs).length : Int) % 64 = 0 := by omega
    rw [this]; rfl
  have hw2 : decide (((padL bs).length : Int) < (bs.length : Int) + 9) = false := decide_eq_false (by omega)
  have hw3 : decide ((bs.length : Int) + 72 < ((padL bs).length : Int)) = false := decide_eq_false (by omega)
  have hle : (padL bs).length ≤ 1000 := by omega
  have hge : bs.length ≤ (padL bs).length := by omega
  generalize padL bs = all at *
  generalize shaB bs = id at *
  have Hsh := Lib.hid hsh
  have Hpre := Lib.hid hpre
  have Hmod := Lib.hid hmod
  clear hsh hpre hmod hpl hfl
  go_enter Try.func10, Try.ntmps10
  go_wp2_with fail
  refine (wakes03 w).mono ?_
  rintro e w1 ⟨rfl, hb1⟩
  have hv1 := hv.mono hb1
  dsimp only
  go_wp2_with fail
  refine (Hrow.out w1 hv1).mono ?_
  rintro e w2 ⟨v2, rfl, hr2, hb2⟩
  have hbw2 := hb1.trans (hb2.mono hb1.size)
  have hr2' := hr2
  obtain ⟨a2, c2, rfl, _⟩ := hr2'
  dsimp only
  go_wp2_with fail
  refine (Hpad.out _ w2 hr2).mono ?_
  rintro e w3 ⟨v4, rfl, ⟨H, rfl, hH, hP3⟩, hb3⟩
  have hr3 := hr2.mono hb3
  have hbw3 := hbw2.trans (hb3.mono hbw2.size)
  have hHw : w.heap.size ≤ H := Nat.le_trans hbw2.size hH
  have hP3r : RdB w3 (.slice (some ⟨H, 0, none⟩) all.length all.length) all := NewB.rd (w := w2) ⟨H, rfl, hH, hP3⟩
  clear hv hv1 hb1 hb2 hb3 hbw2 hr2
  dsimp only
  go_wp2_with fail
  refine (prefix_any _ _ all bs hge Hpre.out (by omega) w3 hP3r hr3).mono ?_
  rintro e w' ⟨rfl, rfl⟩
  dsimp only
  go_wp2_with fail
  refine (start_any w3).mono ?_
  rintro e w4 ⟨rfl, hb4⟩
  have hr4 := hr3.mono hb4
  have hP4 := (hb4.block _ (Array.getElem?_eq_some_iff.1 hP3).1).trans hP3
  have hbw4 := hbw3.trans (hb4.mono hbw3.size)
  have hH4 := (Array.getElem?_eq_some_iff.1 hP4).1
  clear hr3 hP3 hP3r hb4 hbw3 hw1 hw2 hw3
  dsimp only
  have hR5 : (w4.alloc (Obj.cells (startS.list.map wv).toArray 65)).heap[w4.heap.size]? = some (.cells (startS.list.map wv).toArray 65 (0, 0)) := heap_alloc_new w4 _
  have hb45 : Below w4.heap.size w4 (w4.alloc (Obj.cells (startS.list.map wv).toArray 65)) := (Below.refl _ _).alloc (Nat.le_refl _) _
  have hP5 := (hb45.block _ hH4).trans hP4
  have hr5 := hr4.mono hb45
  have hbw5 := hbw4.trans (hb45.mono hbw4.size)
  go_wp2_with (refine wpList_store_new rfl 65 (.tmp 5) (.tmp 42) rfl _ _ (startS.list.map wv).toArray rfl rfl (st_info _) (by kernel_rfl) (st_one _) ?_)
  generalize w4.alloc (Obj.cells (startS.list.map wv).toArray 65) = w5 at *
  have hRw : w.heap.size ≤ w4.heap.size := hbw4.size
  have hr5' := hr5
  have hR4 : w4.heap.size < w5.heap.size := (Array.getElem?_eq_some_iff.1 hR5).1
  have hr4s := hr4
  replace hr4 := Lib.hid hr4
  have Hb45 := Lib.hid hb45
  clear hb45 hr5 hr5' hr4s hP4 hbw4
  obtain ⟨R, hR⟩ : ∃ R, w4.heap.size = R := ⟨_, rfl⟩
  rw [hR] at hR5 hH4 hRw hR4 Hb45 ⊢
  have HR := Lib.hid hR
  clear hR
  go_loopw [6] (fun i wr => ∃ k : Nat, 64 * k ≤ all.length ∧ i = .int .i64 ((64 * k : Nat) : Int) ∧ Below R w5 wr ∧ wr.heap[R]? = some (.cells ((hashTo all k).list.map wv).toArray 65 (0, 0)) ∧ wr.heap[H]? = some (.cells (all.map bv).toArray 5 (0, 0))) (fun i _ => all.length - (intOf i).toNat)
  case atStart => exact ⟨0, by omega, rfl, Below.refl _ _, hR5, hP5⟩
  case round =>
    clear hR5 hP5
    obtain ⟨k, hk, rfl, hb, hRr, hA⟩ := hrel
    have hmod := Hmod.out
    by_cases hlt : 64 * k < all.length
    · have hge : 64 * k + 64 ≤ all.length := by omega
      have hg : decide (((64 * k : Nat) : Int) < (all.length : Int)) = true := decide_eq_true (by omega)
      have hcl : ((all.drop (64 * k)).take 64).length = 64 := by simp; omega
      have hrg : ∀ p, (gro wr p).rangeAt H (64 * k) (((all.drop (64 * k)).take 64).map bv) := fun p => by
        have h := rangeAt_row (gro_heap hA p) (64 * k) 64
        rwa [← List.map_drop, ← List.map_take] at h
      have Hst := Lib.hid (show hashTo all (k + 1) = blockS (hashTo all k) ((all.drop (64 * k)).take 64) from rfl)
      have hblk := fun w => block_any (hashTo all k) _ hcl w
      rw [← Hst.out] at hblk
      generalize (all.drop (64 * k)).take 64 = ch at *
      generalize hashTo all k = σ at *
      generalize hτ : hashTo all (k + 1) = τ at *
      have Hτ := Lib.hid hτ
      clear hτ Hst
      have Hblk := Lib.hid hblk
      clear hblk
      have rS : ∀ p, (gro wr p).rangeAt R 0 (σ.list.map wv) := fun p => rangeAt_row (gro_heap hRr p) 0 8
      replace rS := Lib.hid rS
      have Hrg := Lib.hid hrg
      clear hrg
      have h1 : ((64 * k : Nat) : Int) + 64 ≤ (all.length : Int) := by omega
      have Hk1 := Lib.hid (show 64 * k + 64 - 64 * k = 64 by omega)
      have harr := fun w => run_arrayAt (P := Try.prog) w 68 64 5 (by kernel_rfl) (some ⟨H, 64 * k, none⟩) 64 (all.length - 64 * k) (Nat.le_refl _)
      have Hnx := Lib.hid (show ((64 * k : Nat) : Int) + 64 = ((64 * (k + 1) : Nat) : Int) by omega)
      have Hcl := Lib.hid hcl
      clear hcl
      generalize hm : 64 * k = m at *
      have Hm := Lib.hid hm
      clear hm hmod
      go_wp2_with fail
      refine wp_region_qgrot 9 (by kernel_rfl) (by kernel_rfl) ?_
      simp only [List.take_succ_cons, List.take_zero, List.drop_succ_cons, List.drop_zero]
      refine wpQuiet_load_mid rfl 65 (.tmp 5) rfl R 0 rfl (σ.list.map wv) (.array 8 64) (by rintro _ ⟨p, rfl⟩; exact rS.out p) (by kernel_rfl) rfl (by kernel_rfl) ?_
      simp only [Act.put, List.setIfInBounds_toArray, List.set_cons_succ, List.set_cons_zero]
      iterate 5 go_big_quiet_step (fail)
      rw [Hk1.out]
      go_big_quiet_step (fail)
      refine wpQuiet_load_mid rfl 68 (.tmp 55) rfl H m rfl (ch.map bv) (.array 64 5) (by rintro _ ⟨p, rfl⟩; exact Hrg.out p) (by kernel_rfl) rfl (by rw [List.length_map, Hcl.out]; kernel_rfl) ?_
      simp only [Act.put, List.setIfInBounds_toArray, List.set_cons_succ, List.set_cons_zero]
      go_big_quiet_step ((go_at_call 50; exact gro_call (Hblk.out _)))
      refine wpQuiet_nil ?_
      rintro _ ⟨p, rfl⟩
      go_wp2_with (refine wpList_store_row rfl 65 (.tmp 5) (.tmp 57) rfl R 65 _ (τ.list.map wv).toArray rfl rfl (gro_heap hRr p) (st_info τ) ((st_size σ).trans (st_size τ).symm) (st_one τ) ?_)
      go_roundw
      case rel =>
        refine ⟨k + 1, by have := Hm.out; omega, by rw [Hnx.out], below_setRow' (hb.trans ((below_gro wr p).mono (by have := (Array.getElem?_eq_some_iff.1 hRr).1; omega))) (Nat.le_refl _) _, ?_, ?_⟩
        · rw [Hτ.out]; exact setRow_heap _ _ _ _ _ _ (gro_heap hRr p)
        · rw [setRow_other _ _ _ _ (by omega)]; exact gro_heap hA p
      case measure => simp [intOf]; omega
    · have hke : all.length / 64 = k := by omega
      have hg : decide (((64 * k : Nat) : Int) < (all.length : Int)) = false := decide_eq_false (by omega)
      have hsh := Hsh.out
      rw [hke] at hsh
      generalize hashTo all k = σ at *
      have Hsh2 := Lib.hid hsh
      have hbr : Below R w4 wr := Hb45.out.trans hb
      have hrr : RdB wr (.slice a2 bs.length c2) bs := hr4.out.mono (by rw [HR.out]; exact hbr)
      have hbwr := hbw5.trans (hb.mono hRw)
      generalize 64 * k = m at *
      clear hsh hke Hsh hmod hA hb hbr
      go_wp2_with fail
      refine (Hsum.out _ wr hrr).mono ?_
      rintro e w6 ⟨rfl, hb6⟩
      have hR6 := (hb6.block _ (Array.getElem?_eq_some_iff.1 hRr).1).trans hRr
      have hbw6 := hbwr.trans (hb6.mono hbwr.size)
      have hR7 := (Below.heap_alloc w6 (Obj.cells (id.map bv).toArray 24) _ (Array.getElem?_eq_some_iff.1 hR6).1).trans hR6
      have hD7 : (w6.alloc (Obj.cells (id.map bv).toArray 24)).heap[w6.heap.size]? = some (.cells (id.map bv).toArray 24 (0, 0)) := heap_alloc_new w6 _
      have hbw7 := hbw6.alloc hbw6.size (Obj.cells (id.map bv).toArray 24)
      clear hrr hbwr hb6 hbw6 hRr hR6
      dsimp only
      go_wp2_with (first
        | (refine wpList_store_new rfl 24 (.tmp 7) (.tmp 59) rfl _ _ (id.map bv).toArray rfl rfl (id_info id hI) (id_size id hI).symm (id_one id) ?_)
        | (refine wpList_load_row rfl 65 (.tmp 5) rfl R rfl 65 _ (0, 0) (.array 8 64) hR7 (by kernel_rfl) rfl (st_info σ) ?_))
      generalize w6.alloc (Obj.cells (id.map bv).toArray 24) = w7 at *
      generalize w6.heap.size = D at *
      go_loopw [61] (fun i wq => ∃ t : Nat, t ≤ 8 ∧ i = .int .i64 t ∧ Below w.heap.size w wq ∧ wq.heap[D]? = some (.cells (id.map bv).toArray 24 (0, 0))) (fun i _ => 8 - (intOf i).toNat)
      case atStart => exact ⟨0, by omega, rfl, hbw7, hD7⟩
      case round =>
        clear hbw7 hD7 hR7
        obtain ⟨t, ht, rfl, hb, hD⟩ := hrel
        by_cases hlt2 : t < 8
        · have hg2 : decide ((t : Int) < 8) = true := decide_eq_true (by omega)
          have hix := fun w => run_index65 w σ.list rfl t hlt2
          rw [list_get σ t hlt2] at hix
          have hwd := word_digest σ t hlt2
          rw [← Hsh2.out] at hwd
          have e0 := gro_cell (show wr.cell? ⟨D, 4 * t, none⟩ = some (bv (id.getD (4 * t) 0)) from by rw [cell_of_row _ _ _ _ _ _ hD, getb _ _ (by omega)])
          have e1 := gro_cell (show wr.cell? ⟨D, 4 * t + 1, none⟩ = some (bv (id.getD (4 * t + 1) 0)) from by rw [cell_of_row _ _ _ _ _ _ hD, getb _ _ (by omega)])
          have e2 := gro_cell (show wr.cell? ⟨D, 4 * t + 2, none⟩ = some (bv (id.getD (4 * t + 2) 0)) from by rw [cell_of_row _ _ _ _ _ _ hD, getb _ _ (by omega)])
          have e3 := gro_cell (show wr.cell? ⟨D, 4 * t + 3, none⟩ = some (bv (id.getD (4 * t + 3) 0)) from by rw [cell_of_row _ _ _ _ _ _ hD, getb _ _ (by omega)])
          generalize id.getD (4 * t) 0 = b0 at *
          generalize id.getD (4 * t + 1) 0 = b1 at *
          generalize id.getD (4 * t + 2) 0 = b2 at *
          generalize id.getD (4 * t + 3) 0 = b3 at *
          have hbits := word4_bits b0 b1 b2 b3
          rw [hwd] at hbits
          generalize σ.get t = x at *
          clear hwd
          have Hbits := Lib.hid hbits
          clear hbits
          go_wp2_with fail
          refine wp_region_qgro rfl (by kernel_rfl) ?_
          repeat (go_big_quiet_step (fail))
          refine wpQuiet_nil ?_
          rintro _ ⟨p, rfl⟩
          rw [Hbits.out]
          have hne : ((x.toNat : Int) != (x.toNat : Int)) = false := by simp
          rw [hne]
          go_wp2_with fail
          go_roundw
          case rel => exact ⟨t + 1, by omega, by go_num, hb.trans ((below_gro wr p).mono hb.size), gro_heap hD p⟩
          case measure => simp [intOf]; omega
        · obtain rfl : t = 8 := by omega
          go_wp2_with fail
          go_ret
          exact ⟨ret_val rfl, hb⟩
end Go.Proofs.Ytcfkapoppmpehaa

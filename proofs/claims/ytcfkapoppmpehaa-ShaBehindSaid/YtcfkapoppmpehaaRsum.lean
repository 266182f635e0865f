/-
  What calls of the definition's Sum and Digest give.
-/
import Derived.Test.YtcfkapoppmpehaaRfill
import Derived.Test.YtcfkapoppmpehaaRblk
namespace Go.Proofs.Ytcfkapoppmpehaa
open Go.RowKit

theorem dByte_pow (σ : St) (i : Nat) (_ : i < 32) : UInt8.ofNat ((σ.get (i / 4)).toNat / 256 ^ (4 - 1 - i % 4)) = dByte σ i := by
  unfold dByte
  have h : i % 4 = 0 ∨ i % 4 = 1 ∨ i % 4 = 2 ∨ i % 4 = 3 := by omega
  rcases h with h | h | h | h <;> rw [h] <;> rfl
theorem k69_info : (Try.prog.info? 69).map (·.size) = some (constL.map wv).length := by kernel_rfl

set_option maxRecDepth 100000 in
set_option maxHeartbeats 2000000 in
theorem rsum_any (v : Value) (bs : List UInt8) (hl : bs.length ≤ 10000) (w : World) (hv : RdB w v bs) :
    Calls Try.prog 88 #[v, wagg constL, wagg startS.list] w fun e w' => e = .returned (bagg (shaB bs)) ∧ Below w.heap.size w w' := by
  have hkl : constL.length = 64 := rfl
  obtain ⟨ks, hks⟩ : ∃ ks, ks = constL := ⟨_, rfl⟩
  rw [← hks] at hkl ⊢
  have hki := k69_info
  rw [← hks] at hki
  have Hks := Lib.hid hks
  clear hks
  go_enter Try.func88, Try.ntmps88
  go_upto_region 1 with fail
  obtain ⟨w2, hw2, hbl, hb2, hs2⟩ := allocs_named w [.cells (ks.map wv).toArray 69, .cells (startS.list.map wv).toArray 65, .cells zero24 24]
  change Code.wp _ _ _ _ (List.foldl World.alloc w [.cells (ks.map wv).toArray 69, .cells (startS.list.map wv).toArray 65, .cells zero24 24])
  rw [hw2]
  have hK : w2.heap[w.heap.size]? = some (.cells (ks.map wv).toArray 69 (0, 0)) := hbl 0
  have hS : w2.heap[w.heap.size + 1]? = some (.cells (startS.list.map wv).toArray 65 (0, 0)) := hbl 1
  have hZ : w2.heap[w.heap.size + 1 + 1]? = some (.cells zero24 24 (0, 0)) := hbl 2
  have hsz : w2.heap.size = w.heap.size + 3 := by simpa using hs2
  have Hsz := Lib.hid hsz
  clear hbl hw2 hs2 hsz
  have hv2 := hv.mono hb2
  clear hv
  go_wp2_with fail
  refine (fill_any v bs hl w2 hv2).mono ?_
  rintro e w3 ⟨v', rfl, ⟨H, rfl, hH, hA⟩, hb3⟩
  have hHB : w.heap.size + 3 ≤ H := by rw [← Hsz.out]; exact hH
  replace hK := (hb3.block _ (Array.getElem?_eq_some_iff.1 hK).1).trans hK
  replace hS := (hb3.block _ (Array.getElem?_eq_some_iff.1 hS).1).trans hS
  replace hZ := (hb3.block _ (Array.getElem?_eq_some_iff.1 hZ).1).trans hZ
  have hb := hb2.trans (hb3.mono hb2.size)
  clear hb2 hb3 hH hv2 Hsz
  have hmod := padL_mod bs
  have hpl := padL_length bs
  have hfl := fillN_lt bs.length
  have hle : (padL bs).length ≤ 20000 := by omega
  generalize hall : padL bs = all at *
  have Hall := Lib.hid hall
  clear hall hpl hfl
  dsimp only
  go_wp2_with fail
  go_loopw [8] (fun i wr => ∃ k : Nat, 64 * k ≤ all.length ∧ i = .int .i64 ((64 * k : Nat) : Int) ∧ Below w.heap.size w wr ∧ wr.heap[w.heap.size]? = some (.cells (ks.map wv).toArray 69 (0, 0)) ∧
      wr.heap[w.heap.size + 1]? = some (.cells ((hashTo all k).list.map wv).toArray 65 (0, 0)) ∧ wr.heap[w.heap.size + 1 + 1]? = some (.cells zero24 24 (0, 0)) ∧ wr.heap[H]? = some (.cells (all.map bv).toArray 5 (0, 0))) (fun i _ => all.length - (intOf i).toNat)
  case atStart => exact ⟨0, by omega, rfl, hb, hK, hS, hZ, hA⟩
  case round =>
    clear hb hK hS hZ hA
    obtain ⟨k, hk, rfl, hb, hK, hS, hZ, hA⟩ := hrel
    by_cases hlt : 64 * k < all.length
    · have hge : 64 * k + 64 ≤ all.length := by omega
      have hg : decide (((64 * k : Nat) : Int) < (all.length : Int)) = true := decide_eq_true (by omega)
      have hrd : RdB wr (.slice (some ⟨H, 0, none⟩) all.length all.length) all := ⟨_, _, rfl, Nat.le_refl _, fun _ => ⟨H, 0, rfl, fun j hj => by rw [cell_of_row _ _ _ _ _ _ hA, Nat.zero_add, getb _ _ hj]⟩⟩
      have hpc := hrd.piece (64 * k) 64 (all.length - 64 * k) hge (by omega)
      rw [Nat.zero_add] at hpc
      have hcl : ((all.drop (64 * k)).take 64).length = 64 := by simp; omega
      have Hst := Lib.hid (show hashTo all (k + 1) = blockS (hashTo all k) ((all.drop (64 * k)).take 64) from rfl)
      have hblk := fun p : Gp => rblock_any (hashTo all k) _ _ ks hcl hkl (gro wr p) (hpc.mono (below_gro wr p))
      rw [Hks.out, refBlock_eq] at hblk
      rw [← Hks.out, ← Hst.out] at hblk
      generalize (all.drop (64 * k)).take 64 = ch at *
      generalize hashTo all k = σ at *
      generalize hτ : hashTo all (k + 1) = τ at *
      have Hτ := Lib.hid hτ
      clear hτ Hst hrd hpc
      have Hblk := Lib.hid hblk
      clear hblk
      have rS : ∀ p, (gro wr p).rangeAt (w.heap.size + 1) 0 (σ.list.map wv) := fun p => rangeAt_row (gro_heap hS p) 0 8
      have rK : ∀ p, (gro wr p).rangeAt w.heap.size 0 (ks.map wv) := fun p => by
        have := rangeAt_row (gro_heap hK p) 0 64
        simpa [hkl, List.take_of_length_le] using this
      replace rS := Lib.hid rS
      replace rK := Lib.hid rK
      have h1 : ((64 * k : Nat) : Int) + 64 ≤ (all.length : Int) := by omega
      have Hk1 := Lib.hid (show 64 * k + 64 - 64 * k = 64 by omega)
      have Hnx := Lib.hid (show ((64 * k : Nat) : Int) + 64 = ((64 * (k + 1) : Nat) : Int) by omega)
      generalize hm : 64 * k = m at *
      have Hm := Lib.hid hm
      clear hm
      go_wp2_with fail
      refine wp_region_qgrot 8 (by kernel_rfl) (by kernel_rfl) ?_
      simp only [List.take_succ_cons, List.take_zero, List.drop_succ_cons, List.drop_zero]
      refine wpQuiet_load_mid rfl 65 (.tmp 5) rfl (w.heap.size + 1) 0 rfl (σ.list.map wv) (.array 8 64) (by rintro _ ⟨p, rfl⟩; exact rS.out p) (by kernel_rfl) rfl (by kernel_rfl) ?_
      simp only [Act.put, List.setIfInBounds_toArray, List.set_cons_succ, List.set_cons_zero]
      iterate 5 go_big_quiet_step (fail)
      rw [Hk1.out]
      refine wpQuiet_load_mid rfl 69 (.tmp 4) rfl w.heap.size 0 rfl (ks.map wv) (.array 64 64) (by rintro _ ⟨p, rfl⟩; exact rK.out p) (by kernel_rfl) rfl hki ?_
      simp only [Act.put, List.setIfInBounds_toArray, List.set_cons_succ, List.set_cons_zero]
      go_big_quiet_step ((go_at_call 56; exact gro_call (Hblk.out _)))
      refine wpQuiet_nil ?_
      rintro _ ⟨p, rfl⟩
      go_wp2_with (refine wpList_store_row rfl 65 (.tmp 5) (.tmp 26) rfl (w.heap.size + 1) 65 _ (τ.list.map wv).toArray rfl rfl (gro_heap hS p) (st_info τ) ((st_size σ).trans (st_size τ).symm) (st_one τ) ?_)
      go_roundw
      case rel =>
        refine ⟨k + 1, by have := Hm.out; omega, by rw [Hnx.out], below_setRow' (hb.trans ((below_gro wr p).mono hb.size)) (by omega) _, ?_, ?_, ?_, ?_⟩
        · rw [setRow_other _ _ _ _ (by omega)]; exact gro_heap hK p
        · rw [Hτ.out]; exact setRow_heap _ _ _ _ _ _ (gro_heap hS p)
        · rw [setRow_other _ _ _ _ (by omega)]; exact gro_heap hZ p
        · rw [setRow_other _ _ _ _ (by omega)]; exact gro_heap hA p
      case measure => simp [intOf]; omega
    · have hke : all.length / 64 = k := by omega
      have hg : decide (((64 * k : Nat) : Int) < (all.length : Int)) = false := decide_eq_false (by omega)
      generalize hσ : hashTo all k = σ at *
      have Hσ : Hid (shaB bs = digestB σ) := Lib.hid (by unfold shaB; rw [Hall.out, hke, hσ])
      clear hσ hke hmod Hall hK hA
      generalize 64 * k = m at *
      go_wp2_with fail
      obtain ⟨D, hD⟩ : ∃ D, D = wr.heap.size := ⟨_, rfl⟩
      rw [← hD]
      have h5 : (wr.alloc (Obj.cells zero24 24)).heap[D]? = some (.cells ((outTo σ 0).map bv).toArray 24 (0, 0)) := by rw [hD]; exact heap_alloc_new wr _
      have hS2 := (Below.heap_alloc wr (Obj.cells zero24 24) _ (Array.getElem?_eq_some_iff.1 hS).1).trans hS
      have hZ2 := (Below.heap_alloc wr (Obj.cells zero24 24) _ (Array.getElem?_eq_some_iff.1 hZ).1).trans hZ
      have hb5 := hb.alloc hb.size (Obj.cells zero24 24)
      have hDw : w.heap.size + 2 < D := by rw [hD]; have := (Array.getElem?_eq_some_iff.1 hZ).1; omega
      clear hb hS hZ hD
      go_loopw [27] (fun i w1 => ∃ n : Nat, n ≤ 32 ∧ i = .int .i64 n ∧ Below w.heap.size w w1 ∧ w1.heap[w.heap.size + 1]? = some (.cells (σ.list.map wv).toArray 65 (0, 0)) ∧ w1.heap[w.heap.size + 1 + 1]? = some (.cells zero24 24 (0, 0)) ∧ w1.heap[D]? = some (.cells ((outTo σ n).map bv).toArray 24 (0, 0))) (fun i _ => 32 - (intOf i).toNat)
      case atStart => exact ⟨0, by omega, rfl, hb5, hS2, hZ2, h5⟩
      case round =>
        clear hb5 hS2 hZ2 h5
        obtain ⟨n, hn, rfl, hb, hS, hZ, h5⟩ := hrel
        by_cases hlt : n < 32
        · have hg : decide ((n : Int) < 32) = true := decide_eq_true (by omega)
          have es := st_cell hS (n / 4) (by omega)
          have eo : wr.cell? ⟨D, n, none⟩ = some (bv ((outTo σ n).getD n 0)) := by
            rw [cell_of_row _ _ _ _ _ _ h5, getb _ _ (by rw [outTo_length]; exact hlt)]
          have fo : wr.frozen? ⟨D, n, none⟩ = false := frozen_of_row _ _ _ _ _ h5
          have Hst := Lib.hid (outTo_step σ n hlt)
          have HB := Lib.hid (byte_any (σ.get (n / 4)).toNat (by have := (σ.get (n / 4)).isLt; omega) 4 (n % 4) (by omega) (by omega) wr)
          rw [dByte_pow σ n hlt] at HB
          generalize dByte σ n = y at *
          generalize (outTo σ n).getD n 0 = y0 at *
          generalize σ.get (n / 4) = x at *
          have hx := x.isLt
          go_wp2_with fail
          rw [show ((n : Int) % 4) = ((n % 4 : Nat) : Int) from by omega]
          refine HB.out.mono ?_
          rintro e w' ⟨rfl, rfl⟩
          go_wp2_with fail
          go_roundw
          case rel =>
            refine ⟨n + 1, by omega, by go_num, hb.setCell (by show _ ≤ D; omega) _, ?_, ?_, ?_⟩
            · rw [heap_setCell_other _ _ _ _ (by show w.heap.size + 1 ≠ D; omega)]; exact hS
            · rw [heap_setCell_other _ _ _ _ (by show w.heap.size + 1 + 1 ≠ D; omega)]; exact hZ
            · rw [← Hst.out, ← setLb]; exact heap_setCell_same wr D n _ _ _ h5
          case measure => simp [intOf]; omega
        · obtain rfl : n = 32 := by omega
          go_wp2_with (first
            | (refine wpList_load_row rfl 24 (.tmp 9) rfl D rfl 24 _ (0, 0) (.array 32 5) h5 (by kernel_rfl) rfl (id_info _ (outTo_length σ 32)) ?_)
            | (refine wpList_store_row rfl 24 (.tmp 6) (.tmp 41) rfl (w.heap.size + 1 + 1) 24 zero24 ((outTo σ 32).map bv).toArray rfl rfl hZ (id_info _ (outTo_length σ 32)) (id_size _ (outTo_length σ 32)).symm (id_one _) ?_))
          refine bodyPost_ret (results_cell_row (d := .array 32 5) rfl _ _ (w.heap.size + 1 + 1) 24 _ (0, 0) rfl (setRow_heap _ _ _ _ _ _ hZ) (by kernel_rfl) rfl (id_info _ (outTo_length σ 32))) rfl ⟨?_, below_setRow' hb (by omega) _⟩
          rw [Hσ.out, outTo_full]

set_option maxRecDepth 100000 in
set_option maxHeartbeats 400000 in
theorem written_any (w : World) : Calls Try.prog 52 #[] w fun e w' => e = .returned (wagg constL) ∧ Below w.heap.size w w' := by
  go_enter Try.func52, Try.ntmps52
  go_wp2_with (first
    | (refine wpList_build rfl 69 _ rfl (by kernel_rfl) ?_; rw [show (Option.getD (Try.prog.built 69 _) #[]) = (constL.map wv).toArray from by kernel_rfl])
    | (refine wpList_store_new rfl 69 (.tmp 0) (.tmp 1) rfl _ _ (constL.map wv).toArray rfl rfl size69 (by kernel_rfl) one69 ?_))
  exact bodyPost_ret (results_cell_row (d := .array 64 64) rfl _ _ w.heap.size 69 _ (0, 0) rfl (heap_alloc_new _ _) (by kernel_rfl) rfl size69) rfl ⟨rfl, (Below.refl _ _).alloc (Nat.le_refl _) _⟩

set_option maxRecDepth 100000 in
set_option maxHeartbeats 400000 in
theorem digest_any (v : Value) (bs : List UInt8) (hl : bs.length ≤ 10000) (w : World) (hv : RdB w v bs) :
    Calls Try.prog 46 #[v] w fun e w' => e = .returned (bagg (shaB bs)) ∧ Below w.heap.size w w' := by
  have hv1 := hv.mono ((Below.refl w.heap.size w).alloc (Nat.le_refl _) (Obj.cells zero24 24))
  have hI := shaB_length bs
  have HS := Lib.hid (fun w h => rsum_any v bs hl w h)
  generalize shaB bs = d at *
  clear hv
  go_enter Try.func46, Try.ntmps46
  go_wp2_with fail
  have hZ : (w.alloc (Obj.cells zero24 24)).heap[w.heap.size]? = some (.cells zero24 24 (0, 0)) := heap_alloc_new w _
  have hb1 : Below w.heap.size w (w.alloc (Obj.cells zero24 24)) := (Below.refl _ _).alloc (Nat.le_refl _) _
  generalize hw1 : w.alloc (Obj.cells zero24 24) = w1 at *
  change Calls _ _ _ (w.alloc (Obj.cells zero24 24)) _
  rw [hw1]
  clear hw1
  refine (written_any w1).mono ?_
  rintro e w2 ⟨rfl, hb2⟩
  have hv2 := hv1.mono hb2
  have hZ2 := (hb2.block _ (Array.getElem?_eq_some_iff.1 hZ).1).trans hZ
  have hb3 := hb1.trans (hb2.mono hb1.size)
  clear hv1 hb1 hb2 hZ
  dsimp only
  go_wp2_with (refine wpList_build rfl 65 _ rfl (by kernel_rfl) ?_; rw [show (Option.getD (Try.prog.built 65 _) #[]) = (startS.list.map wv).toArray from by kernel_rfl])
  refine (HS.out w2 hv2).mono ?_
  rintro e w4 ⟨rfl, hb4⟩
  have hZ4 := (hb4.block _ (Array.getElem?_eq_some_iff.1 hZ2).1).trans hZ2
  dsimp only
  go_wp2_with (refine wpList_store_row rfl 24 (.tmp 2) (.tmp 6) rfl w.heap.size 24 zero24 (d.map bv).toArray rfl rfl hZ4 (id_info d hI) (id_size d hI).symm (id_one d) ?_)
  refine bodyPost_ret (results_cell_row (d := .array 32 5) rfl _ _ w.heap.size 24 _ (0, 0) rfl (setRow_heap _ _ _ _ _ _ hZ4) (by kernel_rfl) rfl (id_info d hI)) rfl ⟨rfl, below_setRow' (hb3.trans (hb4.mono hb3.size)) (Nat.le_refl _) _⟩
end Go.Proofs.Ytcfkapoppmpehaa

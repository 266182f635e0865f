/-
  What a call of the definition's Block gives.
-/
import Derived.Test.YtcfkapoppmpehaaRwords
namespace Go.Proofs.Ytcfkapoppmpehaa
open Go.RowKit

theorem run_index69w (w : World) (l : List (BitVec 32)) (hl : l.length = 64) (i : Nat) (hi : i < 64) :
    (Instr.index 69 (.agg (l.map wv).toArray) (.int .i64 i)).run Try.prog w = .ok (wv (l.getD i 0#32)) w := run_index69 w l hl i hi
/-- The row of eight under the place numbers. -/
theorem st_cell {w : World} {R : Nat} {σ : St} (h : w.heap[R]? = some (.cells (σ.list.map wv).toArray 65 (0, 0))) (j : Nat) (hj : j < 8) : w.cell? ⟨R, j, none⟩ = some (wv (σ.get j)) := by
  rw [cell_of_row _ _ _ _ _ _ h, getw _ _ (show j < σ.list.length from hj), list_get σ j hj]
theorem rturn_z (x : BitVec 32) (z : Int) (n : Nat) (hz : z = n) (hn : n < 32) (w : World) :
    Calls Try.prog 96 #[wv x, .int .i64 z] w fun e w' => e = .returned (wv (wror x n)) ∧ Below w.heap.size w w' := by
  subst hz; exact rturn_any x n hn w
theorem rturn_i (x : BitVec 32) (z : Int) (h0 : 0 ≤ z) (h1 : z < 32) (w : World) :
    Calls Try.prog 96 #[wv x, .int .i64 z] w fun e w' => e = .returned (wv (wror x z.toNat)) ∧ Below w.heap.size w w' :=
  rturn_z x z z.toNat (by omega) (by omega) w
theorem st8 {w : World} {R : Nat} {a b c d e f g h : BitVec 32} (hr : w.heap[R]? = some (.cells ((St.mk a b c d e f g h).list.map wv).toArray 65 (0, 0))) :
    (∀ p, (gro w p).cell? ⟨R, 0, none⟩ = some (wv a)) ∧ (∀ p, (gro w p).cell? ⟨R, 1, none⟩ = some (wv b)) ∧ (∀ p, (gro w p).cell? ⟨R, 2, none⟩ = some (wv c)) ∧ (∀ p, (gro w p).cell? ⟨R, 3, none⟩ = some (wv d)) ∧ (∀ p, (gro w p).cell? ⟨R, 4, none⟩ = some (wv e)) ∧ (∀ p, (gro w p).cell? ⟨R, 5, none⟩ = some (wv f)) ∧ (∀ p, (gro w p).cell? ⟨R, 6, none⟩ = some (wv g)) ∧ (∀ p, (gro w p).cell? ⟨R, 7, none⟩ = some (wv h)) :=
  ⟨gro_cell (st_cell hr 0 (by omega)), gro_cell (st_cell hr 1 (by omega)), gro_cell (st_cell hr 2 (by omega)), gro_cell (st_cell hr 3 (by omega)), gro_cell (st_cell hr 4 (by omega)), gro_cell (st_cell hr 5 (by omega)), gro_cell (st_cell hr 6 (by omega)), gro_cell (st_cell hr 7 (by omega))⟩
theorem refRounds_next (ks ws : List (BitVec 32)) (s : St) (t : Nat) (σ : St) (h : refRounds ks ws s t = σ) (k x : BitVec 32) (hk : ks.getD t 0#32 = k) (hx : ws.getD t 0#32 = x) :
    refRounds ks ws s (t + 1) = ⟨refA σ k x, σ.a, σ.b, σ.c, wadd σ.d (refS σ k x), σ.e, σ.f, σ.g⟩ := by
  rw [refRounds, h, hk, hx, refA_eq, refS_eq]; rfl

set_option maxRecDepth 100000 in
set_option maxHeartbeats 2000000 in
theorem rblock_any (s : St) (v : Value) (bs : List UInt8) (ks : List (BitVec 32)) (hl : bs.length = 64) (hk : ks.length = 64) (w : World) (hv : RdB w v bs) :
    Calls Try.prog 56 #[wagg s.list, v, wagg ks] w fun e w' => e = .returned (wagg ((refRounds ks (wordsL bs 64) s 64).plus s).list) ∧ Below w.heap.size w w' := by
  go_enter Try.func56, Try.ntmps56
  go_upto_region 1 with fail
  obtain ⟨w2, hw2, hbl, hb2, hs2⟩ := allocs_named w [.cells (s.list.map wv).toArray 65, .cells (ks.map wv).toArray 69, .cells #[wv 0#32, wv 0#32, wv 0#32, wv 0#32, wv 0#32, wv 0#32, wv 0#32, wv 0#32] 65]
  change Code.wp _ _ _ _ (List.foldl World.alloc w [.cells (s.list.map wv).toArray 65, .cells (ks.map wv).toArray 69, .cells #[wv 0#32, wv 0#32, wv 0#32, wv 0#32, wv 0#32, wv 0#32, wv 0#32, wv 0#32] 65])
  rw [hw2]
  have hS : w2.heap[w.heap.size]? = some (.cells (s.list.map wv).toArray 65 (0, 0)) := hbl 0
  have hK : w2.heap[w.heap.size + 1]? = some (.cells (ks.map wv).toArray 69 (0, 0)) := hbl 1
  have hZ : w2.heap[w.heap.size + 1 + 1]? = some (.cells #[wv 0#32, wv 0#32, wv 0#32, wv 0#32, wv 0#32, wv 0#32, wv 0#32, wv 0#32] 65 (0, 0)) := hbl 2
  have hsz : w2.heap.size = w.heap.size + 3 := by simpa using hs2
  clear hbl hw2 hs2
  have hv2 := hv.mono hb2
  clear hv
  have hS' := (Below.heap_alloc w2 (Obj.cells (s.list.map wv).toArray 65) _ (Array.getElem?_eq_some_iff.1 hS).1).trans hS
  have hK' := (Below.heap_alloc w2 (Obj.cells (s.list.map wv).toArray 65) _ (Array.getElem?_eq_some_iff.1 hK).1).trans hK
  have hZ' := (Below.heap_alloc w2 (Obj.cells (s.list.map wv).toArray 65) _ (Array.getElem?_eq_some_iff.1 hZ).1).trans hZ
  have hb3 := hb2.alloc hb2.size (Obj.cells (s.list.map wv).toArray 65)
  have hv3 := hv2.mono ((Below.refl w2.heap.size w2).alloc (Nat.le_refl _) (Obj.cells (s.list.map wv).toArray 65))
  have hR' : (w2.alloc (Obj.cells (s.list.map wv).toArray 65)).heap[w2.heap.size]? = some (.cells (s.list.map wv).toArray 65 (0, 0)) := heap_alloc_new w2 _
  have Hsz := Lib.hid hsz
  clear hsz
  go_wp2_with (first
    | (refine wpList_load_row rfl 65 (.tmp 3) rfl w.heap.size rfl 65 _ (0, 0) (.array 8 64) hS (by kernel_rfl) rfl (st_info s) ?_)
    | (refine wpList_store_new rfl 65 (.tmp 7) (.tmp 15) rfl _ _ (s.list.map wv).toArray rfl rfl (st_info s) (by kernel_rfl) (st_one s) ?_))
  generalize hw3 : w2.alloc (Obj.cells (s.list.map wv).toArray 65) = w3 at *
  clear hw3
  refine (words_any v bs hl w3 hv3).mono ?_
  rintro e w4 ⟨rfl, hb4⟩
  obtain ⟨R, hR⟩ : ∃ R, R = w2.heap.size := ⟨_, rfl⟩
  rw [← hR] at hR' ⊢
  have hRB : R = w.heap.size + 3 := by rw [hR]; exact Hsz.out
  replace hS := (hb4.block _ (Array.getElem?_eq_some_iff.1 hS').1).trans hS'
  replace hK := (hb4.block _ (Array.getElem?_eq_some_iff.1 hK').1).trans hK'
  replace hZ := (hb4.block _ (Array.getElem?_eq_some_iff.1 hZ').1).trans hZ'
  have hRr := (hb4.block _ (Array.getElem?_eq_some_iff.1 hR').1).trans hR'
  have hb5 := hb3.trans (hb4.mono hb3.size)
  have hne1 : w.heap.size < R := by omega
  have hne2 : w.heap.size + 1 < R := by omega
  have hne3 : w.heap.size + 1 + 1 < R := by omega
  clear hS' hK' hZ' hR' hb3 hb4 hv3 hR hRB Hsz hb2 hv2 w3 w2
  have hwl := wordsL_length bs 64
  generalize hws : wordsL bs 64 = ws at *
  have Hws := Lib.hid hws
  clear hws
  dsimp only
  go_wp2_with fail
  go_loopw [18] (fun i wr => ∃ t : Nat, t ≤ 64 ∧ i = .int .i64 t ∧ Below w.heap.size w wr ∧ wr.heap[w.heap.size]? = some (.cells (s.list.map wv).toArray 65 (0, 0)) ∧ wr.heap[w.heap.size + 1]? = some (.cells (ks.map wv).toArray 69 (0, 0)) ∧
      wr.heap[w.heap.size + 1 + 1]? = some (.cells #[wv 0#32, wv 0#32, wv 0#32, wv 0#32, wv 0#32, wv 0#32, wv 0#32, wv 0#32] 65 (0, 0)) ∧ wr.heap[R]? = some (.cells ((refRounds ks ws s t).list.map wv).toArray 65 (0, 0))) (fun i _ => 64 - (intOf i).toNat)
  case atStart => exact ⟨0, by omega, rfl, hb5, hS, hK, hZ, hRr⟩
  case round =>
    clear hb5 hS hK hZ hRr
    obtain ⟨t, ht, rfl, hb, hS, hK, hZ, hRr⟩ := hrel
    have hBs : w.heap.size ≤ wr.heap.size := by have := (Array.getElem?_eq_some_iff.1 hS).1; omega
    by_cases hlt : t < 64
    · have hix := fun w => run_index69w w ws hwl t hlt
      have ek := gro_cell (show wr.cell? ⟨w.heap.size + 1, t, none⟩ = some (wv (ks.getD t 0#32)) from by rw [cell_of_row _ _ _ _ _ _ hK, getw _ _ (by omega)])
      have hlt' : decide ((t : Int) < 64) = true := by simp; omega
      generalize hσ : refRounds ks ws s t = σ at *
      generalize hx : ws.getD t 0#32 = x at *
      generalize hy : ks.getD t 0#32 = y at *
      have Hst := refRounds_next ks ws s t σ hσ y x hy hx
      have Hy := Lib.hid hy
      clear hσ hx hy
      simp only [refA, refS, mixT] at Hst
      obtain ⟨a, b, c, d, e, f, g, h⟩ := σ
      dsimp only at Hst
      replace Hst := Lib.hid Hst
      obtain ⟨c0, c1, c2, c3, c4, c5, c6, c7⟩ := st8 hRr
      go_wp2_with fail
      refine wp_region_qgro rfl (by kernel_rfl) ?_
      repeat go_big_quiet_step (fail)
      refine wpQuiet_nil ?_
      rintro _ ⟨p, rfl⟩
      replace hS := gro_heap hS p
      replace hK := gro_heap hK p
      replace hZ := gro_heap hZ p
      replace hRr := gro_heap hRr p
      replace hb := hb.trans ((below_gro wr p).mono hb.size)
      replace hBs := Nat.le_trans hBs (gro_size wr p)
      clear c0 c1 c2 c3 c4 c5 c6 c7 ek
      generalize gro wr p = w6 at *
      obtain ⟨c0, c1, c2, c3, c4, c5, c6, c7⟩ := st8 hRr
      have ek := gro_cell (show w6.cell? ⟨w.heap.size + 1, t, none⟩ = some (wv y) from by rw [cell_of_row _ _ _ _ _ _ hK, getw _ _ (by omega), Hy.out])
      go_wp2_with fail
      refine wp_region_qgro rfl (by kernel_rfl) ?_
      repeat go_big_quiet_step (first | (go_at_call 97; exact gro_call (pick_any _ _ _ _)) | (go_at_call 96; exact gro_call (rturn_i _ _ (by decide) (by decide) _)))
      refine wpQuiet_nil ?_
      rintro _ ⟨p, rfl⟩
      replace hS := gro_heap hS p
      replace hK := gro_heap hK p
      replace hZ := gro_heap hZ p
      replace hRr := gro_heap hRr p
      replace hb := hb.trans ((below_gro w6 p).mono hb.size)
      replace hBs := Nat.le_trans hBs (gro_size w6 p)
      clear c0 c1 c2 c3 c4 c5 c6 c7 ek
      generalize gro w6 p = w7 at *
      obtain ⟨c0, c1, c2, c3, c4, c5, c6, c7⟩ := st8 hRr
      have ek := gro_cell (show w7.cell? ⟨w.heap.size + 1, t, none⟩ = some (wv y) from by rw [cell_of_row _ _ _ _ _ _ hK, getw _ _ (by omega), Hy.out])
      go_wp2_with fail
      refine wp_region_qgro rfl (by kernel_rfl) ?_
      repeat go_big_quiet_step (first | (go_at_call 98; exact gro_call (most_any _ _ _ _)) | (go_at_call 96; exact gro_call (rturn_i _ _ (by decide) (by decide) _)))
      refine wpQuiet_nil ?_
      rintro _ ⟨p, rfl⟩
      replace hS := gro_heap hS p
      replace hK := gro_heap hK p
      replace hZ := gro_heap hZ p
      replace hRr := gro_heap hRr p
      replace hb := hb.trans ((below_gro w7 p).mono hb.size)
      replace hBs := Nat.le_trans hBs (gro_size w7 p)
      clear c0 c1 c2 c3 c4 c5 c6 c7 ek
      generalize gro w7 p = w8 at *
      obtain ⟨c0, c1, c2, c3, c4, c5, c6, c7⟩ := st8 hRr
      have ek := gro_cell (show w8.cell? ⟨w.heap.size + 1, t, none⟩ = some (wv y) from by rw [cell_of_row _ _ _ _ _ _ hK, getw _ _ (by omega), Hy.out])
      have d0 := st_cell hRr 0 (by omega)
      have d1 := st_cell hRr 1 (by omega)
      have d2 := st_cell hRr 2 (by omega)
      have d3 := st_cell hRr 3 (by omega)
      have d4 := st_cell hRr 4 (by omega)
      have d5 := st_cell hRr 5 (by omega)
      have d6 := st_cell hRr 6 (by omega)
      have d7 := st_cell hRr 7 (by omega)
      simp only [St.get] at d0 d1 d2 d3 d4 d5 d6 d7
      clear c0 c1 c2 c3 c4 c5 c6 c7 ek hix
      replace Hst := Hst.out
      change refRounds ks ws s (t + 1) = St.mk (wadd (wadd (wadd (wadd (wadd (wadd h (wxor (wxor (wror e 6) (wror e 11)) (wror e 25))) (wPick e f g)) y) x) (wxor (wxor (wror a 2) (wror a 13)) (wror a 22))) (wMost a b c)) a b c (wadd d (wadd (wadd (wadd (wadd h (wxor (wxor (wror e 6) (wror e 11)) (wror e 25))) (wPick e f g)) y) x)) e f g at Hst
      generalize wadd (wadd (wadd (wadd (wadd (wadd h (wxor (wxor (wror e 6) (wror e 11)) (wror e 25))) (wPick e f g)) y) x) (wxor (wxor (wror a 2) (wror a 13)) (wror a 22))) (wMost a b c) = F at *
      generalize wadd (wadd (wadd (wadd h (wxor (wxor (wror e 6) (wror e 11)) (wror e 25))) (wPick e f g)) y) x = S at *
      replace Hst := Lib.hid Hst
      go_wp2_with (first
        | (refine wpList_build rfl 65 _ rfl (by kernel_rfl) ?_; rw [show (Option.getD (Try.prog.built 65 _) #[]) = ((St.mk F a b c (wadd d S) e f g).list.map wv).toArray from by kernel_rfl])
        | (refine wpList_store_row rfl 65 (.tmp 7) (.tmp 82) rfl R 65 _ ((St.mk F a b c (wadd d S) e f g).list.map wv).toArray rfl rfl hRr (st_info _) ((st_size _).trans (st_size _).symm) (st_one _) ?_))
      go_roundw
      case rel => exact ⟨t + 1, by omega, by go_num, below_setRow' hb (by omega) _, by rw [setRow_other _ _ _ _ (by omega)]; exact hS, by rw [setRow_other _ _ _ _ (by omega)]; exact hK, by rw [setRow_other _ _ _ _ (by omega)]; exact hZ, by rw [Hst.out]; exact setRow_heap _ _ _ _ _ _ hRr⟩
      case measure => simp [intOf]; omega
    · obtain rfl : t = 64 := by omega
      generalize hσ : refRounds ks ws s 64 = σ at *
      have Hσ := Lib.hid hσ
      clear hσ hwl
      go_wp2_with fail
      go_loopw [84] (fun i wr => ∃ t : Nat, t ≤ 8 ∧ i = .int .i64 t ∧ Below w.heap.size w wr ∧ wr.heap[w.heap.size]? = some (.cells (s.list.map wv).toArray 65 (0, 0)) ∧
          wr.heap[w.heap.size + 1 + 1]? = some (.cells #[wv 0#32, wv 0#32, wv 0#32, wv 0#32, wv 0#32, wv 0#32, wv 0#32, wv 0#32] 65 (0, 0)) ∧ wr.heap[R]? = some (.cells ((plusTo σ s t).map wv).toArray 65 (0, 0))) (fun i _ => 8 - (intOf i).toNat)
      case atStart => exact ⟨0, by omega, rfl, hb, hS, hZ, hRr⟩
      case round =>
        clear hb hS hK hZ hRr
        obtain ⟨t, ht, rfl, hb, hS, hZ, hRr⟩ := hrel
        by_cases hlt : t < 8
        · have hlt' : decide ((t : Int) < 8) = true := by simp; omega
          have e0 : wr.cell? ⟨w.heap.size, t, none⟩ = some (wv (s.get t)) := st_cell hS t hlt
          have e1 : wr.cell? ⟨R, t, none⟩ = some (wv (σ.get t)) := by
            rw [cell_of_row _ _ _ _ _ _ hRr, getw _ _ (by rw [plusTo_length]; exact hlt), plusTo_get _ _ _ hlt]
          have f0 := gro_free e1 (free_rowL hRr t)
          have g0 := gro_cell e0
          have g1 := gro_cell e1
          clear e0 e1
          go_wp2_with fail
          refine wp_region_qgrot 8 (by kernel_rfl) (by kernel_rfl) ?_
          simp only [List.take_succ_cons, List.take_zero, List.drop_succ_cons, List.drop_zero]
          repeat (go_big_quiet_step (fail))
          refine wpQuiet_nil ?_
          rintro _ ⟨p, rfl⟩
          go_wp2_with fail
          go_roundw
          case rel =>
            refine ⟨t + 1, by omega, by go_num, (hb.trans ((below_gro wr p).mono hb.size)).setCell (by show _ ≤ R; omega) _, ?_, ?_, ?_⟩
            · rw [heap_setCell_other _ _ _ _ (by show w.heap.size ≠ R; omega)]; exact gro_heap hS p
            · rw [heap_setCell_other _ _ _ _ (by show w.heap.size + 1 + 1 ≠ R; omega)]; exact gro_heap hZ p
            · have h := heap_setCell_same _ R t _ _ (wv (wadd (σ.get t) (s.get t))) (gro_heap hRr p)
              rw [setL, plusTo_step _ _ _ hlt] at h
              exact h
          case measure => simp [intOf]; omega
        · obtain rfl : t = 8 := by omega
          go_wp2_with (first
            | (refine wpList_load_row rfl 65 (.tmp 7) rfl R rfl 65 _ (0, 0) (.array 8 64) hRr (by kernel_rfl) rfl (by kernel_rfl) ?_)
            | (refine wpList_store_row rfl 65 (.tmp 6) (.tmp 96) rfl (w.heap.size + 1 + 1) 65 _ ((plusTo σ s 8).map wv).toArray rfl rfl hZ (by kernel_rfl) (by kernel_rfl) (by kernel_rfl) ?_))
          refine bodyPost_ret (results_cell_row (d := .array 8 64) rfl _ _ (w.heap.size + 1 + 1) 65 _ (0, 0) rfl (setRow_heap _ _ _ _ _ _ hZ) (by kernel_rfl) rfl (by kernel_rfl)) rfl ⟨?_, below_setRow' hb (by omega) _⟩
          rw [plusTo_full, Hws.out, Hσ.out]
end Go.Proofs.Ytcfkapoppmpehaa

/-
  ShaDigests: whatever bytes, filled up, and their digest: the walk.
-/
import Derived.Test.YtcfkapoppmpehaaRsum
import Derived.Test.YtcfkapoppmpehaaReg
namespace Go.Proofs.Ytcfkapoppmpehaa
open Go.RowKit

theorem inc_byte (y : UInt8) : ((y.toNat : Int) + 1) % 256 = ((y + 1).toNat : Int) := by
  rw [UInt8.toNat_add]; have : (1 : UInt8).toNat = 1 := rfl; omega
theorem Stays.rdB (bs : List UInt8) : Stays fun v w => RdB w v bs := fun _ _ _ hb h => h.mono hb

set_option maxRecDepth 100000 in
set_option maxHeartbeats 2000000 in
theorem shaDigests_any (v : Value) (bs0 : List UInt8) (w : World) (hv : RdB w v bs0) :
    Calls Try.prog 9 #[v] w fun e w' => e = .returned (.bool true) ∧ Below w.heap.size w w' := by
  have Hrow := Lib.hid (fun w h => row_any v bs0 w h)
  have hl7 : (bs0.take 700).length ≤ 700 := by rw [List.length_take]; omega
  generalize bs0.take 700 = bs at *
  have Hsum := Lib.hid (fun v w h => sum_any v bs (by omega) w h)
  have Hdig := Lib.hid (fun v w h => digest_any v bs (by omega) w h)
  have Hpad := Lib.hid (fun v w h => pad_any v bs (by omega) w h)
  have Hfill := Lib.hid (fun v w h => fill_any v bs (by omega) w h)
  have hI := shaB_length bs
  have hpl := padL_length bs
  have hfl := fillN_lt bs.length
  have hpl2 : (padL bs).length ≤ 1000 := by omega
  generalize shaB bs = d at *
  generalize padL bs = pl at *
  clear hpl hfl
  have hN := equal_id d d hI hI
  go_enter Try.func9, Try.ntmps9
  go_wp2_with fail
  refine (wakes03 w).mono ?_
  rintro e w1 ⟨rfl, hb1⟩
  have hv1 := hv.mono hb1
  dsimp only
  go_wp2_with fail
  refine (Hrow.out w1 hv1).mono ?_
  rintro e w2 ⟨v2, rfl, hr2, hb2⟩
  have hv2 := hv1.mono hb2
  have hbw2 := hb1.trans (hb2.mono hb1.size)
  dsimp only
  go_wp2_with fail
  refine (Hsum.out v2 w2 hr2).mono ?_
  rintro e w3 ⟨rfl, hb3⟩
  have hv3 := hv2.mono hb3
  have hr3 := hr2.mono hb3
  have hbw3 := hbw2.trans (hb3.mono hbw2.size)
  dsimp only
  go_wp2_with fail
  refine (Hpad.out v2 w3 hr3).mono ?_
  rintro e w4 ⟨v5, rfl, ⟨H, rfl, hH, hP4⟩, hb4⟩
  have hv4 := hv3.mono hb4
  have hr4 := hr3.mono hb4
  have hbw4 := hbw3.trans (hb4.mono hbw3.size)
  have hb34 := hb4
  have hvu0 := Lib.hid hv
  have hbw33 := hbw3.size
  clear hv hv1 hv2 hv3 hr2 hb1 hb2 hb3 hb4 hbw2
  dsimp only
  go_wp2_with (refine wpList_store_new rfl 24 (.tmp 4) (.tmp 12) rfl _ _ (d.map bv).toArray rfl rfl (id_info d hI) (id_size d hI).symm (id_one d) ?_)
  have hD5 : (w4.alloc (Obj.cells (d.map bv).toArray 24)).heap[w4.heap.size]? = some (.cells (d.map bv).toArray 24 (0, 0)) := heap_alloc_new w4 _
  have hb45 : Below w4.heap.size w4 (w4.alloc (Obj.cells (d.map bv).toArray 24)) := (Below.refl _ _).alloc (Nat.le_refl _) _
  have hv5 := hv4.mono hb45
  have hr5 := hr4.mono hb45
  have hP5 := (hb45.block _ (Array.getElem?_eq_some_iff.1 hP4).1).trans hP4
  have hbw5 := hbw4.trans (hb45.mono hbw4.size)
  have hb35 := hb34.trans (hb45.mono hb34.size)
  generalize w4.alloc (Obj.cells (d.map bv).toArray 24) = w5 at *
  have hD := Nat.le_trans hbw3.size hH
  have hDl := (Array.getElem?_eq_some_iff.1 hD5).1
  have hH3 : w3.heap.size ≤ H := hH
  clear hb45 hv4 hr4 hP4 hbw4 hbw3 hb34 hr5
  generalize w4.heap.size = D at *
  refine wp_region_rels 12 [fun v _ => v = bagg d, fun z _ => z = v, fun z u => RdB u z bs, fun z _ => z = bagg d, fun z _ => z = .bool false, fun z _ => z = .bool false,
    fun z _ => z = .slice (some ⟨H, 0, none⟩) pl.length pl.length, fun z _ => z = v, fun z u => RdB u z bs, fun z u => RdB u z pl, fun z _ => z = .bool true, fun z _ => z = .bool false] rfl (by kernel_rfl) rfl
    ⟨Stays.const _, Stays.const _, Stays.rdB _, Stays.const _, Stays.const _, Stays.const _, Stays.const _, Stays.const _, Stays.rdB _, Stays.rdB _, Stays.const _, Stays.const _, trivial⟩
    ⟨?s0, ?s1, ?s2, ?s3, ?s4, ?s5, ?s6, ?s7, ?s8, ?s9, ?s10, ?s11, trivial⟩ ?fin
  case s0 =>
    intro x u hu hd K hK
    simp only [depsR] at hd
    simp only [setAll, dstAt, List.getElem?_toArray, List.getElem?_cons_zero, List.getElem?_cons_succ, Option.bind_some, Act.put, List.setIfInBounds_toArray, List.set_cons_zero, List.set_cons_succ, rAt, List.getD_cons_zero] at hK ⊢
    have hDu := (hu.block _ hDl).trans hD5
    go_wp2_with (refine wpList_load_row rfl 24 (.tmp 4) rfl D rfl 24 _ (0, 0) (.array 32 5) hDu (by kernel_rfl) rfl (id_info d hI) ?_)
    exact hK _ _ rfl (Below.refl _ _)
  case s1 =>
    intro x u hu hd K hK
    simp only [depsR] at hd
    simp only [setAll, dstAt, List.getElem?_toArray, List.getElem?_cons_zero, List.getElem?_cons_succ, Option.bind_some, Act.put, List.setIfInBounds_toArray, List.set_cons_zero, List.set_cons_succ, rAt, List.getD_cons_zero, List.getD_cons_succ] at hK ⊢
    go_wp2_with fail
    exact hK _ _ rfl (Below.refl _ _)
  case s2 =>
    intro x u hu hd K hK
    simp only [depsR, rAt, List.getD_cons_zero, List.getD_cons_succ, Region.binds, forall_const, and_true] at hd
    simp only [setAll, dstAt, List.getElem?_toArray, List.getElem?_cons_zero, List.getElem?_cons_succ, Option.bind_some, Act.put, List.setIfInBounds_toArray, List.set_cons_zero, List.set_cons_succ, rAt, List.getD_cons_zero, List.getD_cons_succ] at hK ⊢
    simp only [hd] at hK ⊢
    go_wp2_with fail
    refine (Hrow.out u (hv5.mono hu)).mono ?_
    rintro e u2 ⟨z, rfl, hz, hbz⟩
    dsimp only
    go_wp2_with fail
    exact hK _ _ hz hbz
  case s3 =>
    intro x u hu hd K hK
    simp only [depsR, rAt, List.getD_cons_zero, List.getD_cons_succ, Region.binds, forall_const, and_true] at hd
    simp only [setAll, dstAt, List.getElem?_toArray, List.getElem?_cons_zero, List.getElem?_cons_succ, Option.bind_some, Act.put, List.setIfInBounds_toArray, List.set_cons_zero, List.set_cons_succ, rAt, List.getD_cons_zero, List.getD_cons_succ] at hK ⊢
    replace hd := Lib.hid hd.1
    go_wp2_with fail
    refine (Hdig.out _ u hd.out).mono ?_
    rintro e u2 ⟨rfl, hbz⟩
    dsimp only
    go_wp2_with fail
    exact hK _ _ rfl hbz
  case s4 =>
    intro x u hu hd K hK
    simp only [depsR, rAt, List.getD_cons_zero, List.getD_cons_succ, Region.binds, forall_const, and_true] at hd
    simp only [setAll, dstAt, List.getElem?_toArray, List.getElem?_cons_zero, List.getElem?_cons_succ, Option.bind_some, Act.put, List.setIfInBounds_toArray, List.set_cons_zero, List.set_cons_succ, rAt, List.getD_cons_zero, List.getD_cons_succ] at hK ⊢
    obtain ⟨h1, h2⟩ := hd
    simp only [h1, h2] at hK ⊢
    go_wp2_with fail
    exact hK _ _ rfl (Below.refl _ _)
  case s5 =>
    intro x u hu hd K hK
    simp only [depsR, rAt, List.getD_cons_zero, List.getD_cons_succ, Region.binds, forall_const, and_true] at hd
    simp only [setAll, dstAt, List.getElem?_toArray, List.getElem?_cons_zero, List.getElem?_cons_succ, Option.bind_some, Act.put, List.setIfInBounds_toArray, List.set_cons_zero, List.set_cons_succ, rAt, List.getD_cons_zero, List.getD_cons_succ] at hK ⊢
    simp only [hd] at hK ⊢
    go_wp2_with fail
    exact hK _ _ rfl (Below.refl _ _)
  case s6 =>
    intro x u hu hd K hK
    simp only [depsR, rAt, List.getD_cons_zero, List.getD_cons_succ, Region.binds, forall_const, and_true] at hd
    simp only [setAll, dstAt, List.getElem?_toArray, List.getElem?_cons_zero, List.getElem?_cons_succ, Option.bind_some, Act.put, List.setIfInBounds_toArray, List.set_cons_zero, List.set_cons_succ, rAt, List.getD_cons_zero, List.getD_cons_succ] at hK ⊢
    simp only [hd] at hK ⊢
    go_wp2_with fail
    exact hK _ _ rfl (Below.refl _ _)
  case s7 =>
    intro x u hu hd K hK
    simp only [depsR, rAt, List.getD_cons_zero, List.getD_cons_succ, Region.binds, forall_const, and_true] at hd
    simp only [setAll, dstAt, List.getElem?_toArray, List.getElem?_cons_zero, List.getElem?_cons_succ, Option.bind_some, Act.put, List.setIfInBounds_toArray, List.set_cons_zero, List.set_cons_succ, rAt, List.getD_cons_zero, List.getD_cons_succ] at hK ⊢
    simp only [hd] at hK ⊢
    go_wp2_with fail
    exact hK _ _ rfl (Below.refl _ _)
  case s8 =>
    intro x u hu hd K hK
    simp only [depsR, rAt, List.getD_cons_zero, List.getD_cons_succ, Region.binds, forall_const, and_true] at hd
    simp only [setAll, dstAt, List.getElem?_toArray, List.getElem?_cons_zero, List.getElem?_cons_succ, Option.bind_some, Act.put, List.setIfInBounds_toArray, List.set_cons_zero, List.set_cons_succ, rAt, List.getD_cons_zero, List.getD_cons_succ] at hK ⊢
    obtain ⟨h1, h2, _⟩ := hd
    simp only [h1, h2] at hK ⊢
    go_wp2_with fail
    refine (Hrow.out u (hv5.mono hu)).mono ?_
    rintro e u2 ⟨z, rfl, hz, hbz⟩
    dsimp only
    go_wp2_with fail
    exact hK _ _ hz hbz
  case s9 =>
    intro x u hu hd K hK
    simp only [depsR, rAt, List.getD_cons_zero, List.getD_cons_succ, Region.binds, forall_const, and_true] at hd
    simp only [setAll, dstAt, List.getElem?_toArray, List.getElem?_cons_zero, List.getElem?_cons_succ, Option.bind_some, Act.put, List.setIfInBounds_toArray, List.set_cons_zero, List.set_cons_succ, rAt, List.getD_cons_zero, List.getD_cons_succ] at hK ⊢
    obtain ⟨h1, _, h2⟩ := hd
    simp only [h2] at hK ⊢
    replace h1 := Lib.hid h1
    go_wp2_with fail
    refine (Hfill.out _ u h1.out).mono ?_
    rintro e u2 ⟨z, rfl, hz, hbz⟩
    dsimp only
    go_wp2_with fail
    exact hK _ _ hz.rd hbz
  case s10 =>
    intro x u hu hd K hK
    simp only [depsR, rAt, List.getD_cons_zero, List.getD_cons_succ, Region.binds, forall_const, and_true] at hd
    simp only [setAll, dstAt, List.getElem?_toArray, List.getElem?_cons_zero, List.getElem?_cons_succ, Option.bind_some, Act.put, List.setIfInBounds_toArray, List.set_cons_zero, List.set_cons_succ, rAt, List.getD_cons_zero, List.getD_cons_succ] at hK ⊢
    obtain ⟨h1, h3, _, h2⟩ := hd
    simp only [h1, h2] at hK ⊢
    replace h3 := Lib.hid h3
    have hPu : RdB u (.slice (some ⟨H, 0, none⟩) pl.length pl.length) pl := (NewB.rd (w := w3) ⟨H, rfl, hH3, (hu.block _ (Array.getElem?_eq_some_iff.1 hP5).1).trans hP5⟩)
    go_wp2_with fail
    refine (beq_any _ _ pl pl u hPu h3.out).mono ?_
    rintro e u2 ⟨rfl, rfl⟩
    dsimp only
    go_wp2_with fail
    exact hK _ _ (by simp) (Below.refl _ _)
  case s11 =>
    intro x u hu hd K hK
    simp only [depsR, rAt, List.getD_cons_zero, List.getD_cons_succ, Region.binds, forall_const, and_true] at hd
    simp only [setAll, dstAt, List.getElem?_toArray, List.getElem?_cons_zero, List.getElem?_cons_succ, Option.bind_some, Act.put, List.setIfInBounds_toArray, List.set_cons_zero, List.set_cons_succ, rAt, List.getD_cons_zero, List.getD_cons_succ] at hK ⊢
    obtain ⟨h1, h2⟩ := hd
    simp only [h1, h2] at hK ⊢
    go_wp2_with fail
    exact hK _ _ rfl (Below.refl _ _)
  case fin =>
    intro x u hu hR
    simp only [allR, Nat.zero_add, Nat.reduceAdd, and_true] at hR
    obtain ⟨-, -, -, -, -, h5, -, -, -, -, -, h11⟩ := hR
    simp only [setAll, dstAt, List.getElem?_toArray, List.getElem?_cons_zero, List.getElem?_cons_succ, Option.bind_some, Act.put, List.setIfInBounds_toArray, List.set_cons_zero, List.set_cons_succ, List.drop_succ_cons, List.drop_zero, h5, h11]
    have hPu := (hu.block _ (Array.getElem?_eq_some_iff.1 hP5).1).trans hP5
    have hb3u := hb35.trans (hu.mono hb35.size)
    have hbwu := hbw5.trans (hu.mono hbw5.size)
    have hvu := hv5.mono hu
    clear hP5 hu hv5 hbw5 hb35 hD5 hDl hD h5 h11
    generalize x 0 = x0, x 1 = x1, x 2 = x2, x 3 = x3, x 4 = x4, x 6 = x6, x 7 = x7, x 8 = x8, x 9 = x9, x 10 = x10
    have hpl3 : pl.length ≤ 1000 := hpl2
    go_wp2_with fail
    go_loopw [30] (fun i wr => ∃ (k : Nat) (l : List UInt8), k ≤ pl.length ∧ l.length = pl.length ∧ i = .int .i64 k ∧ Below H u wr ∧ wr.heap[H]? = some (.cells (l.map bv).toArray 5 (0, 0))) (fun i _ => pl.length - (intOf i).toNat)
    case atStart => exact ⟨0, pl, by omega, rfl, rfl, Below.refl _ _, hPu⟩
    case round =>
      clear hPu
      obtain ⟨k, l, hk, hl, rfl, hb, hP⟩ := hrel
      have Hl := Lib.hid hl
      by_cases hlt : k < pl.length
      · have hg : decide ((k : Int) < (pl.length : Int)) = true := decide_eq_true (by omega)
        have e0 : wr.cell? ⟨H, k, none⟩ = some (bv (l.getD k 0)) := by rw [cell_of_row _ _ _ _ _ _ hP, getb _ _ (by omega)]
        have f0 : wr.frozen? ⟨H, k, none⟩ = false := frozen_of_row _ _ _ _ _ hP
        have Hi := Lib.hid (inc_byte (l.getD k 0))
        generalize l.getD k 0 = y at *
        clear hl
        go_wp2_with fail
        go_roundw
        case rel =>
          refine ⟨k + 1, l.set k (y + 1), by omega, by rw [List.length_set]; exact Hl.out, by go_num, hb.setCell (Nat.le_refl _) _, ?_⟩
          rw [← setLb, Hi.out]
          exact heap_setCell_same wr H k _ _ _ hP
        case measure => simp [intOf]; omega
      · obtain rfl : k = pl.length := by omega
        have hb3r := hb3u.trans (hb.mono hH3)
        have hbwr := hbwu.trans (hb.mono (Nat.le_trans hbw33 hH3))
        have hv0 := Lib.hid (hvu0.out.mono hbwr)
        have hr0 := Lib.hid (hr3.mono hb3r)
        clear hl hb hP
        go_wp2_with fail
        refine (Hrow.out wr hv0.out).mono ?_
        rintro e w8 ⟨v8, rfl, hr8, hb8⟩
        dsimp only
        go_wp2_with fail
        refine (beq_any _ _ bs bs w8 (hr0.out.mono hb8) hr8).mono ?_
        rintro e w9 ⟨rfl, rfl⟩
        dsimp only
        go_wp2_with fail
        go_ret
        exact ⟨ret_val (by simp), hbwr.trans (hb8.mono hbwr.size)⟩
end Go.Proofs.Ytcfkapoppmpehaa

/-
  WotsDigits: the digits of a digest, and the check sum's: the walk.
-/
import Derived.Test.YtcfkapoppmpehaaL18
namespace Go.Proofs.Ytcfkapoppmpehaa
open Go.RowKit Go.Shelf

set_option maxRecDepth 100000 in
set_option maxHeartbeats 1000000 in
theorem wotsDigits_any (v : Value) (ids : List (List UInt8)) (w : World) (hv : RdI w v ids) :
    Calls Try.prog 13 #[v] w fun e w' => e = .returned (.bool true) ∧ Below w.heap.size w w' := by
  obtain ⟨ad, cap, rfl, hc, hl, hr⟩ := hv
  replace hl := Lib.hid hl
  go_enter Try.func13, Try.ntmps13
  go_wp2_with fail
  refine (wakes06 w).mono ?_
  rintro e w3 ⟨rfl, hb3⟩
  dsimp only
  go_wp2_with fail
  go_loopw [12] (fun i wr => ∃ k : Nat, k ≤ 20 ∧ k ≤ ids.length ∧ i = .int .i64 k ∧ Below w.heap.size w wr) (fun i _ => 21 - (intOf i).toNat)
  case atStart => exact ⟨0, by omega, by omega, rfl, hb3⟩
  case round =>
    clear hb3
    obtain ⟨k, hk, hkl, rfl, hbr⟩ := hrel
    by_cases hlt : k < ids.length
    · obtain ⟨bk, o, rfl, hrange⟩ := hr (by omega)
      have hg : decide ((k : Int) < (ids.length : Int)) = true := decide_eq_true (by omega)
      have hrg : wr.rangeAt bk (o + k * 32) ((ids.getD k []).map bv) := RdI.at hrange hl.out w.heap.size wr hbr (Nat.le_refl _) k hlt
      have hml := hl.out k hlt
      have HA := Lib.hid (digits_any (ids.getD k []) hml)
      have HB := Lib.hid (refdigits_any (ids.getD k []) hml)
      have hdl := digN_length (ids.getD k []) hml
      generalize digN (ids.getD k []) = x at *
      generalize ids.getD k [] = m at *
      clear hrange hr
      go_upto_region 6 with (first
        | (refine wpList_load_mid rfl 24 (.tmp 15) rfl bk (o + k * 32) rfl (m.map bv) (.array 32 5) hrg (by kernel_rfl) rfl (by rw [List.length_map, hml]; kernel_rfl) ?_)
        | (refine wpList_store_new rfl 24 (.tmp 4) (.tmp 16) rfl _ _ (m.map bv).toArray rfl rfl (id_info m hml) (id_size m hml).symm (id_one m) ?_))
      have hX3 : (wr.alloc (Obj.cells (m.map bv).toArray 24)).heap[wr.heap.size]? = some (.cells (m.map bv).toArray 24 (0, 0)) := heap_alloc_new wr _
      have hbw3 := hbr.alloc hbr.size (Obj.cells (m.map bv).toArray 24)
      generalize wr.alloc (Obj.cells (m.map bv).toArray 24) = w3 at *
      generalize wr.heap.size = X at *
      clear hrg hbr
      by_cases h20 : k = 20
      · subst h20
        have h20 : (((20 : Nat) : Int) == 20) = true := by decide
        go_wp2_with fail
        go_ret
        exact ⟨ret_val rfl, hbw3⟩
      · have h20 : ((k : Int) == 20) = false := by simp; omega
        have hk20 : k < 20 := by omega
        go_upto_region 7 with fail
        refine wp_region_rels 5 [fun v _ => v = bagg m, fun v u => RdN u v x, fun v _ => v = bagg m, fun v u => RdN u v x, fun v u => RdN u v x] rfl (by kernel_rfl) rfl
          ⟨Stays.const _, Stays.rdN _, Stays.const _, Stays.rdN _, Stays.rdN _, trivial⟩
          ⟨?s0, ?s1, ?s2, ?s3, ?s4, trivial⟩ ?fin
        case s0 =>
          intro z u hu hd K hK
          simp only [depsR] at hd
          simp only [setAll, dstAt, List.getElem?_toArray, List.getElem?_cons_zero, List.getElem?_cons_succ, Option.bind_some, Act.put, List.setIfInBounds_toArray, List.set_cons_zero, List.set_cons_succ, rAt, List.getD_cons_zero] at hK ⊢
          have hXu := (hu.block _ (Array.getElem?_eq_some_iff.1 hX3).1).trans hX3
          go_wp2_with (refine wpList_load_row rfl 24 (.tmp 4) rfl X rfl 24 _ (0, 0) (.array 32 5) hXu (by kernel_rfl) rfl (id_info m hml) ?_)
          exact hK _ _ rfl (Below.refl _ _)
        case s1 =>
          intro z u hu hd K hK
          simp only [depsR, rAt, List.getD_cons_zero, Region.binds, forall_const, and_true] at hd
          simp only [setAll, dstAt, List.getElem?_toArray, List.getElem?_cons_zero, List.getElem?_cons_succ, Option.bind_some, Act.put, List.setIfInBounds_toArray, List.set_cons_zero, List.set_cons_succ, rAt, List.getD_cons_zero, List.getD_cons_succ] at hK ⊢
          simp only [hd] at hK ⊢
          go_wp2_with fail
          refine (HA.out u).mono ?_
          rintro e u2 ⟨v, rfl, hv, hbz⟩
          dsimp only
          go_wp2_with fail
          exact hK _ _ hv.rd hbz
        case s2 =>
          intro z u hu hd K hK
          simp only [depsR] at hd
          simp only [setAll, dstAt, List.getElem?_toArray, List.getElem?_cons_zero, List.getElem?_cons_succ, Option.bind_some, Act.put, List.setIfInBounds_toArray, List.set_cons_zero, List.set_cons_succ, rAt, List.getD_cons_zero, List.getD_cons_succ] at hK ⊢
          have hXu := (hu.block _ (Array.getElem?_eq_some_iff.1 hX3).1).trans hX3
          go_wp2_with (refine wpList_load_row rfl 24 (.tmp 4) rfl X rfl 24 _ (0, 0) (.array 32 5) hXu (by kernel_rfl) rfl (id_info m hml) ?_)
          exact hK _ _ rfl (Below.refl _ _)
        case s3 =>
          intro z u hu hd K hK
          simp only [depsR, rAt, List.getD_cons_zero, List.getD_cons_succ, Region.binds, forall_const, and_true] at hd
          simp only [setAll, dstAt, List.getElem?_toArray, List.getElem?_cons_zero, List.getElem?_cons_succ, Option.bind_some, Act.put, List.setIfInBounds_toArray, List.set_cons_zero, List.set_cons_succ, rAt, List.getD_cons_zero, List.getD_cons_succ] at hK ⊢
          obtain ⟨h1, h2⟩ := hd
          simp only [h1] at hK ⊢
          go_wp2_with fail
          refine (HB.out u).mono ?_
          rintro e u2 ⟨v, rfl, hv, hbz⟩
          dsimp only
          go_wp2_with fail
          exact hK _ _ hv.rd hbz
        case s4 =>
          intro z u hu hd K hK
          simp only [depsR, rAt, List.getD_cons_zero, List.getD_cons_succ, Region.binds, forall_const, and_true] at hd
          simp only [setAll, dstAt, List.getElem?_toArray, List.getElem?_cons_zero, List.getElem?_cons_succ, Option.bind_some, Act.put, List.setIfInBounds_toArray, List.set_cons_zero, List.set_cons_succ, rAt, List.getD_cons_zero, List.getD_cons_succ] at hK ⊢
          obtain ⟨h1, -⟩ := hd
          replace h1 := Lib.hid h1
          go_wp2_with fail
          exact hK _ _ h1.out (Below.refl _ _)
        case fin =>
          intro z u hu hR
          simp only [allR, Nat.zero_add, Nat.reduceAdd, and_true] at hR
          obtain ⟨-, -, -, h3, h4⟩ := hR
          simp only [setAll, dstAt, List.getElem?_toArray, List.getElem?_cons_zero, List.getElem?_cons_succ, Option.bind_some, Act.put, List.setIfInBounds_toArray, List.set_cons_zero, List.set_cons_succ, List.drop_succ_cons, List.drop_zero]
          have hbwu := hbw3.trans (hu.mono hbw3.size)
          clear hX3 hbw3 hu HA HB
          generalize z 0 = z0, z 1 = z1, z 2 = z2, z 3 = z3, z 4 = z4 at *
          obtain ⟨ya, yc, rfl, hyc, hyr⟩ := h3
          obtain ⟨xa, xc, rfl, hxc, hxr⟩ := h4
          rw [hdl] at hxc hxr hyc hyr ⊢
          obtain ⟨xb, xo, rfl, hxcell⟩ := hxr (by omega)
          obtain ⟨yb, yo, rfl, hycell⟩ := hyr (by omega)
          clear hxr hyr hdl
          replace hxcell := Lib.hid hxcell
          replace hycell := Lib.hid hycell
          go_wp2_with fail
          go_loopw [30] (fun i wx => ∃ j : Nat, j ≤ 67 ∧ i = .int .i64 j ∧ Below u.heap.size u wx) (fun i _ => 67 - (intOf i).toNat)
          case atStart => exact ⟨0, by omega, rfl, Below.refl _ _⟩
          case round =>
            obtain ⟨j, hj, rfl, hbx⟩ := hrel
            by_cases hlj : j < 67
            · have hg2 : decide ((j : Int) < 67) = true := decide_eq_true (by omega)
              have cx : u.cell? ⟨xb, xo + j, none⟩ = some (.int .i64 (x.getD j 0 : Nat)) := hxcell.out j hlj
              have cy : u.cell? ⟨yb, yo + j, none⟩ = some (.int .i64 (x.getD j 0 : Nat)) := hycell.out j hlj
              replace cx := (hbx.cell (p := ⟨xb, xo + j, none⟩) (block_lt_of_cell cx)).trans cx
              replace cy := (hbx.cell (p := ⟨yb, yo + j, none⟩) (block_lt_of_cell cy)).trans cy
              have e1 := gro_cell cx
              have e2 := gro_cell cy
              generalize x.getD j 0 = dx at *
              have hne : ((dx : Int) != (dx : Int)) = false := by simp
              go_wp2_with fail
              refine wp_region_qgro rfl (by kernel_rfl) ?_
              iterate 9 go_big_quiet_step (fail)
              refine wpQuiet_nil ?_
              rintro _ ⟨p, rfl⟩
              simp only [Exit.then]
              go_wp2_with fail
              go_roundw
              case rel => exact ⟨j + 1, by omega, by go_num, hbx.trans ((below_gro wr p).mono hbx.size)⟩
              case measure => simp [intOf]; omega
            · obtain rfl : j = 67 := by omega
              have hg2 : decide (((67 : Nat) : Int) < 67) = false := decide_eq_false (by omega)
              have hbf := hbwu.trans (hbx.mono hbwu.size)
              go_wp2_with fail
              go_roundw
              case rel => exact ⟨k + 1, by omega, by omega, by go_num, hbf⟩
              case measure => simp [intOf]; omega
    · obtain rfl : k = ids.length := by omega
      have hg : decide (((ids.length : Nat) : Int) < (ids.length : Int)) = false := decide_eq_false (by omega)
      clear hr
      go_wp2_with fail
      go_ret
      exact ⟨ret_val rfl, hbr⟩
end Go.Proofs.Ytcfkapoppmpehaa

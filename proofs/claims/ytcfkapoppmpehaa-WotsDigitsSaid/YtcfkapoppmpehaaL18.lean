/-
  WotsBelow: each of two unlike digests has a digit below the other's: the walk.
-/
import Derived.Test.YtcfkapoppmpehaaL17
import Derived.Test.YtcfkapoppmpehaaPb
import Derived.Test.YtcfkapoppmpehaaReg
namespace Go.Proofs.Ytcfkapoppmpehaa
open Go.RowKit Go.Shelf

theorem Stays.rdN (ns : List Nat) : Stays fun v w => RdN w v ns := fun _ _ _ hb h => h.mono hb

set_option maxRecDepth 100000 in
set_option maxHeartbeats 1000000 in
theorem wotsBelow_any (a b : List UInt8) (ha : a.length = 32) (hb : b.length = 32) (w : World) :
    Calls Try.prog 18 #[bagg a, bagg b] w fun e w' => e = .returned (.bool true) ∧ Below w.heap.size w w' := by
  have HA := Lib.hid (digits_any a ha)
  have HB := Lib.hid (digits_any b hb)
  have hla := digN_length a ha
  have hlb := digN_length b hb
  have h15 := Lib.hid (fun i => digN_at a ha i)
  have Hless := Lib.hid (below_plain a b ha hb)
  have Hmore := Lib.hid (below_plain b a hb ha)
  generalize digN a = x at *
  generalize digN b = y at *
  go_enter Try.func18, Try.ntmps18
  go_upto_region 1 with fail
  obtain ⟨w2, hw2, hbl, hb2, hs2⟩ := allocs_named w [.cells (a.map bv).toArray 24, .cells (b.map bv).toArray 24]
  change Code.wp _ _ _ _ (List.foldl World.alloc w [.cells (a.map bv).toArray 24, .cells (b.map bv).toArray 24])
  rw [hw2]
  have hX : w2.heap[w.heap.size]? = some (.cells (a.map bv).toArray 24 (0, 0)) := hbl 0
  have hM : w2.heap[w.heap.size + 1]? = some (.cells (b.map bv).toArray 24 (0, 0)) := hbl 1
  clear hbl hw2 hs2
  go_wp2_with fail
  refine (wakes06 w2).mono ?_
  rintro e w3 ⟨rfl, hb3⟩
  have hX3 := (hb3.block _ (Array.getElem?_eq_some_iff.1 hX).1).trans hX
  have hM3 := (hb3.block _ (Array.getElem?_eq_some_iff.1 hM).1).trans hM
  have hbw3 := hb2.trans (hb3.mono hb2.size)
  clear hb2 hb3 hX hM
  dsimp only
  go_wp2_with fail
  refine wp_region_rels 5 [fun v _ => v = bagg a, fun v u => RdN u v x, fun v _ => v = bagg b, fun v u => RdN u v y, fun v u => RdN u v x] rfl (by kernel_rfl) rfl
    ⟨Stays.const _, Stays.rdN _, Stays.const _, Stays.rdN _, Stays.rdN _, trivial⟩
    ⟨?s0, ?s1, ?s2, ?s3, ?s4, trivial⟩ ?fin
  case s0 =>
    intro z u hu hd K hK
    simp only [depsR] at hd
    simp only [setAll, dstAt, List.getElem?_toArray, List.getElem?_cons_zero, List.getElem?_cons_succ, Option.bind_some, Act.put, List.setIfInBounds_toArray, List.set_cons_zero, List.set_cons_succ, rAt, List.getD_cons_zero] at hK ⊢
    have hXu := (hu.block _ (Array.getElem?_eq_some_iff.1 hX3).1).trans hX3
    go_wp2_with (refine wpList_load_row rfl 24 (.tmp 2) rfl w.heap.size rfl 24 _ (0, 0) (.array 32 5) hXu (by kernel_rfl) rfl (id_info a ha) ?_)
    exact hK _ _ rfl (Below.refl _ _)
  case s1 =>
    intro z u hu hd K hK
    simp only [depsR, rAt, List.getD_cons_zero, Region.binds, forall_const, and_true] at hd
    simp only [setAll, dstAt, List.getElem?_toArray, List.getElem?_cons_zero, List.getElem?_cons_succ, Option.bind_some, Act.put, List.setIfInBounds_toArray, List.set_cons_zero, List.set_cons_succ, rAt, List.getD_cons_zero, List.getD_cons_succ] at hK ⊢
    simp only [hd] at hK ⊢
    go_wp2_with fail
    refine (HA.out u).mono ?_
    rintro e u2 ⟨v, rfl, hv, hbz⟩
    dsimp only
    go_wp2_with fail
    exact hK _ _ hv.rd hbz
  case s2 =>
    intro z u hu hd K hK
    simp only [depsR] at hd
    simp only [setAll, dstAt, List.getElem?_toArray, List.getElem?_cons_zero, List.getElem?_cons_succ, Option.bind_some, Act.put, List.setIfInBounds_toArray, List.set_cons_zero, List.set_cons_succ, rAt, List.getD_cons_zero, List.getD_cons_succ] at hK ⊢
    have hXu := (hu.block _ (Array.getElem?_eq_some_iff.1 hM3).1).trans hM3
    go_wp2_with (refine wpList_load_row rfl 24 (.tmp 3) rfl (w.heap.size + 1) rfl 24 _ (0, 0) (.array 32 5) hXu (by kernel_rfl) rfl (id_info b hb) ?_)
    exact hK _ _ rfl (Below.refl _ _)
  case s3 =>
    intro z u hu hd K hK
    simp only [depsR, rAt, List.getD_cons_zero, List.getD_cons_succ, Region.binds, forall_const, and_true] at hd
    simp only [setAll, dstAt, List.getElem?_toArray, List.getElem?_cons_zero, List.getElem?_cons_succ, Option.bind_some, Act.put, List.setIfInBounds_toArray, List.set_cons_zero, List.set_cons_succ, rAt, List.getD_cons_zero, List.getD_cons_succ] at hK ⊢
    obtain ⟨h1, h2⟩ := hd
    simp only [h1] at hK ⊢
    go_wp2_with fail
    refine (HB.out u).mono ?_
    rintro e u2 ⟨v, rfl, hv, hbz⟩
    dsimp only
    go_wp2_with fail
    exact hK _ _ hv.rd hbz
  case s4 =>
    intro z u hu hd K hK
    simp only [depsR, rAt, List.getD_cons_zero, List.getD_cons_succ, Region.binds, forall_const, and_true] at hd
    simp only [setAll, dstAt, List.getElem?_toArray, List.getElem?_cons_zero, List.getElem?_cons_succ, Option.bind_some, Act.put, List.setIfInBounds_toArray, List.set_cons_zero, List.set_cons_succ, rAt, List.getD_cons_zero, List.getD_cons_succ] at hK ⊢
    obtain ⟨h1, -⟩ := hd
    replace h1 := Lib.hid h1
    go_wp2_with fail
    exact hK _ _ h1.out (Below.refl _ _)
  case fin =>
    intro z u hu hR
    simp only [allR, Nat.zero_add, Nat.reduceAdd, and_true] at hR
    obtain ⟨-, -, -, h3, h4⟩ := hR
    simp only [setAll, dstAt, List.getElem?_toArray, List.getElem?_cons_zero, List.getElem?_cons_succ, Option.bind_some, Act.put, List.setIfInBounds_toArray, List.set_cons_zero, List.set_cons_succ, List.drop_succ_cons, List.drop_zero]
    have hXu := (hu.block _ (Array.getElem?_eq_some_iff.1 hX3).1).trans hX3
    have hMu := (hu.block _ (Array.getElem?_eq_some_iff.1 hM3).1).trans hM3
    have hbwu := hbw3.trans (hu.mono hbw3.size)
    clear hX3 hM3 hbw3 hu HA HB
    generalize z 0 = z0, z 1 = z1, z 2 = z2, z 3 = z3, z 4 = z4 at *
    obtain ⟨ya, yc, rfl, hyc, hyr⟩ := h3
    obtain ⟨xa, xc, rfl, hxc, hxr⟩ := h4
    rw [hla] at hxc hxr ⊢
    rw [hlb] at hyc hyr ⊢
    obtain ⟨xb, xo, rfl, hxcell⟩ := hxr (by omega)
    obtain ⟨yb, yo, rfl, hycell⟩ := hyr (by omega)
    clear hxr hyr hla hlb
    replace hxcell := Lib.hid hxcell
    replace hycell := Lib.hid hycell
    go_wp2_with fail
    go_loopw [7, 8, 26] (fun p q i wr => ∃ k : Nat, k ≤ 67 ∧ i = .int .i64 k ∧ p = .bool (anyLt x y k) ∧ q = .bool (anyLt y x k) ∧ Below u.heap.size u wr) (fun _ _ i _ => 67 - (intOf i).toNat)
    case atStart => exact ⟨0, by omega, rfl, rfl, rfl, Below.refl _ _⟩
    case round =>
      obtain ⟨k, hk, rfl, rfl, rfl, hbr⟩ := hrel
      by_cases hlt : k < 67
      · have hg : decide ((k : Int) < 67) = true := decide_eq_true (by omega)
        have cx : u.cell? ⟨xb, xo + k, none⟩ = some (.int .i64 (x.getD k 0 : Nat)) := hxcell.out k hlt
        have cy : u.cell? ⟨yb, yo + k, none⟩ = some (.int .i64 (y.getD k 0 : Nat)) := hycell.out k hlt
        replace cx := (hbr.cell (p := ⟨xb, xo + k, none⟩) (block_lt_of_cell cx)).trans cx
        replace cy := (hbr.cell (p := ⟨yb, yo + k, none⟩) (block_lt_of_cell cy)).trans cy
        have e1 := gro_cell cx
        have e2 := gro_cell cy
        have H1 := Lib.hid (show anyLt x y (k + 1) = (anyLt x y k || decide (x.getD k 0 < y.getD k 0)) from rfl)
        have H2 := Lib.hid (show anyLt y x (k + 1) = (anyLt y x k || decide (y.getD k 0 < x.getD k 0)) from rfl)
        have hd15 := h15.out k
        generalize x.getD k 0 = dx at *
        generalize y.getD k 0 = dy at *
        cases hp : anyLt x y k
        all_goals
          cases hq : anyLt y x k
          all_goals
            rw [hp] at H1
            rw [hq] at H2
            clear hp hq
            go_wp2_with fail
            refine wp_region_qgro rfl (by kernel_rfl) ?_
            iterate 26 go_big_quiet_step (fail)
            refine wpQuiet_nil ?_
            rintro _ ⟨p, rfl⟩
            have g1 : decide ((dx : Int) < 0) = false := decide_eq_false (by omega)
            have g2 : decide ((15 : Int) < (dx : Int)) = false := decide_eq_false (by omega)
            simp only [Exit.then]
            go_wp2_with fail
            go_roundw
            case rel => exact ⟨k + 1, by omega, by go_num, by rw [H1.out]; simp, by rw [H2.out]; simp, hbr.trans ((below_gro wr p).mono hbr.size)⟩
            case measure => simp [intOf]; omega
      · obtain rfl : k = 67 := by omega
        have hg : decide (((67 : Nat) : Int) < 67) = false := decide_eq_false (by omega)
        have hXr := (hbr.block _ (Array.getElem?_eq_some_iff.1 hXu).1).trans hXu
        have hMr := (hbr.block _ (Array.getElem?_eq_some_iff.1 hMu).1).trans hMu
        have hbwr := hbwu.trans (hbr.mono hbwu.size)
        have hl := Hless.out
        have hm := Hmore.out
        clear hXu hMu hbr hbwu h15 Hless Hmore
        by_cases hab : a = b
        · subst hab
          rw [decide_eq_true rfl] at hl hm
          rw [hl, hm]
          have hE := equal_self a ha
          clear hl hm
          go_wp2_with (first
            | (refine wpList_load_rowg (by kernel_rfl) 24 (.tmp 2) rfl w.heap.size rfl 24 _ (0, 0) (.array 32 5) hXr (by kernel_rfl) rfl (id_info a ha) ?_)
            | (refine wpList_load_rowg (by kernel_rfl) 24 (.tmp 3) rfl (w.heap.size + 1) rfl 24 _ (0, 0) (.array 32 5) hMr (by kernel_rfl) rfl (id_info a ha) ?_))
          go_ret
          exact ⟨ret_val rfl, hbwr⟩
        · rw [decide_eq_false hab] at hl
          rw [decide_eq_false (fun h => hab h.symm)] at hm
          rw [hl, hm]
          have hE := equal_not a b ha hb hab
          clear hl hm hab
          go_wp2_with (first
            | (refine wpList_load_rowg (by kernel_rfl) 24 (.tmp 2) rfl w.heap.size rfl 24 _ (0, 0) (.array 32 5) hXr (by kernel_rfl) rfl (id_info a ha) ?_)
            | (refine wpList_load_rowg (by kernel_rfl) 24 (.tmp 3) rfl (w.heap.size + 1) rfl 24 _ (0, 0) (.array 32 5) hMr (by kernel_rfl) rfl (id_info b hb) ?_))
          go_ret
          exact ⟨ret_val rfl, hbwr⟩
end Go.Proofs.Ytcfkapoppmpehaa

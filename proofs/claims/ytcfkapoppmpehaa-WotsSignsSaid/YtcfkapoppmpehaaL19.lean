/-
  WotsAdds: from one place to a second one and on to a third one is from the first to the third: the walk.
-/
import Derived.Test.YtcfkapoppmpehaaL17
namespace Go.Proofs.Ytcfkapoppmpehaa
open Go.RowKit Go.Shelf

theorem wpList_eqr {P : Program} {ops : Array Oper} {rest : List Oper} {o : Oper} {a : Act} {w : World} {Q : Exit → Act → World → Prop} (hg : Region.wanted o (yielded ops a.tmps) = true) (ty ty2 : TypeId) (x y : Operand) (ho : o.op = .binOp .eql ty x y ty2)
    (hgt : P.eqGuardType P.depth ty = false) (X Y : Array Value) (b : Bool) (hx : a.eval x = .agg X) (hy : a.eval y = .agg Y) (hr : ∀ w, (Op.equalIn 10000 ty (.agg X) (.agg Y)).run P w = .ok b w)
    (h : wpList P ops Q rest (a.put o.dst (.bool b)) w) : wpList P ops Q (o :: rest) a w :=
  BigFrame.wpList_want hg fun _ hK => by
    unfold Oper.wp execOp
    have hpg : ∀ w, Sem.run P program w = .ok P w := fun _ => rfl
    simp [ho, hx, hy, eqGuard, run_eql_struct, hr, hgt, hpg]
    exact hK _ _ h
theorem wpList_neqr {P : Program} {ops : Array Oper} {rest : List Oper} {o : Oper} {a : Act} {w : World} {Q : Exit → Act → World → Prop} (hg : Region.wanted o (yielded ops a.tmps) = true) (ty ty2 : TypeId) (x y : Operand) (ho : o.op = .binOp .neq ty x y ty2)
    (hgt : P.eqGuardType P.depth ty = false) (X Y : Array Value) (b : Bool) (hx : a.eval x = .agg X) (hy : a.eval y = .agg Y) (hr : ∀ w, (Op.equalIn 10000 ty (.agg X) (.agg Y)).run P w = .ok b w)
    (h : wpList P ops Q rest (a.put o.dst (.bool (!b))) w) : wpList P ops Q (o :: rest) a w :=
  BigFrame.wpList_want hg fun _ hK => by
    unfold Oper.wp execOp
    have hpg : ∀ w, Sem.run P program w = .ok P w := fun _ => rfl
    simp [ho, hx, hy, eqGuard, run_neq_struct, hr, hgt, hpg]
    exact hK _ _ h

set_option maxRecDepth 100000 in
set_option maxHeartbeats 2000000 in
theorem wotsAdds_any (x : List UInt8) (hx : x.length = 32) (ch a b c : Int) (w : World) :
    Calls Try.prog 19 #[bagg x, .int .i64 ch, .agg #[.int .i64 a, .int .i64 b, .int .i64 c]] w fun e w' => e = .returned (.bool true) ∧ Below w.heap.size w w' := by
  go_enter Try.func19, Try.ntmps19
  go_upto_region 1 with fail
  obtain ⟨w2, hw2, hbl, hb2, hs2⟩ := allocs_named w [.cells (x.map bv).toArray 24, .cells #[.int .i64 a, .int .i64 b, .int .i64 c] 99]
  change Code.wp _ _ _ _ (List.foldl World.alloc w [.cells (x.map bv).toArray 24, .cells #[.int .i64 a, .int .i64 b, .int .i64 c] 99])
  rw [hw2]
  have hX : w2.heap[w.heap.size]? = some (.cells (x.map bv).toArray 24 (0, 0)) := hbl 0
  have hM : w2.heap[w.heap.size + 1]? = some (.cells #[.int .i64 a, .int .i64 b, .int .i64 c] 99 (0, 0)) := hbl 1
  clear hbl hw2 hs2
  go_wp2_with fail
  refine (wakes06 w2).mono ?_
  rintro e w3 ⟨rfl, hb3⟩
  have hX3 := (hb3.block _ (Array.getElem?_eq_some_iff.1 hX).1).trans hX
  have hM3 := (hb3.block _ (Array.getElem?_eq_some_iff.1 hM).1).trans hM
  have hbw3 := hb2.trans (hb3.mono hb2.size)
  clear hb2 hb3 hX hM
  dsimp only
  go_wp2_with fail
  have e0 := gro_cell (w := w3) (a := ⟨w.heap.size + 1, 0, none⟩) (v := .int .i64 a) (by rw [cell_of_row _ _ _ _ _ _ hM3]; rfl)
  have e1 := gro_cell (w := w3) (a := ⟨w.heap.size + 1, 1, none⟩) (v := .int .i64 b) (by rw [cell_of_row _ _ _ _ _ _ hM3]; rfl)
  have e2 := gro_cell (w := w3) (a := ⟨w.heap.size + 1, 2, none⟩) (v := .int .i64 c) (by rw [cell_of_row _ _ _ _ _ _ hM3]; rfl)
  refine wp_region_qgro rfl (by kernel_rfl) ?_
  iterate 9 go_big_quiet_step (fail)
  refine wpQuiet_nil ?_
  rintro _ ⟨p, rfl⟩
  have hX4 := gro_heap hX3 p
  have hbw4 := hbw3.trans ((below_gro w3 p).mono hbw3.size)
  generalize gro w3 p = w4 at *
  clear e0 e1 e2 hX3 hM3 hbw3
  simp only [Exit.then]
  by_cases hv1 : 0 ≤ ch ∧ ch < 67 ∧ 0 ≤ a ∧ a ≤ b ∧ b ≤ 15
  · obtain ⟨hc0, hc1, ha0, hab, hb15⟩ := hv1
    obtain ⟨cn, rfl⟩ := Int.eq_ofNat_of_zero_le hc0
    obtain ⟨an, rfl⟩ := Int.eq_ofNat_of_zero_le ha0
    obtain ⟨bn, rfl⟩ := Int.eq_ofNat_of_zero_le (show 0 ≤ b by omega)
    have hcn : cn < 67 := by omega
    have habn : an ≤ bn := by omega
    have hbn : bn ≤ 15 := by omega
    clear hc0 hc1 ha0 hab hb15
    have HC := Lib.hid (chain63_any x hx cn an bn hcn habn hbn w4)
    have hyl := walkW_length x cn an (bn - an) hx
    have Hy := Lib.hid (rfl : walkW x cn an (bn - an) = walkW x cn an (bn - an))
    obtain ⟨y, hy⟩ : ∃ y, walkW x cn an (bn - an) = y := ⟨_, rfl⟩
    rw [hy] at HC hyl
    replace hy := Lib.hid hy
    clear Hy
    go_wp2_with (first
      | (refine wpList_load_row rfl 24 (.tmp 3) rfl w.heap.size rfl 24 _ (0, 0) (.array 32 5) hX4 (by kernel_rfl) rfl (id_info x hx) ?_))
    refine HC.out.mono ?_
    rintro e w5 ⟨rfl, hb5⟩
    have hX5 := (hb5.block _ (Array.getElem?_eq_some_iff.1 hX4).1).trans hX4
    have hbw5 := hbw4.trans (hb5.mono hbw4.size)
    clear hX4 hbw4 hb5 HC
    dsimp only
    go_upto_region 5 with (refine wpList_store_new rfl 24 (.tmp 10) (.tmp 32) rfl _ _ (y.map bv).toArray rfl rfl (id_info y hyl) (id_size y hyl).symm (id_one y) ?_)
    have hY6 : (w5.alloc (Obj.cells (y.map bv).toArray 24)).heap[w5.heap.size]? = some (.cells (y.map bv).toArray 24 (0, 0)) := heap_alloc_new w5 _
    have hX6 := (Below.heap_alloc w5 (Obj.cells (y.map bv).toArray 24) _ (Array.getElem?_eq_some_iff.1 hX5).1).trans hX5
    have hbw6 := hbw5.alloc hbw5.size (Obj.cells (y.map bv).toArray 24)
    generalize w5.alloc (Obj.cells (y.map bv).toArray 24) = w6 at *
    generalize w5.heap.size = Y at *
    clear hX5 hbw5
    by_cases hv2 : (bn : Int) ≤ c ∧ c ≤ 15
    · obtain ⟨hbc, hc15⟩ := hv2
      obtain ⟨cc, rfl⟩ := Int.eq_ofNat_of_zero_le (show 0 ≤ c by omega)
      have hbcn : bn ≤ cc := by omega
      have hcc : cc ≤ 15 := by omega
      clear hbc hc15
      have HC2 := Lib.hid (fun w => chain63_any y hyl cn bn cc hcn hbcn hcc w)
      have HC3 := Lib.hid (fun w => chain63_any x hx cn an cc hcn (by omega) hcc w)
      have hz : walkW y cn bn (cc - bn) = walkW x cn an (cc - an) := by
        rw [← hy.out, show cc - an = (bn - an) + (cc - bn) by omega, walkW_add, show an + (bn - an) = bn by omega]
      have hzl := walkW_length x cn an (cc - an) hx
      rw [hz] at HC2
      clear hz
      generalize walkW x cn an (cc - an) = z at *
      have hE := Lib.hid (equal_self z hzl)
      go_wp2_with (refine wpList_load_row rfl 24 (.tmp 10) rfl Y rfl 24 _ (0, 0) (.array 32 5) hY6 (by kernel_rfl) rfl (id_info y hyl) ?_)
      refine (HC2.out w6).mono ?_
      rintro e w7 ⟨rfl, hb7⟩
      have hX7 := (hb7.block _ (Array.getElem?_eq_some_iff.1 hX6).1).trans hX6
      have hY7 := (hb7.block _ (Array.getElem?_eq_some_iff.1 hY6).1).trans hY6
      have hbw7 := hbw6.trans (hb7.mono hbw6.size)
      clear hX6 hY6 hbw6 hb7 HC2
      dsimp only
      go_upto_region 8 with (refine wpList_store_new rfl 24 (.tmp 12) (.tmp 49) rfl _ _ (z.map bv).toArray rfl rfl (id_info z hzl) (id_size z hzl).symm (id_one z) ?_)
      have hZ8 : (w7.alloc (Obj.cells (z.map bv).toArray 24)).heap[w7.heap.size]? = some (.cells (z.map bv).toArray 24 (0, 0)) := heap_alloc_new w7 _
      have hX8 := (Below.heap_alloc w7 (Obj.cells (z.map bv).toArray 24) _ (Array.getElem?_eq_some_iff.1 hX7).1).trans hX7
      have hY8 := (Below.heap_alloc w7 (Obj.cells (z.map bv).toArray 24) _ (Array.getElem?_eq_some_iff.1 hY7).1).trans hY7
      have hbw8 := hbw7.alloc hbw7.size (Obj.cells (z.map bv).toArray 24)
      generalize w7.alloc (Obj.cells (z.map bv).toArray 24) = w8 at *
      generalize w7.heap.size = Z at *
      clear hX7 hY7 hbw7
      go_wp2_with (refine wpList_load_row rfl 24 (.tmp 3) rfl w.heap.size rfl 24 _ (0, 0) (.array 32 5) hX8 (by kernel_rfl) rfl (id_info x hx) ?_)
      refine (HC3.out w8).mono ?_
      rintro e w9 ⟨rfl, hb9⟩
      have hX9 := (hb9.block _ (Array.getElem?_eq_some_iff.1 hX8).1).trans hX8
      have hY9 := (hb9.block _ (Array.getElem?_eq_some_iff.1 hY8).1).trans hY8
      have hZ9 := (hb9.block _ (Array.getElem?_eq_some_iff.1 hZ8).1).trans hZ8
      have hbw9 := hbw8.trans (hb9.mono hbw8.size)
      clear hX8 hY8 hZ8 hbw8 hb9 HC3
      dsimp only
      go_upto_region 11 with (refine wpList_store_new rfl 24 (.tmp 13) (.tmp 70) rfl _ _ (z.map bv).toArray rfl rfl (id_info z hzl) (id_size z hzl).symm (id_one z) ?_)
      have hV10 : (w9.alloc (Obj.cells (z.map bv).toArray 24)).heap[w9.heap.size]? = some (.cells (z.map bv).toArray 24 (0, 0)) := heap_alloc_new w9 _
      have hX10 := (Below.heap_alloc w9 (Obj.cells (z.map bv).toArray 24) _ (Array.getElem?_eq_some_iff.1 hX9).1).trans hX9
      have hY10 := (Below.heap_alloc w9 (Obj.cells (z.map bv).toArray 24) _ (Array.getElem?_eq_some_iff.1 hY9).1).trans hY9
      have hZ10 := (Below.heap_alloc w9 (Obj.cells (z.map bv).toArray 24) _ (Array.getElem?_eq_some_iff.1 hZ9).1).trans hZ9
      have hbw10 := hbw9.alloc hbw9.size (Obj.cells (z.map bv).toArray 24)
      generalize w9.alloc (Obj.cells (z.map bv).toArray 24) = w10 at *
      generalize w9.heap.size = V at *
      clear hX9 hY9 hZ9 hbw9
      by_cases hlt : an < bn
      · have HS := Lib.hid (fun w => step62_any x hx cn an hcn (by omega) w)
        have hsl := stepW_length x cn an
        have HC4 := Lib.hid (fun w => chain63_any (stepW x cn an) hsl cn (an + 1) bn hcn hlt hbn w)
        have hyy : walkW (stepW x cn an) cn (an + 1) (bn - (an + 1)) = y := by
          rw [← walkW_front, ← hy.out]; congr 1; omega
        rw [hyy] at HC4
        clear hyy
        generalize stepW x cn an = s at *
        have hg : decide ((an : Int) < (bn : Int)) = true := decide_eq_true (by omega)
        have hEy := Lib.hid (equal_self y hyl)
        go_wp2_with (first
          | (refine wpList_load_rowg (by kernel_rfl) 24 (.tmp 13) rfl V rfl 24 _ (0, 0) (.array 32 5) hV10 (by kernel_rfl) rfl (id_info z hzl) ?_) | (refine wpList_load_rowg (by kernel_rfl) 24 (.tmp 12) rfl Z rfl 24 _ (0, 0) (.array 32 5) hZ10 (by kernel_rfl) rfl (id_info z hzl) ?_)
          | (refine wpList_neqr (by kernel_rfl) 24 24 (.tmp 75) (.tmp 76) rfl (by kernel_rfl) _ _ true rfl rfl hE.out ?_)
          | (refine wpList_load_row rfl 24 (.tmp 3) rfl w.heap.size rfl 24 _ (0, 0) (.array 32 5) hX10 (by kernel_rfl) rfl (id_info x hx) ?_))
        refine (HS.out w10).mono ?_
        rintro e w11 ⟨rfl, hb11⟩
        have hY11 := (hb11.block _ (Array.getElem?_eq_some_iff.1 hY10).1).trans hY10
        have hbw11 := hbw10.trans (hb11.mono hbw10.size)
        clear hX10 hY10 hZ10 hV10 hbw10 hb11 HS
        dsimp only
        go_upto_region 15 with (refine wpList_store_new rfl 24 (.tmp 14) (.tmp 87) rfl _ _ (s.map bv).toArray rfl rfl (id_info s hsl) (id_size s hsl).symm (id_one s) ?_)
        have hS12 : (w11.alloc (Obj.cells (s.map bv).toArray 24)).heap[w11.heap.size]? = some (.cells (s.map bv).toArray 24 (0, 0)) := heap_alloc_new w11 _
        have hY12 := (Below.heap_alloc w11 (Obj.cells (s.map bv).toArray 24) _ (Array.getElem?_eq_some_iff.1 hY11).1).trans hY11
        have hbw12 := hbw11.alloc hbw11.size (Obj.cells (s.map bv).toArray 24)
        generalize w11.alloc (Obj.cells (s.map bv).toArray 24) = w12 at *
        generalize w11.heap.size = S at *
        clear hY11 hbw11
        go_wp2_with (refine wpList_load_row rfl 24 (.tmp 14) rfl S rfl 24 _ (0, 0) (.array 32 5) hS12 (by kernel_rfl) rfl (id_info s hsl) ?_)
        refine (HC4.out w12).mono ?_
        rintro e w13 ⟨rfl, hb13⟩
        have hY13 := (hb13.block _ (Array.getElem?_eq_some_iff.1 hY12).1).trans hY12
        have hbw13 := hbw12.trans (hb13.mono hbw12.size)
        clear hY12 hS12 hbw12 hb13 HC4
        dsimp only
        go_upto_region 16 with (refine wpList_store_new rfl 24 (.tmp 16) (.tmp 96) rfl _ _ (y.map bv).toArray rfl rfl (id_info y hyl) (id_size y hyl).symm (id_one y) ?_)
        have hT14 : (w13.alloc (Obj.cells (y.map bv).toArray 24)).heap[w13.heap.size]? = some (.cells (y.map bv).toArray 24 (0, 0)) := heap_alloc_new w13 _
        have hY14 := (Below.heap_alloc w13 (Obj.cells (y.map bv).toArray 24) _ (Array.getElem?_eq_some_iff.1 hY13).1).trans hY13
        have hbw14 := hbw13.alloc hbw13.size (Obj.cells (y.map bv).toArray 24)
        generalize w13.alloc (Obj.cells (y.map bv).toArray 24) = w14 at *
        generalize w13.heap.size = T at *
        clear hY13 hbw13
        go_wp2_with (first
          | (refine wpList_load_rowg (by kernel_rfl) 24 (.tmp 16) rfl T rfl 24 _ (0, 0) (.array 32 5) hT14 (by kernel_rfl) rfl (id_info y hyl) ?_) | (refine wpList_load_rowg (by kernel_rfl) 24 (.tmp 10) rfl Y rfl 24 _ (0, 0) (.array 32 5) hY14 (by kernel_rfl) rfl (id_info y hyl) ?_)
          | (refine wpList_eqr (by kernel_rfl) 24 24 (.tmp 105) (.tmp 106) rfl (by kernel_rfl) _ _ true rfl rfl hEy.out ?_))
        go_ret
        exact ⟨ret_val rfl, hbw14⟩
      · have hg : decide ((an : Int) < (bn : Int)) = false := decide_eq_false (by omega)
        have hxy : y = x := by rw [← hy.out, show bn - an = 0 by omega]; rfl
        subst hxy
        have hEy := Lib.hid (equal_self y hyl)
        go_wp2_with (first
          | (refine wpList_load_rowg (by kernel_rfl) 24 (.tmp 13) rfl V rfl 24 _ (0, 0) (.array 32 5) hV10 (by kernel_rfl) rfl (id_info z hzl) ?_) | (refine wpList_load_rowg (by kernel_rfl) 24 (.tmp 12) rfl Z rfl 24 _ (0, 0) (.array 32 5) hZ10 (by kernel_rfl) rfl (id_info z hzl) ?_)
          | (refine wpList_neqr (by kernel_rfl) 24 24 (.tmp 75) (.tmp 76) rfl (by kernel_rfl) _ _ true rfl rfl hE.out ?_)
          | (refine wpList_load_row rfl 24 (.tmp 10) rfl Y rfl 24 _ (0, 0) (.array 32 5) hY10 (by kernel_rfl) rfl (id_info y hyl) ?_) | (refine wpList_load_row rfl 24 (.tmp 3) rfl w.heap.size rfl 24 _ (0, 0) (.array 32 5) hX10 (by kernel_rfl) rfl (id_info y hx) ?_)
          | (refine wpList_eqr (by kernel_rfl) 24 24 (.tmp 109) (.tmp 110) rfl (by kernel_rfl) _ _ true rfl rfl hEy.out ?_))
        go_ret
        exact ⟨ret_val rfl, hbw10⟩
    · have HC2 := Lib.hid (fun w => chain63_err y (cn : Int) (bn : Int) c (by omega) w)
      go_wp2_with (refine wpList_load_row rfl 24 (.tmp 10) rfl Y rfl 24 _ (0, 0) (.array 32 5) hY6 (by kernel_rfl) rfl (id_info y hyl) ?_)
      refine (HC2.out w6).mono ?_
      rintro e w7 ⟨rfl, hb7⟩
      have hbw7 := hbw6.trans (hb7.mono hbw6.size)
      clear hX6 hY6 hbw6 hb7 HC2
      dsimp only
      go_upto_region 8 with (refine wpList_store_new rfl 24 (.tmp 12) (.tmp 49) rfl _ _ (z32.map bv).toArray rfl rfl (id_info z32 rfl) (id_size z32 rfl).symm (id_one z32) ?_)
      have hbw8 := hbw7.alloc hbw7.size (Obj.cells (z32.map bv).toArray 24)
      generalize w7.alloc (Obj.cells (z32.map bv).toArray 24) = w8 at *
      generalize w7.heap.size = Z at *
      by_cases hcb : c < (bn : Int)
      · have hg : decide (c < (bn : Int)) = true := decide_eq_true hcb
        go_wp2_with fail
        go_ret
        exact ⟨ret_val rfl, hbw8⟩
      · have hg : decide (c < (bn : Int)) = false := decide_eq_false hcb
        have hg2 : decide ((15 : Int) < c) = true := decide_eq_true (by omega)
        go_wp2_with fail
        go_ret
        exact ⟨ret_val rfl, hbw8⟩
  · have HC := Lib.hid (chain63_err x ch a b hv1 w4)
    have hE := Lib.hid (equal_self z32 rfl)
    have hB := build24_zero
    clear hv1
    go_wp2_with (refine wpList_load_row rfl 24 (.tmp 3) rfl w.heap.size rfl 24 _ (0, 0) (.array 32 5) hX4 (by kernel_rfl) rfl (id_info x hx) ?_)
    refine HC.out.mono ?_
    rintro e w5 ⟨rfl, hb5⟩
    have hbw5 := hbw4.trans (hb5.mono hbw4.size)
    clear hX4 hbw4 hb5 HC
    dsimp only
    go_upto_region 5 with (refine wpList_store_new rfl 24 (.tmp 10) (.tmp 32) rfl _ _ (z32.map bv).toArray rfl rfl (id_info z32 rfl) (id_size z32 rfl).symm (id_one z32) ?_)
    have hY6 : (w5.alloc (Obj.cells (z32.map bv).toArray 24)).heap[w5.heap.size]? = some (.cells (z32.map bv).toArray 24 (0, 0)) := heap_alloc_new w5 _
    have hbw6 := hbw5.alloc hbw5.size (Obj.cells (z32.map bv).toArray 24)
    generalize w5.alloc (Obj.cells (z32.map bv).toArray 24) = w6 at *
    generalize w5.heap.size = Y at *
    go_wp2_with (first
      | (refine wpList_load_rowg (by kernel_rfl) 24 (.tmp 10) rfl Y rfl 24 _ (0, 0) (.array 32 5) hY6 (by kernel_rfl) rfl (id_info z32 rfl) ?_)
      | (refine wpList_eqr (by kernel_rfl) 24 24 (.tmp 39) (.tmp 40) rfl (by kernel_rfl) _ _ true rfl rfl hE.out ?_))
    go_ret
    exact ⟨ret_val rfl, hbw6⟩
end Go.Proofs.Ytcfkapoppmpehaa

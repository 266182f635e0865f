/-
  WotsSigns: what a seed signs, and the signature with one digest changed: the walk.
-/
import Derived.Test.YtcfkapoppmpehaaL19
import Derived.Test.YtcfkapoppmpehaaReg
import Derived.Test.YtcfkapoppmpehaaL03
import Derived.Test.YtcfkapoppmpehaaOpb
import Derived.Test.YtcfkapoppmpehaaWt
namespace Go.Proofs.Ytcfkapoppmpehaa
open Go.RowKit Go.Shelf

theorem Stays.rdI (ids : List (List UInt8)) : Stays fun v w => RdI w v ids := fun _ _ _ hb h => h.mono hb
/-- 'uint(z) % 67'. -/
theorem at_67 (z : Int) : ∃ (k : Nat) (zz : Int), k < 67 ∧ (∀ w, (convert 3 43 (.int .i64 z)).run Try.prog w = .ok (.int .u64 zz) w) ∧ zz.tmod 67 = k := by
  have h3 : Try.prog.underlying 3 = some (.int .i64) := by kernel_rfl
  have h43 : Try.prog.underlying 43 = some (.int .u64) := by kernel_rfl
  refine ⟨(IntKind.u64.wrap z % 67).toNat, IntKind.u64.wrap z, by omega, fun w => ?_, ?_⟩
  · simp [convert, run_underlying h3, run_underlying h43, Conv.intToInt]
  · have h0 : 0 ≤ IntKind.u64.wrap z := by rw [IntKind.wrap_u64]; omega
    rw [Int.tmod_eq_emod_of_nonneg h0]; omega
theorem same_self (v u : Value) (I : List (List UInt8)) (w : World) (hv : RdI w v I) (hu : RdI w u I) (h : I.length = 67) :
    Calls Try.prog 28 #[v, u] w fun e w' => e = .returned (.bool true) ∧ Below w.heap.size w w' := by
  have := same_any v u I I w hv hu (by omega)
  rwa [decide_eq_true rfl] at this
def zero94 : Array Value := (Value.int .i64 0 :: zero24.toList).toArray

set_option maxRecDepth 100000 in
set_option maxHeartbeats 16000000 in
theorem wotsSigns_any (x m : List UInt8) (hx : x.length = 32) (hm : m.length = 32) (v : Value) (ts : List Tn6) (w : World) (hv : RdRows 33 Tn6.row Tn6.good w v ts) :
    Calls Try.prog 15 #[bagg x, bagg m, v] w fun e w' => e = .returned (.bool true) ∧ Below w.heap.size w w' := by
  obtain ⟨ad, cap, rfl, hc, hlm, hgood, hr⟩ := hv
  replace hgood := Lib.hid hgood
  replace hr := Lib.hid hr
  have HS := Lib.hid (sign67_any x m hx hm)
  have HT := Lib.hid (signed68_any x m hx hm)
  have hs67 := signW_length x m
  have HK9 := Lib.hid (key69_any x hx)
  have HK := Lib.hid (key70_any x hx)
  have hI : (keyW x).length = 32 := keyOf_length _
  generalize keyW x = k1 at *
  generalize signW x m = sg at *
  have hE := Lib.hid (equal_self k1 hI)
  replace hs67 := Lib.hid hs67
  go_enter Try.func15, Try.ntmps15
  go_upto_region 1 with fail
  obtain ⟨w2, hw2, hbl, hb2, hs2⟩ := allocs_named w [.cells (x.map bv).toArray 24, .cells (m.map bv).toArray 24]
  change Code.wp _ _ _ _ (List.foldl World.alloc w [.cells (x.map bv).toArray 24, .cells (m.map bv).toArray 24])
  rw [hw2]
  have hX : w2.heap[w.heap.size]? = some (.cells (x.map bv).toArray 24 (0, 0)) := hbl 0
  have hM : w2.heap[w.heap.size + 1]? = some (.cells (m.map bv).toArray 24 (0, 0)) := hbl 1
  clear hbl hw2 hs2
  go_wp2_with fail
  refine (wakes06 w2).mono ?_
  rintro e w3 ⟨rfl, hb3⟩
  have hX3 := (hb3.block _ (Array.getElem?_eq_some_iff.1 hX).1).trans hX
  have hM3 := (hb3.block _ (Array.getElem?_eq_some_iff.1 hM).1).trans hM
  have hbw3 := hb2.trans (hb3.mono hb2.size)
  clear hb2 hb3 hX hM
  dsimp only
  go_wp2_with fail
  refine wp_region_rels 7 [fun v _ => v = bagg x, fun v _ => v = bagg m, fun v u => RdI u v sg, fun v _ => v = bagg x, fun v _ => v = bagg m, fun v u => RdI u v sg, fun v u => RdI u v sg] rfl (by kernel_rfl) rfl
    ⟨Stays.const _, Stays.const _, Stays.rdI _, Stays.const _, Stays.const _, Stays.rdI _, Stays.rdI _, trivial⟩
    ⟨?s0, ?s1, ?s2, ?s3, ?s4, ?s5, ?s6, trivial⟩ ?fin
  case s0 =>
    intro z u hu hd K hK
    simp only [depsR] at hd
    simp only [setAll, dstAt, List.getElem?_toArray, List.getElem?_cons_zero, List.getElem?_cons_succ, Option.bind_some, Act.put, List.setIfInBounds_toArray, List.set_cons_zero, List.set_cons_succ, rAt, List.getD_cons_zero] at hK ⊢
    have hXu := (hu.block _ (Array.getElem?_eq_some_iff.1 hX3).1).trans hX3
    go_wp2_with (refine wpList_load_row rfl 24 (.tmp 3) rfl w.heap.size rfl 24 _ (0, 0) (.array 32 5) hXu (by kernel_rfl) rfl (id_info x hx) ?_)
    exact hK _ _ rfl (Below.refl _ _)
  case s1 =>
    intro z u hu hd K hK
    simp only [depsR] at hd
    simp only [setAll, dstAt, List.getElem?_toArray, List.getElem?_cons_zero, List.getElem?_cons_succ, Option.bind_some, Act.put, List.setIfInBounds_toArray, List.set_cons_zero, List.set_cons_succ, rAt, List.getD_cons_zero, List.getD_cons_succ] at hK ⊢
    have hXu := (hu.block _ (Array.getElem?_eq_some_iff.1 hM3).1).trans hM3
    go_wp2_with (refine wpList_load_row rfl 24 (.tmp 4) rfl (w.heap.size + 1) rfl 24 _ (0, 0) (.array 32 5) hXu (by kernel_rfl) rfl (id_info m hm) ?_)
    exact hK _ _ rfl (Below.refl _ _)
  case s2 =>
    intro z u hu hd K hK
    simp only [depsR, rAt, List.getD_cons_zero, List.getD_cons_succ, Region.binds, forall_const, and_true] at hd
    simp only [setAll, dstAt, List.getElem?_toArray, List.getElem?_cons_zero, List.getElem?_cons_succ, Option.bind_some, Act.put, List.setIfInBounds_toArray, List.set_cons_zero, List.set_cons_succ, rAt, List.getD_cons_zero, List.getD_cons_succ] at hK ⊢
    simp only [hd] at hK ⊢
    go_wp2_with fail
    refine (HS.out u).mono ?_
    rintro e u2 ⟨v, rfl, hv, hbz⟩
    dsimp only
    go_wp2_with fail
    exact hK _ _ hv.rd hbz
  case s3 =>
    intro z u hu hd K hK
    simp only [depsR] at hd
    simp only [setAll, dstAt, List.getElem?_toArray, List.getElem?_cons_zero, List.getElem?_cons_succ, Option.bind_some, Act.put, List.setIfInBounds_toArray, List.set_cons_zero, List.set_cons_succ, rAt, List.getD_cons_zero, List.getD_cons_succ] at hK ⊢
    have hXu := (hu.block _ (Array.getElem?_eq_some_iff.1 hX3).1).trans hX3
    go_wp2_with (refine wpList_load_row rfl 24 (.tmp 3) rfl w.heap.size rfl 24 _ (0, 0) (.array 32 5) hXu (by kernel_rfl) rfl (id_info x hx) ?_)
    exact hK _ _ rfl (Below.refl _ _)
  case s4 =>
    intro z u hu hd K hK
    simp only [depsR] at hd
    simp only [setAll, dstAt, List.getElem?_toArray, List.getElem?_cons_zero, List.getElem?_cons_succ, Option.bind_some, Act.put, List.setIfInBounds_toArray, List.set_cons_zero, List.set_cons_succ, rAt, List.getD_cons_zero, List.getD_cons_succ] at hK ⊢
    have hXu := (hu.block _ (Array.getElem?_eq_some_iff.1 hM3).1).trans hM3
    go_wp2_with (refine wpList_load_row rfl 24 (.tmp 4) rfl (w.heap.size + 1) rfl 24 _ (0, 0) (.array 32 5) hXu (by kernel_rfl) rfl (id_info m hm) ?_)
    exact hK _ _ rfl (Below.refl _ _)
  case s5 =>
    intro z u hu hd K hK
    simp only [depsR, rAt, List.getD_cons_zero, List.getD_cons_succ, Region.binds, forall_const, and_true] at hd
    simp only [setAll, dstAt, List.getElem?_toArray, List.getElem?_cons_zero, List.getElem?_cons_succ, Option.bind_some, Act.put, List.setIfInBounds_toArray, List.set_cons_zero, List.set_cons_succ, rAt, List.getD_cons_zero, List.getD_cons_succ] at hK ⊢
    obtain ⟨h3, h4, -⟩ := hd
    simp only [h3, h4] at hK ⊢
    go_wp2_with fail
    refine (HT.out u).mono ?_
    rintro e u2 ⟨v, rfl, hv, hbz⟩
    dsimp only
    go_wp2_with fail
    exact hK _ _ hv.rd hbz
  case s6 =>
    intro z u hu hd K hK
    simp only [depsR, rAt, List.getD_cons_zero, List.getD_cons_succ, Region.binds, forall_const, and_true] at hd
    simp only [setAll, dstAt, List.getElem?_toArray, List.getElem?_cons_zero, List.getElem?_cons_succ, Option.bind_some, Act.put, List.setIfInBounds_toArray, List.set_cons_zero, List.set_cons_succ, rAt, List.getD_cons_zero, List.getD_cons_succ] at hK ⊢
    obtain ⟨h1, -⟩ := hd
    replace h1 := Lib.hid h1
    go_wp2_with fail
    exact hK _ _ h1.out (Below.refl _ _)
  case fin =>
    intro z u hu hR
    simp only [allR, Nat.zero_add, Nat.reduceAdd, and_true] at hR
    obtain ⟨-, -, -, -, -, h5, h6⟩ := hR
    simp only [setAll, dstAt, List.getElem?_toArray, List.getElem?_cons_zero, List.getElem?_cons_succ, Option.bind_some, Act.put, List.setIfInBounds_toArray, List.set_cons_zero, List.set_cons_succ, List.drop_succ_cons, List.drop_zero]
    have hXu := (hu.block _ (Array.getElem?_eq_some_iff.1 hX3).1).trans hX3
    have hMu := (hu.block _ (Array.getElem?_eq_some_iff.1 hM3).1).trans hM3
    have hbwu := hbw3.trans (hu.mono hbw3.size)
    clear hX3 hM3 hbw3 hu HS HT
    generalize z 0 = z0, z 1 = z1, z 2 = z2, z 3 = z3, z 4 = z4, z 5 = z5, z 6 = z6 at *
    go_wp2_with (refine wpList_load_row rfl 24 (.tmp 3) rfl w.heap.size rfl 24 _ (0, 0) (.array 32 5) hXu (by kernel_rfl) rfl (id_info x hx) ?_)
    refine (HK9.out u).mono ?_
    rintro e u2 ⟨rfl, hb2⟩
    replace hXu := (hb2.block _ (Array.getElem?_eq_some_iff.1 hXu).1).trans hXu
    replace hMu := (hb2.block _ (Array.getElem?_eq_some_iff.1 hMu).1).trans hMu
    replace hbwu := hbwu.trans (hb2.mono hbwu.size)
    replace h5 := h5.mono hb2
    replace h6 := h6.mono hb2
    clear hb2 HK9
    dsimp only
    go_upto_region 5 with (refine wpList_store_new rfl 24 (.tmp 9) (.tmp 26) rfl _ _ (k1.map bv).toArray rfl rfl (id_info k1 hI) (id_size k1 hI).symm (id_one k1) ?_)
    have hDu : (u2.alloc (Obj.cells (k1.map bv).toArray 24)).heap[u2.heap.size]? = some (.cells (k1.map bv).toArray 24 (0, 0)) := heap_alloc_new u2 _
    have hb2 : Below u2.heap.size u2 (u2.alloc (Obj.cells (k1.map bv).toArray 24)) := (Below.refl _ _).alloc (Nat.le_refl _) _
    replace hXu := (hb2.block _ (Array.getElem?_eq_some_iff.1 hXu).1).trans hXu
    replace hMu := (hb2.block _ (Array.getElem?_eq_some_iff.1 hMu).1).trans hMu
    replace hbwu := hbwu.trans (hb2.mono hbwu.size)
    replace h5 := h5.mono hb2
    replace h6 := h6.mono hb2
    generalize u2.alloc (Obj.cells (k1.map bv).toArray 24) = u3 at *
    generalize u2.heap.size = D at *
    clear hb2
    have rX := Lib.hid (range_gro hx hXu)
    have rD := Lib.hid (range_gro hI hDu)
    have HSm := Lib.hid (fun p => same_self z6 z5 sg _ (h6.mono (below_gro u3 p)) (h5.mono (below_gro u3 p)) hs67.out)
    go_wp2_with fail
    refine wp_region_qgro rfl (by kernel_rfl) ?_
    simp only [Act.put]
    iterate 2 go_big_quiet_step (fail)
    go_big_quiet_step ((go_at_call 28; exact gro_call (HSm.out _)))
    iterate 2 go_big_quiet_step (fail)
    refine wpQuiet_load_midg (by kernel_rfl) 24 (.tmp 3) rfl w.heap.size 0 rfl (x.map bv) (.array 32 5) (by rintro _ ⟨p, rfl⟩; exact rX.out p) (by kernel_rfl) rfl (by rw [List.length_map, hx]; kernel_rfl) ?_
    simp only [Act.put, List.setIfInBounds_toArray, List.set_cons_succ, List.set_cons_zero]
    go_big_quiet_step ((go_at_call 70; exact gro_call (HK.out _)))
    refine wpQuiet_load_midg (by kernel_rfl) 24 (.tmp 9) rfl D 0 rfl (k1.map bv) (.array 32 5) (by rintro _ ⟨p, rfl⟩; exact rD.out p) (by kernel_rfl) rfl (by rw [List.length_map, hI]; kernel_rfl) ?_
    simp only [Act.put, List.setIfInBounds_toArray, List.set_cons_succ, List.set_cons_zero]
    refine wpQuiet_neqr (by kernel_rfl) 24 24 (.tmp 33) (.tmp 34) rfl (by kernel_rfl) _ _ true rfl rfl hE.out ?_
    simp only [Act.put, List.setIfInBounds_toArray, List.set_cons_succ, List.set_cons_zero]
    repeat go_big_quiet_step (fail)
    refine wpQuiet_nil ?_
    rintro _ ⟨p, rfl⟩
    replace hXu := gro_heap hXu p
    replace hMu := gro_heap hMu p
    replace hDu := gro_heap hDu p
    replace hbwu := hbwu.trans ((below_gro u3 p).mono hbwu.size)
    replace h5 := h5.mono (below_gro u3 p)
    clear h6 rX rD HSm
    generalize gro u3 p = u4 at *
    simp only [Exit.then]
    go_wp2_with fail
    go_loopw [39] (fun i wr => ∃ k : Nat, k ≤ 6 ∧ k ≤ ts.length ∧ i = .int .i64 k ∧ Below u4.heap.size u4 wr) (fun i _ => 7 - (intOf i).toNat)
    case atStart => exact ⟨0, by omega, by omega, rfl, Below.refl _ _⟩
    case round =>
      obtain ⟨k, hk, hkl, rfl, hbr⟩ := hrel
      by_cases hlt : k < ts.length
      · obtain ⟨bk, o, rfl, hrange⟩ := hr.out (by omega)
        have hg : decide ((k : Int) < (ts.length : Int)) = true := decide_eq_true (by omega)
        have hrow := hrange k hlt
        have hgc := hgood.out k hlt
        generalize ts.getD k default = c at *
        obtain ⟨zt, y⟩ := c
        simp only [Tn6.good] at hgc
        have hy : y.length = 32 := hgc
        simp only [Tn6.row] at hrow
        have hrl : (Value.int .i64 zt :: y.map bv).length = 33 := by simp [hy]
        have hltb : bk < w.heap.size := block_lt_of_cell (hrow 0 _ rfl)
        have hrw : wr.rangeAt bk (o + k * 33) (Value.int .i64 zt :: y.map bv) := fun j u hu => by
          rw [hbr.cell (by show bk < _; exact Nat.lt_of_lt_of_le hltb hbwu.size), hbwu.cell (by show bk < _; exact hltb)]; exact hrow j u hu
        have hone : ((Value.int .i64 zt :: y.map bv).toArray).all (·.oneCell') = true := by simp [Value.oneCell']
        have hXr := (hbr.block _ (Array.getElem?_eq_some_iff.1 hXu).1).trans hXu
        have hMr := (hbr.block _ (Array.getElem?_eq_some_iff.1 hMu).1).trans hMu
        have hDr := (hbr.block _ (Array.getElem?_eq_some_iff.1 hDu).1).trans hDu
        have hsr := h5.mono hbr
        generalize hrowdef : Value.int .i64 zt :: y.map bv = row at *
        have hri : (Try.prog.info? 94).map (·.size) = some row.toArray.size := by rw [List.size_toArray, hrl]; kernel_rfl
        have hrs : zero94.size = row.toArray.size := by show _ = row.length; rw [hrl]; rfl
        clear hrange hrow hgc
        replace hrowdef := Lib.hid hrowdef
        go_upto_region 10 with (first
          | (refine wpList_load_mid rfl 94 (.tmp 42) rfl bk (o + k * 33) rfl row (.struct (Try.prog.fieldsOf 94)) hrw (by kernel_rfl) rfl (by rw [hrl]; kernel_rfl) ?_)
          | (refine wpList_store_new rfl 94 (.tmp 11) (.tmp 43) rfl _ _ row.toArray rfl rfl hri hrs hone ?_))
        have hT : (wr.alloc (Obj.cells row.toArray 94)).heap[wr.heap.size]? = some (.cells row.toArray 94 (0, 0)) := heap_alloc_new wr _
        have hbx : Below wr.heap.size wr (wr.alloc (Obj.cells row.toArray 94)) := (Below.refl _ _).alloc (Nat.le_refl _) _
        have hbw := hbr.trans (hbx.mono hbr.size)
        replace hXr := (hbx.block _ (Array.getElem?_eq_some_iff.1 hXr).1).trans hXr
        replace hMr := (hbx.block _ (Array.getElem?_eq_some_iff.1 hMr).1).trans hMr
        replace hDr := (hbx.block _ (Array.getElem?_eq_some_iff.1 hDr).1).trans hDr
        replace hsr := hsr.mono hbx
        generalize wr.alloc (Obj.cells row.toArray 94) = w4 at *
        generalize wr.heap.size = T at *
        clear hrw hri hrs hone hbr hbx
        have c0 : w4.cell? ⟨T, 0, none⟩ = some (.int .i64 zt) := by rw [cell_of_row _ _ _ _ _ _ hT, ← hrowdef.out]; simp
        have r1 : w4.rangeAt T 1 (y.map bv) := fun j u hu => by
          rw [cell_of_row _ _ _ _ _ _ hT, ← hrowdef.out]
          simp only [List.getElem?_toArray, Nat.add_comm 1 j, List.getElem?_cons_succ]
          exact hu
        clear hT hrl hrowdef
        by_cases h6 : k = 6
        · subst h6
          have h6 : (((6 : Nat) : Int) == 6) = true := by decide
          go_wp2_with fail
          go_ret
          exact ⟨ret_val rfl, hbwu.trans (hbw.mono hbwu.size)⟩
        · have h6 : ((k : Int) == 6) = false := by simp; omega
          have hk6 : k < 6 := by omega
          go_upto_region 11 with fail
          iterate 4 go_step
          obtain ⟨w5, hw5, hbl5, hb5, -⟩ := allocs_named w4 [.cells #[] 24]
          change wpList _ _ _ _ _ (List.foldl World.alloc w4 [.cells #[] 24])
          rw [hw5]
          have hG : w5.heap[w4.heap.size]? = some (.cells #[] 24 (0, 0)) := hbl5 0
          have hs5 : w4.heap.size ≤ w5.heap.size := hb5.size
          have hTl : T < w4.heap.size := block_lt_of_cell c0
          have hB4 : u4.heap.size ≤ w4.heap.size := hbw.size
          replace hXr := (hb5.block _ (Array.getElem?_eq_some_iff.1 hXr).1).trans hXr
          replace hMr := (hb5.block _ (Array.getElem?_eq_some_iff.1 hMr).1).trans hMr
          replace hDr := (hb5.block _ (Array.getElem?_eq_some_iff.1 hDr).1).trans hDr
          replace hsr := hsr.mono hb5
          replace r1 : w5.rangeAt T 1 (y.map bv) := fun j u hu => (hb5.cell (p := ⟨T, 1 + j, none⟩) hTl).trans (r1 j u hu)
          replace c0 := (hb5.cell (p := ⟨T, 0, none⟩) hTl).trans c0
          replace hbw := hbw.trans (hb5.mono hbw.size)
          clear hbl5 hw5 hb5
          go_wp2_with (refine wpList_fresh_ids rfl (.tmp 46) (.tmp 47) rfl w4.heap.size w4.heap.size rfl hG (Nat.le_refl _) hs5 _ sg rfl hsr (by have := hs67.out; omega) ?_)
          intro v6 w6 hown hb6
          have hTl5 : T < w5.heap.size := by omega
          replace hXr := (hb6.block _ (Array.getElem?_eq_some_iff.1 hXr).1).trans hXr
          replace hMr := (hb6.block _ (Array.getElem?_eq_some_iff.1 hMr).1).trans hMr
          replace hDr := (hb6.block _ (Array.getElem?_eq_some_iff.1 hDr).1).trans hDr
          replace r1 : w6.rangeAt T 1 (y.map bv) := fun j u hu => (hb6.cell (p := ⟨T, 1 + j, none⟩) hTl5).trans (r1 j u hu)
          replace c0 := (hb6.cell (p := ⟨T, 0, none⟩) hTl5).trans c0
          replace hbw := hbw.trans (hb6.mono hbw.size)
          have hT6 : T < w6.heap.size := block_lt_of_cell c0
          obtain ⟨g, gc, rfl, hgc, hgB, hwr⟩ := hown.wr (by have := hs67.out; omega)
          have h67 := hs67.out
          rw [h67] at hgc ⊢
          have hg6 : g < w6.heap.size := by
            obtain ⟨u, hu⟩ := Option.isSome_iff_exists.1 (hwr.2.2 0 (by omega) 0 (by omega)).1
            exact block_lt_of_cell hu
          clear hown hG hsr hb6 hs5 hTl5
          go_upto_region 12 with fail
          obtain ⟨n, zz, hn, hz1, hz2⟩ := at_67 zt
          have e0 := gro_cell c0
          have r1' := Lib.hid (fun p => fun j u hu => ((below_gro w6 p).cell (p := ⟨T, 1 + j, none⟩) hT6).trans (r1 j u hu))
          have hnn : n < 67 := hn
          refine wp_region_qgrot 11 rfl (by kernel_rfl) ?_
          simp only [List.take_succ_cons, List.take_zero, List.drop_succ_cons, List.drop_zero]
          iterate 9 go_big_quiet_step (fail)
          refine wpQuiet_load_midg (by kernel_rfl) 24 (.tmp 57) rfl T 1 rfl (y.map bv) (.array 32 5) (by rintro _ ⟨p, rfl⟩; exact r1'.out p) (by kernel_rfl) rfl (by rw [List.length_map, hy]; kernel_rfl) ?_
          simp only [Act.put, List.setIfInBounds_toArray, List.set_cons_succ, List.set_cons_zero]
          go_big_quiet_step (fail)
          refine wpQuiet_nil ?_
          rintro _ ⟨p, rfl⟩
          replace hXr := gro_heap hXr p
          replace hMr := gro_heap hMr p
          replace hDr := gro_heap hDr p
          replace hbw := hbw.trans ((below_gro w6 p).mono hbw.size)
          replace hwr := hwr.mono hg6 (below_gro w6 p)
          have hgr := Nat.lt_of_lt_of_le hg6 (below_gro w6 p).size
          clear r1' e0 c0 r1 hT6 hg6
          generalize gro w6 p = w7 at *
          refine wpList_store_mid rfl 24 (.tmp 59) (.tmp 58) rfl g (n * 32) (y.map bv).toArray (by first | rfl | (show Value.pointer (some ⟨g, 0 + n * 32, none⟩) = _; rw [Nat.zero_add])) rfl (by rw [List.size_toArray, List.length_map, hy]; exact hwr.2.2 n (by rw [h67]; exact hnn)) (id_info y hy) (id_one y) ?_
          change wpList _ _ _ _ _ (w7.setCells g (n * 32) (y.map bv))
          replace hbw := below_setCells hbw (show u4.heap.size ≤ g by omega) (n * 32) (y.map bv)
          have hgs : g < (w7.setCells g (n * 32) (y.map bv)).heap.size := by rw [(setCells_keep g _ _ _).2.2.2]; exact hgr
          have hlen : (sg.set n y).length = 67 := by rw [List.length_set]; exact h67
          have hrd : RdI (w7.setCells g (n * 32) (y.map bv)) (.slice (some ⟨g, 0, none⟩) 67 gc) (sg.set n y) := by
            have := (hwr.set n y hy).rd (c := gc) (by rw [hlen]; exact hgc)
            rwa [hlen] at this
          clear hXr hMr hDr hwr hgr h67 hz1 hz2 hn hnn hgB hTl hB4
          generalize w7.setCells g (n * 32) (y.map bv) = w8 at *
          generalize sg.set n y = sq at *
          replace hlen := Lib.hid hlen
          go_upto_region 13 with fail
          iterate 4 go_step
          obtain ⟨w9, hw9, hbl9, hb9, -⟩ := allocs_named w8 [.cells #[] 24]
          change wpList _ _ _ _ _ (List.foldl World.alloc w8 [.cells #[] 24])
          rw [hw9]
          have hG : w9.heap[w8.heap.size]? = some (.cells #[] 24 (0, 0)) := hbl9 0
          have hs9 : w8.heap.size ≤ w9.heap.size := hb9.size
          replace hrd := hrd.mono hb9
          replace hbw := hbw.trans (hb9.mono hbw.size)
          clear hbl9 hw9 hb9
          go_wp2_with (refine wpList_fresh_ids rfl (.tmp 60) (.tmp 61) rfl w8.heap.size w8.heap.size rfl hG (Nat.le_refl _) hs9 _ sq rfl hrd (by have := hlen.out; omega) ?_)
          intro v13 w10 hown hb10
          replace hrd := hrd.mono hb10
          replace hbw := hbw.trans (hb10.mono hbw.size)
          have hrs := hown.rd
          clear hown hG hb10 hs9
          have hXl := (Array.getElem?_eq_some_iff.1 hXu).1
          have hMl := (Array.getElem?_eq_some_iff.1 hMu).1
          have hDl := (Array.getElem?_eq_some_iff.1 hDu).1
          have HR := Lib.hid (fun sv w h => recover_ok m hm sv sq hlen.out w h)
          have HL := Lib.hid (fun sv w h => recovered72_any m hm sv sq hlen.out w h)
          have HV := Lib.hid (fun key hk sv w h => verify_ok key m hk hm sv sq hlen.out w h)
          have hJ := recW_length m sq
          generalize recW m sq = d at *
          have hMr := (hbw.block _ hMl).trans hMu
          go_wp2_with (refine wpList_load_row rfl 24 (.tmp 4) rfl (w.heap.size + 1) rfl 24 _ (0, 0) (.array 32 5) hMr (by kernel_rfl) rfl (id_info m hm) ?_)
          refine (HR.out _ w10 hrd).mono ?_
          rintro e w11 ⟨rfl, hb11⟩
          replace hrd := hrd.mono hb11
          replace hrs := hrs.mono hb11
          replace hbw := hbw.trans (hb11.mono hbw.size)
          clear hb11 HR hMr
          dsimp only
          go_upto_region 15 with (refine wpList_store_new rfl 24 (.tmp 14) (.tmp 67) rfl _ _ (d.map bv).toArray rfl rfl (id_info d hJ) (id_size d hJ).symm (id_one d) ?_)
          have hF : (w11.alloc (Obj.cells (d.map bv).toArray 24)).heap[w11.heap.size]? = some (.cells (d.map bv).toArray 24 (0, 0)) := heap_alloc_new w11 _
          have hb12 : Below w11.heap.size w11 (w11.alloc (Obj.cells (d.map bv).toArray 24)) := (Below.refl _ _).alloc (Nat.le_refl _) _
          replace hrd := hrd.mono hb12
          replace hrs := hrs.mono hb12
          replace hbw := hbw.trans (hb12.mono hbw.size)
          clear hb12
          generalize w11.alloc (Obj.cells (d.map bv).toArray 24) = w12 at *
          generalize w11.heap.size = F at *
          have hMr := (hbw.block _ hMl).trans hMu
          go_wp2_with (refine wpList_load_row rfl 24 (.tmp 4) rfl (w.heap.size + 1) rfl 24 _ (0, 0) (.array 32 5) hMr (by kernel_rfl) rfl (id_info m hm) ?_)
          refine (HL.out _ w12 hrs).mono ?_
          rintro e w13 ⟨rfl, hb13⟩
          replace hrd := hrd.mono hb13
          replace hrs := hrs.mono hb13
          replace hbw := hbw.trans (hb13.mono hbw.size)
          replace hF := (hb13.block _ (Array.getElem?_eq_some_iff.1 hF).1).trans hF
          clear hb13 HL hMr
          dsimp only
          go_upto_region 16 with (refine wpList_store_new rfl 24 (.tmp 16) (.tmp 71) rfl _ _ (d.map bv).toArray rfl rfl (id_info d hJ) (id_size d hJ).symm (id_one d) ?_)
          have hH : (w13.alloc (Obj.cells (d.map bv).toArray 24)).heap[w13.heap.size]? = some (.cells (d.map bv).toArray 24 (0, 0)) := heap_alloc_new w13 _
          have hb14 : Below w13.heap.size w13 (w13.alloc (Obj.cells (d.map bv).toArray 24)) := (Below.refl _ _).alloc (Nat.le_refl _) _
          replace hrd := hrd.mono hb14
          replace hrs := hrs.mono hb14
          replace hF := (hb14.block _ (Array.getElem?_eq_some_iff.1 hF).1).trans hF
          replace hbw := hbw.trans (hb14.mono hbw.size)
          clear hb14
          generalize w13.alloc (Obj.cells (d.map bv).toArray 24) = w14 at *
          generalize w13.heap.size = H at *
          have hMr := (hbw.block _ hMl).trans hMu
          have hDr := (hbw.block _ hDl).trans hDu
          have rM := Lib.hid (range_gro hm hMr)
          have rD := Lib.hid (range_gro hI hDr)
          have rF := Lib.hid (range_gro hJ hF)
          have rH := Lib.hid (range_gro hJ hH)
          have hrg := Lib.hid (fun p => hrd.mono (below_gro w14 p))
          have hsg := Lib.hid (fun p => hrs.mono (below_gro w14 p))
          have HSm := Lib.hid (fun w h1 h2 => same_self (.slice (some ⟨g, 0, none⟩) 67 gc) v13 sq w h1 h2 hlen.out)
          have HV1 := Lib.hid (HV.out k1 hI (.slice (some ⟨g, 0, none⟩) 67 gc))
          have HV2 : Hid (∀ w, RdI w (.slice (some ⟨g, 0, none⟩) 67 gc) sq → Calls Try.prog 73 #[bagg d, bagg m, .slice (some ⟨g, 0, none⟩) 67 gc] w fun e w' => e = .returned (.bool true) ∧ Below w.heap.size w w') := Lib.hid (fun w h => by
            have := HV.out d hJ (.slice (some ⟨g, 0, none⟩) 67 gc) w h
            rwa [decide_eq_true rfl] at this)
          have hEd := Lib.hid (equal_self d hJ)
          have hEk : Hid (∀ w, (Op.equalIn 10000 24 (bagg d) (bagg k1)).run Try.prog w = .ok (decide (d = k1)) w) := Lib.hid (equal_id d k1 hJ hI)
          clear hrd hrs hF hH hMr hDr HV
          obtain ⟨bo, hbo⟩ : ∃ bo, decide (d = k1) = bo := ⟨_, rfl⟩
          rw [hbo] at HV1 hEk
          clear hbo
          refine wp_region_qgro rfl (by kernel_rfl) ?_
          simp only [Act.put]
          iterate 3 go_big_quiet_step (fail)
          refine wpQuiet_load_midg (by kernel_rfl) 24 (.tmp 14) rfl F 0 rfl (d.map bv) (.array 32 5) (by rintro _ ⟨p, rfl⟩; exact rF.out p) (by kernel_rfl) rfl (by rw [List.length_map, hJ]; kernel_rfl) ?_
          simp only [Act.put, List.setIfInBounds_toArray, List.set_cons_succ, List.set_cons_zero]
          refine wpQuiet_load_midg (by kernel_rfl) 24 (.tmp 16) rfl H 0 rfl (d.map bv) (.array 32 5) (by rintro _ ⟨p, rfl⟩; exact rH.out p) (by kernel_rfl) rfl (by rw [List.length_map, hJ]; kernel_rfl) ?_
          simp only [Act.put, List.setIfInBounds_toArray, List.set_cons_succ, List.set_cons_zero]
          refine wpQuiet_neqr (by kernel_rfl) 24 24 (.tmp 75) (.tmp 76) rfl (by kernel_rfl) _ _ true rfl rfl hEd.out ?_
          simp only [Act.put, List.setIfInBounds_toArray, List.set_cons_succ, List.set_cons_zero]
          iterate 2 go_big_quiet_step (fail)
          refine wpQuiet_load_midg (by kernel_rfl) 24 (.tmp 9) rfl D 0 rfl (k1.map bv) (.array 32 5) (by rintro _ ⟨p, rfl⟩; exact rD.out p) (by kernel_rfl) rfl (by rw [List.length_map, hI]; kernel_rfl) ?_
          simp only [Act.put, List.setIfInBounds_toArray, List.set_cons_succ, List.set_cons_zero]
          refine wpQuiet_load_midg (by kernel_rfl) 24 (.tmp 4) rfl (w.heap.size + 1) 0 rfl (m.map bv) (.array 32 5) (by rintro _ ⟨p, rfl⟩; exact rM.out p) (by kernel_rfl) rfl (by rw [List.length_map, hm]; kernel_rfl) ?_
          simp only [Act.put, List.setIfInBounds_toArray, List.set_cons_succ, List.set_cons_zero]
          go_big_quiet_step (fail)
          go_big_quiet_step ((go_at_call 73; exact gro_call (HV1.out _ (hrg.out _))))
          refine wpQuiet_load_midg (by kernel_rfl) 24 (.tmp 16) rfl H 0 rfl (d.map bv) (.array 32 5) (by rintro _ ⟨p, rfl⟩; exact rH.out p) (by kernel_rfl) rfl (by rw [List.length_map, hJ]; kernel_rfl) ?_
          simp only [Act.put, List.setIfInBounds_toArray, List.set_cons_succ, List.set_cons_zero]
          refine wpQuiet_load_midg (by kernel_rfl) 24 (.tmp 9) rfl D 0 rfl (k1.map bv) (.array 32 5) (by rintro _ ⟨p, rfl⟩; exact rD.out p) (by kernel_rfl) rfl (by rw [List.length_map, hI]; kernel_rfl) ?_
          simp only [Act.put, List.setIfInBounds_toArray, List.set_cons_succ, List.set_cons_zero]
          refine wpQuiet_eqr (by kernel_rfl) 24 24 (.tmp 84) (.tmp 85) rfl (by kernel_rfl) _ _ bo rfl rfl hEk.out ?_
          simp only [Act.put, List.setIfInBounds_toArray, List.set_cons_succ, List.set_cons_zero]
          cases bo
          all_goals
            iterate 3 go_big_quiet_step (fail)
            refine wpQuiet_load_midg (by kernel_rfl) 24 (.tmp 16) rfl H 0 rfl (d.map bv) (.array 32 5) (by rintro _ ⟨p, rfl⟩; exact rH.out p) (by kernel_rfl) rfl (by rw [List.length_map, hJ]; kernel_rfl) ?_
            simp only [Act.put, List.setIfInBounds_toArray, List.set_cons_succ, List.set_cons_zero]
            refine wpQuiet_load_midg (by kernel_rfl) 24 (.tmp 4) rfl (w.heap.size + 1) 0 rfl (m.map bv) (.array 32 5) (by rintro _ ⟨p, rfl⟩; exact rM.out p) (by kernel_rfl) rfl (by rw [List.length_map, hm]; kernel_rfl) ?_
            simp only [Act.put, List.setIfInBounds_toArray, List.set_cons_succ, List.set_cons_zero]
            go_big_quiet_step (fail)
            go_big_quiet_step ((go_at_call 73; exact gro_call (HV2.out _ (hrg.out _))))
            iterate 5 go_big_quiet_step (fail)
            go_big_quiet_step ((go_at_call 28; exact gro_call (HSm.out _ (hrg.out _) (hsg.out _))))
            repeat go_big_quiet_step (fail)
            refine wpQuiet_nil ?_
            rintro _ ⟨p, rfl⟩
            simp only [Exit.then]
            go_wp2_with fail
            refine ⟨?_, ?measure⟩
            iterate 72 apply Exists.intro
            refine ⟨?rel, rfl⟩
            case rel => exact ⟨k + 1, by omega, by omega, by go_num, hbw.trans ((below_gro w14 p).mono hbw.size)⟩
            case measure => simp [intOf]; omega
      · have hg : decide ((k : Int) < (ts.length : Int)) = false := decide_eq_false (by omega)
        go_wp2_with fail
        go_ret
        exact ⟨ret_val rfl, hbwu.trans (hbr.mono hbwu.size)⟩
end Go.Proofs.Ytcfkapoppmpehaa

/-
  WotsVerifies: what a seed signs its key verifies: the walk.
-/
import Derived.Test.YtcfkapoppmpehaaWy
namespace Go.Proofs.Ytcfkapoppmpehaa
open Go.RowKit Go.Shelf

/-- Two rows are compared, in a region that only reads. -/
theorem wpQuiet_eqr {P : Program} {ops : Array Oper} {C : World → Prop} {Q : Act → Prop} {a : Act} {o : Oper} {rest : List Oper} (hg : Region.wanted o (yielded ops a.tmps) = true) (ty ty2 : TypeId) (x y : Operand) (ho : o.op = .binOp .eql ty x y ty2)
    (hgt : P.eqGuardType P.depth ty = false) (X Y : Array Value) (b : Bool) (hx : a.eval x = .agg X) (hy : a.eval y = .agg Y) (hr : ∀ w, (Op.equalIn 10000 ty (.agg X) (.agg Y)).run P w = .ok b w)
    (h : wpQuiet P ops C Q rest (a.put o.dst (.bool b))) : wpQuiet P ops C Q (o :: rest) a :=
  BigFrame.wpQuiet_want hg fun K hK => ⟨_, fun w hw => by
    unfold Oper.quietAt execOp
    have hpg : ∀ w, Sem.run P program w = .ok P w := fun _ => rfl
    simp [ho, hx, hy, eqGuard, run_eql_struct, hr, hgt, hpg]
    exact ⟨rfl, rfl⟩, hK _ h⟩
theorem wpQuiet_neqr {P : Program} {ops : Array Oper} {C : World → Prop} {Q : Act → Prop} {a : Act} {o : Oper} {rest : List Oper} (hg : Region.wanted o (yielded ops a.tmps) = true) (ty ty2 : TypeId) (x y : Operand) (ho : o.op = .binOp .neq ty x y ty2)
    (hgt : P.eqGuardType P.depth ty = false) (X Y : Array Value) (b : Bool) (hx : a.eval x = .agg X) (hy : a.eval y = .agg Y) (hr : ∀ w, (Op.equalIn 10000 ty (.agg X) (.agg Y)).run P w = .ok b w)
    (h : wpQuiet P ops C Q rest (a.put o.dst (.bool (!b)))) : wpQuiet P ops C Q (o :: rest) a :=
  BigFrame.wpQuiet_want hg fun K hK => ⟨_, fun w hw => by
    unfold Oper.quietAt execOp
    have hpg : ∀ w, Sem.run P program w = .ok P w := fun _ => rfl
    simp [ho, hx, hy, eqGuard, run_neq_struct, hr, hgt, hpg]
    exact ⟨rfl, rfl⟩, hK _ h⟩
theorem equal_self (d : List UInt8) (h : d.length = 32) (w : World) : (Op.equalIn 10000 24 (bagg d) (bagg d)).run Try.prog w = .ok true w := by rw [equal_id d d h h, decide_eq_true rfl]
theorem equal_not (d e : List UInt8) (h : d.length = 32) (h2 : e.length = 32) (hn : d ≠ e) (w : World) : (Op.equalIn 10000 24 (bagg d) (bagg e)).run Try.prog w = .ok false w := by rw [equal_id d e h h2, decide_eq_false hn]
/-- A block that is known, read whole in the worlds of the class. -/
theorem range_gro {w : World} {g : Nat} {l : List UInt8} {t : TypeId} (hl : l.length = 32) (h : w.heap[g]? = some (.cells (l.map bv).toArray t (0, 0))) (p : Gp) : (gro w p).rangeAt g 0 (l.map bv) := by
  have := rangeAt_row (gro_heap h p) 0 32
  simpa [hl, List.take_of_length_le] using this

set_option maxRecDepth 100000 in
set_option maxHeartbeats 1000000 in
theorem wotsVerifies_any (x m : List UInt8) (hx : x.length = 32) (hm : m.length = 32) (w : World) :
    Calls Try.prog 17 #[bagg x, bagg m] w fun e w' => e = .returned (.bool true) ∧ Below w.heap.size w w' := by
  have HS := Lib.hid (sign67_any x m hx hm)
  have hs67 := signW_length x m
  have HR := Lib.hid (fun sv w h => recover_ok m hm sv (signW x m) hs67 w h)
  have HV := Lib.hid (fun sv w h => verify_ok (keyW x) m (keyOf_length _) hm sv (signW x m) hs67 w h)
  have HK := Lib.hid (key70_any x hx)
  rw [recW_sign x m hm] at HR HV
  rw [decide_eq_true rfl] at HV
  have hI : (keyW x).length = 32 := keyOf_length _
  generalize keyW x = k1 at *
  generalize signW x m = sg at *
  have hE := Lib.hid (equal_self k1 hI)
  go_enter Try.func17, Try.ntmps17
  go_upto_region 1 with fail
  obtain ⟨w2, hw2, hbl, hb2, hs2⟩ := allocs_named w [.cells (x.map bv).toArray 24, .cells (m.map bv).toArray 24]
  change Code.wp _ _ _ _ (List.foldl World.alloc w [.cells (x.map bv).toArray 24, .cells (m.map bv).toArray 24])
  rw [hw2]
  have hX : w2.heap[w.heap.size]? = some (.cells (x.map bv).toArray 24 (0, 0)) := hbl 0
  have hM : w2.heap[w.heap.size + 1]? = some (.cells (m.map bv).toArray 24 (0, 0)) := hbl 1
  clear hbl hw2 hs2
  go_wp2_with fail
  refine (wakes06 w2).mono ?_
  rintro e w3 ⟨rfl, hb3⟩
  have hX3 := (hb3.block _ (Array.getElem?_eq_some_iff.1 hX).1).trans hX
  have hM3 := (hb3.block _ (Array.getElem?_eq_some_iff.1 hM).1).trans hM
  have hbw3 := hb2.trans (hb3.mono hb2.size)
  clear hb2 hb3 hX hM
  dsimp only
  go_wp2_with (first
    | (refine wpList_load_row rfl 24 (.tmp 2) rfl w.heap.size rfl 24 _ (0, 0) (.array 32 5) hX3 (by kernel_rfl) rfl (id_info x hx) ?_)
    | (refine wpList_load_row rfl 24 (.tmp 3) rfl (w.heap.size + 1) rfl 24 _ (0, 0) (.array 32 5) hM3 (by kernel_rfl) rfl (id_info m hm) ?_))
  refine (HS.out w3).mono ?_
  rintro e w4 ⟨v4, rfl, hos, hb4⟩
  have hX4 := (hb4.block _ (Array.getElem?_eq_some_iff.1 hX3).1).trans hX3
  have hM4 := (hb4.block _ (Array.getElem?_eq_some_iff.1 hM3).1).trans hM3
  have hbw4 := hbw3.trans (hb4.mono hbw3.size)
  have hr4 := hos.rd
  clear hb4 hX3 hM3 hbw3 HS hos
  dsimp only
  go_wp2_with (refine wpList_load_row rfl 24 (.tmp 3) rfl (w.heap.size + 1) rfl 24 _ (0, 0) (.array 32 5) hM4 (by kernel_rfl) rfl (id_info m hm) ?_)
  refine (HR.out v4 w4 hr4).mono ?_
  rintro e w5 ⟨rfl, hb5⟩
  have hX5 := (hb5.block _ (Array.getElem?_eq_some_iff.1 hX4).1).trans hX4
  have hM5 := (hb5.block _ (Array.getElem?_eq_some_iff.1 hM4).1).trans hM4
  have hbw5 := hbw4.trans (hb5.mono hbw4.size)
  have hr5 := hr4.mono hb5
  clear hb5 hX4 hM4 hbw4 HR hr4
  dsimp only
  go_wp2_with (refine wpList_store_new rfl 24 (.tmp 6) (.tmp 17) rfl _ _ (k1.map bv).toArray rfl rfl (id_info k1 hI) (id_size k1 hI).symm (id_one k1) ?_)
  have hD6 : (w5.alloc (Obj.cells (k1.map bv).toArray 24)).heap[w5.heap.size]? = some (.cells (k1.map bv).toArray 24 (0, 0)) := heap_alloc_new w5 _
  have hb6 : Below w5.heap.size w5 (w5.alloc (Obj.cells (k1.map bv).toArray 24)) := (Below.refl _ _).alloc (Nat.le_refl _) _
  have hX6 := (hb6.block _ (Array.getElem?_eq_some_iff.1 hX5).1).trans hX5
  have hM6 := (hb6.block _ (Array.getElem?_eq_some_iff.1 hM5).1).trans hM5
  have hbw6 := hbw5.trans (hb6.mono hbw5.size)
  have hr6 := hr5.mono hb6
  generalize w5.alloc (Obj.cells (k1.map bv).toArray 24) = w6 at *
  clear hb6 hX5 hM5 hbw5 hr5
  have rD := Lib.hid (range_gro hI hD6)
  have rX := Lib.hid (range_gro hx hX6)
  have rM := Lib.hid (range_gro hm hM6)
  have hr7 := Lib.hid (fun p => hr6.mono (below_gro w6 p))
  clear hD6 hX6 hM6 hr6
  refine wp_region_qgro rfl (by kernel_rfl) ?_
  iterate 3 go_big_quiet_step (fail)
  refine wpQuiet_load_midg (by kernel_rfl) 24 (.tmp 6) rfl w5.heap.size 0 rfl (k1.map bv) (.array 32 5) (by rintro _ ⟨p, rfl⟩; exact rD.out p) (by kernel_rfl) rfl (by rw [List.length_map, hI]; kernel_rfl) ?_
  simp only [Act.put, List.setIfInBounds_toArray, List.set_cons_succ, List.set_cons_zero]
  refine wpQuiet_load_midg (by kernel_rfl) 24 (.tmp 2) rfl w.heap.size 0 rfl (x.map bv) (.array 32 5) (by rintro _ ⟨p, rfl⟩; exact rX.out p) (by kernel_rfl) rfl (by rw [List.length_map, hx]; kernel_rfl) ?_
  simp only [Act.put, List.setIfInBounds_toArray, List.set_cons_succ, List.set_cons_zero]
  go_big_quiet_step ((go_at_call 70; exact gro_call (HK.out _)))
  refine wpQuiet_eqr (by kernel_rfl) 24 24 (.tmp 22) (.tmp 24) rfl (by kernel_rfl) _ _ true rfl rfl hE.out ?_
  simp only [Act.put, List.setIfInBounds_toArray, List.set_cons_succ, List.set_cons_zero]
  iterate 2 go_big_quiet_step (fail)
  refine wpQuiet_load_midg (by kernel_rfl) 24 (.tmp 6) rfl w5.heap.size 0 rfl (k1.map bv) (.array 32 5) (by rintro _ ⟨p, rfl⟩; exact rD.out p) (by kernel_rfl) rfl (by rw [List.length_map, hI]; kernel_rfl) ?_
  simp only [Act.put, List.setIfInBounds_toArray, List.set_cons_succ, List.set_cons_zero]
  refine wpQuiet_load_midg (by kernel_rfl) 24 (.tmp 3) rfl (w.heap.size + 1) 0 rfl (m.map bv) (.array 32 5) (by rintro _ ⟨p, rfl⟩; exact rM.out p) (by kernel_rfl) rfl (by rw [List.length_map, hm]; kernel_rfl) ?_
  simp only [Act.put, List.setIfInBounds_toArray, List.set_cons_succ, List.set_cons_zero]
  go_big_quiet_step (fail)
  go_big_quiet_step ((go_at_call 73; exact gro_call (HV.out _ _ (hr7.out _))))
  repeat go_big_quiet_step (fail)
  refine wpQuiet_nil ?_
  rintro _ ⟨p, rfl⟩
  go_wp2_with fail
  go_ret
  exact ⟨ret_val rfl, hbw6.trans ((below_gro w6 p).mono hbw6.size)⟩
end Go.Proofs.Ytcfkapoppmpehaa

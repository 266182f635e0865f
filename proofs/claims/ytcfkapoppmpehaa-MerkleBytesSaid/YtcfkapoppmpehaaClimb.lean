/-
  What calls of Climb and of climbed give.
-/
import Derived.Test.YtcfkapoppmpehaaSeed
namespace Go.Proofs.Ytcfkapoppmpehaa
open Go.RowKit

/-- The slice value v reads, in the world w, as these digests. -/
def RdI (w : World) (v : Value) (ids : List (List UInt8)) : Prop :=
  ∃ a cap, v = .slice a ids.length cap ∧ ids.length ≤ cap ∧ (∀ i, i < ids.length → (ids.getD i []).length = 32) ∧
    (0 < ids.length → ∃ b o, a = some ⟨b, o, none⟩ ∧ ∀ i, i < ids.length → w.rangeAt b (o + i * 32) ((ids.getD i []).map bv))
theorem rangeAt_lt {w : World} {b o : Nat} {l : List UInt8} (h : w.rangeAt b o (l.map bv)) (hl : 0 < l.length) : b < w.heap.size := by
  have h1 := h 0 (bv (l.getD 0 0)) (by simp [hl])
  exact block_lt_of_cell h1
theorem RdI.mono {w w' : World} {v : Value} {ids : List (List UInt8)} (h : RdI w v ids) (hb : Below w.heap.size w w') : RdI w' v ids := by
  obtain ⟨a, cap, rfl, hc, hl, hr⟩ := h
  refine ⟨a, cap, rfl, hc, hl, fun h0 => ?_⟩
  obtain ⟨b, o, rfl, hj⟩ := hr h0
  refine ⟨b, o, rfl, fun i hi j u hu => ?_⟩
  have hlt := rangeAt_lt (hj i hi) (by rw [hl i hi]; omega)
  rw [hb.cell hlt]
  exact hj i hi j u hu

theorem and1 (x : Int) (p : Nat) (hp : p < 2) (h : (x - p) % 2 = 0) : bits BinOp.and IntKind.i64 x 1 = (p : Int) := by
  unfold bits
  have e : (BitVec.ofInt 64 x &&& BitVec.ofInt 64 1).toNat = p := by
    rw [BitVec.toNat_and]
    have : (BitVec.ofInt 64 1).toNat = 2 ^ 1 - 1 := by decide
    rw [this, Nat.and_two_pow_sub_one_eq_mod]
    rw [BitVec.toNat_ofInt]
    omega
  show IntKind.i64.wrap (((BitVec.ofInt 64 x &&& BitVec.ofInt 64 1).toNat : Nat) : Int) = p
  rw [e]
  exact IntWalk.i64_in _ (by omega)
/-- What is reached from a key behind k parts of a path. -/
def climbTo (x : List UInt8) (leaf : Nat) (ps : List (List UInt8)) : Nat → List UInt8
  | 0 => x
  | k + 1 => if (leaf / 2 ^ k) % 2 = 0 then shaB (78 :: (climbTo x leaf ps k ++ ps.getD k [])) else shaB (78 :: (ps.getD k [] ++ climbTo x leaf ps k))
theorem climbTo_length (x : List UInt8) (hx : x.length = 32) (leaf : Nat) (ps : List (List UInt8)) (k : Nat) : (climbTo x leaf ps k).length = 32 := by
  cases k with
  | zero => exact hx
  | succ k => unfold climbTo; split <;> exact shaB_length _

set_option maxRecDepth 100000 in
set_option maxHeartbeats 1000000 in
theorem climb_ok (x : List UInt8) (hx : x.length = 32) (leaf : Nat) (h8 : leaf < 8) (v : Value) (ps : List (List UInt8)) (hp3 : ps.length = 3) (w : World) (hv : RdI w v ps) :
    Calls Try.prog 26 #[bagg x, .int .i64 leaf, v] w fun e w' => e = .returned (.tuple #[bagg (climbTo x leaf ps 3), .int .i64 0]) ∧ Below w.heap.size w w' := by
  have hv0 := hv
  obtain ⟨a, cap, rfl, hc, hl, hr⟩ := hv
  obtain ⟨b, o, rfl, hrange⟩ := hr (by omega)
  have Hr := Lib.hid hrange
  have Hl := Lib.hid hl
  clear hr hrange hl
  rw [hp3] at hv0 ⊢
  have hdc : decide (0 ≤ (leaf : Int) ∧ (leaf : Int) < 8) = true := by simp; omega
  go_enter Try.func26, Try.ntmps26
  go_wp2_with fail
  obtain ⟨w2, hw2, hbl, hbq, hsq⟩ := allocs_named w [.cells (x.map bv).toArray 24, .cells zero24 24]
  change Calls _ _ _ (List.foldl World.alloc w [.cells (x.map bv).toArray 24, .cells zero24 24]) _
  rw [hw2]
  clear hw2
  refine (leafed_any _ w2).mono ?_
  rintro e w3 ⟨rfl, hb0⟩
  rw [hdc]
  have hX : w3.heap[w.heap.size]? = some (.cells (x.map bv).toArray 24 (0, 0)) := (hb0.block _ (by simp at hsq; omega)).trans (hbl 0)
  have hZ : w3.heap[w.heap.size + 1]? = some (.cells zero24 24 (0, 0)) := (hb0.block _ (by simp at hsq; omega)).trans (hbl 1)
  have hb := hbq.trans (hb0.mono hbq.size)
  clear hbl hbq hsq hb0 hdc
  dsimp only
  go_wp2_with fail
  go_loopw [1, 22] (fun lf i wr => ∃ k : Nat, k ≤ 3 ∧ i = .int .i64 k ∧ lf = .int .i64 (leaf / 2 ^ k : Nat) ∧ Below w.heap.size w wr ∧ wr.heap[w.heap.size]? = some (.cells ((climbTo x leaf ps k).map bv).toArray 24 (0, 0)) ∧ wr.heap[w.heap.size + 1]? = some (.cells zero24 24 (0, 0))) (fun _ i _ => 3 - (intOf i).toNat)
  case atStart => exact ⟨0, by omega, rfl, by simp, hb, hX, hZ⟩
  case round =>
    clear hb hX hZ
    obtain ⟨k, hk, rfl, rfl, hb, hX, hZ⟩ := hrel
    by_cases hlt : k < 3
    · have hb2 := Below.refl wr.heap.size wr
      have hrg : wr.rangeAt b (o + k * 32) ((ps.getD k []).map bv) := by
        have h := Hr.out k (by omega)
        have hlt := rangeAt_lt h (by rw [Hl.out k (by omega)]; omega)
        intro j u hu
        rw [hb.cell hlt]
        exact h j u hu
      have hpl := Hl.out k (by omega)
      have hcl := climbTo_length x hx leaf ps k
      by_cases hbit : (leaf / 2 ^ k) % 2 = 0
      · have Hst := Lib.hid (show climbTo x leaf ps (k + 1) = shaB (78 :: (climbTo x leaf ps k ++ ps.getD k [])) from by rw [climbTo, if_pos hbit])
        have hbit' : bits BinOp.and IntKind.i64 ((leaf / 2 ^ k : Nat) : Int) 1 = 0 := and1 _ 0 (by omega) (by omega)
        have Hlk := Lib.hid (show leaf / 2 ^ (k + 1) = leaf / 2 ^ k / 2 from by rw [Nat.pow_succ, Nat.div_div_eq_div_mul])
        have h8' : leaf / 2 ^ k < 8 := Nat.lt_of_le_of_lt (Nat.div_le_self _ _) h8
        generalize climbTo x leaf ps k = c at *
        generalize ps.getD k [] = p at *
        generalize leaf / 2 ^ k = lk at *
        clear hbit
        have hX' := (Below.heap_alloc wr (Obj.cells (p.map bv).toArray 24) _ (Array.getElem?_eq_some_iff.1 hX).1).trans hX
        have hP' : (wr.alloc (Obj.cells (p.map bv).toArray 24)).heap[wr.heap.size]? = some (.cells (p.map bv).toArray 24 (0, 0)) := heap_alloc_new wr _
        have hZ' := (Below.heap_alloc wr (Obj.cells (p.map bv).toArray 24) _ (Array.getElem?_eq_some_iff.1 hZ).1).trans hZ
        have hb' := hb.alloc hb.size (Obj.cells (p.map bv).toArray 24)
        have hl1 := (Array.getElem?_eq_some_iff.1 hX').1
        have hl2 := (Array.getElem?_eq_some_iff.1 hZ').1
        go_wp2_with (first
          | (refine wpList_load_mid rfl 24 (.tmp 24) rfl b (o + k * 32) rfl (p.map bv) (.array 32 5) hrg (by kernel_rfl) rfl (by rw [List.length_map, hpl]; kernel_rfl) ?_)
          | (refine wpList_store_new rfl 24 (.tmp 9) (.tmp 25) rfl _ _ (p.map bv).toArray rfl rfl (id_info p hpl) (id_size p hpl).symm (id_one p) ?_)
          | (refine wpList_load_row rfl 24 (.tmp 3) rfl w.heap.size rfl 24 _ (0, 0) (.array 32 5) hX' (by kernel_rfl) rfl (id_info c hcl) ?_)
          | (refine wpList_load_row rfl 24 (.tmp 9) rfl wr.heap.size rfl 24 _ (0, 0) (.array 32 5) hP' (by kernel_rfl) rfl (id_info p hpl) ?_))
        have hI := shaB_length (78 :: (c ++ p))
        have HJ := Lib.hid (join_any c p hcl hpl (wr.alloc (Obj.cells (p.map bv).toArray 24)))
        generalize shaB (78 :: (c ++ p)) = d at *
        refine HJ.out.mono ?_
        rintro e w6 ⟨rfl, hb6⟩
        have hX6 := (hb6.block _ hl1).trans hX'
        have hZ6 := (hb6.block _ hl2).trans hZ'
        dsimp only
        go_step
        refine wpList_store_row rfl 24 (.tmp 3) (.tmp 31) rfl w.heap.size 24 _ (d.map bv).toArray rfl rfl hX6 (id_info d hI) ((id_size c hcl).trans (id_size d hI).symm) (id_one d) ?_
        go_wp2_with fail
        go_roundw
        case rel =>
          refine ⟨k + 1, by omega, by go_num, by rw [Hlk.out]; go_num, below_setRow' (hb'.trans (hb6.mono hb'.size)) (Nat.le_refl _) _, ?_, by rw [setRow_other _ _ _ _ (by omega)]; exact hZ6⟩
          rw [Hst.out]
          exact setRow_heap _ _ _ _ _ _ hX6
        case measure => simp [intOf]; omega
      · have Hst := Lib.hid (show climbTo x leaf ps (k + 1) = shaB (78 :: (ps.getD k [] ++ climbTo x leaf ps k)) from by rw [climbTo, if_neg hbit])
        have hbit' : bits BinOp.and IntKind.i64 ((leaf / 2 ^ k : Nat) : Int) 1 = 1 := and1 _ 1 (by omega) (by omega)
        have Hlk := Lib.hid (show leaf / 2 ^ (k + 1) = leaf / 2 ^ k / 2 from by rw [Nat.pow_succ, Nat.div_div_eq_div_mul])
        have h8' : leaf / 2 ^ k < 8 := Nat.lt_of_le_of_lt (Nat.div_le_self _ _) h8
        generalize climbTo x leaf ps k = c at *
        generalize ps.getD k [] = p at *
        generalize leaf / 2 ^ k = lk at *
        clear hbit
        have hX' := (Below.heap_alloc wr (Obj.cells (p.map bv).toArray 24) _ (Array.getElem?_eq_some_iff.1 hX).1).trans hX
        have hP' : (wr.alloc (Obj.cells (p.map bv).toArray 24)).heap[wr.heap.size]? = some (.cells (p.map bv).toArray 24 (0, 0)) := heap_alloc_new wr _
        have hZ' := (Below.heap_alloc wr (Obj.cells (p.map bv).toArray 24) _ (Array.getElem?_eq_some_iff.1 hZ).1).trans hZ
        have hb' := hb.alloc hb.size (Obj.cells (p.map bv).toArray 24)
        have hl1 := (Array.getElem?_eq_some_iff.1 hX').1
        have hl2 := (Array.getElem?_eq_some_iff.1 hZ').1
        go_wp2_with (first
          | (refine wpList_load_mid rfl 24 (.tmp 24) rfl b (o + k * 32) rfl (p.map bv) (.array 32 5) hrg (by kernel_rfl) rfl (by rw [List.length_map, hpl]; kernel_rfl) ?_)
          | (refine wpList_store_new rfl 24 (.tmp 9) (.tmp 25) rfl _ _ (p.map bv).toArray rfl rfl (id_info p hpl) (id_size p hpl).symm (id_one p) ?_)
          | (refine wpList_load_row rfl 24 (.tmp 3) rfl w.heap.size rfl 24 _ (0, 0) (.array 32 5) hX' (by kernel_rfl) rfl (id_info c hcl) ?_)
          | (refine wpList_load_row rfl 24 (.tmp 9) rfl wr.heap.size rfl 24 _ (0, 0) (.array 32 5) hP' (by kernel_rfl) rfl (id_info p hpl) ?_))
        have hI := shaB_length (78 :: (p ++ c))
        have HJ := Lib.hid (join_any p c hpl hcl (wr.alloc (Obj.cells (p.map bv).toArray 24)))
        generalize shaB (78 :: (p ++ c)) = d at *
        refine HJ.out.mono ?_
        rintro e w6 ⟨rfl, hb6⟩
        have hX6 := (hb6.block _ hl1).trans hX'
        have hZ6 := (hb6.block _ hl2).trans hZ'
        dsimp only
        go_step
        refine wpList_store_row rfl 24 (.tmp 3) (.tmp 34) rfl w.heap.size 24 _ (d.map bv).toArray rfl rfl hX6 (id_info d hI) ((id_size c hcl).trans (id_size d hI).symm) (id_one d) ?_
        go_wp2_with fail
        go_roundw
        case rel =>
          refine ⟨k + 1, by omega, by go_num, by rw [Hlk.out]; go_num, below_setRow' (hb'.trans (hb6.mono hb'.size)) (Nat.le_refl _) _, ?_, by rw [setRow_other _ _ _ _ (by omega)]; exact hZ6⟩
          rw [Hst.out]
          exact setRow_heap _ _ _ _ _ _ hX6
        case measure => simp [intOf]; omega
    · obtain rfl : k = 3 := by omega
      have hcl := climbTo_length x hx leaf ps 3
      generalize hcc : climbTo x leaf ps 3 = c at *
      have Hcc := Lib.hid hcc
      clear hcc
      go_wp2_with (first
        | (refine wpList_load_row rfl 24 (.tmp 3) rfl w.heap.size rfl 24 _ (0, 0) (.array 32 5) hX (by kernel_rfl) rfl (id_info c hcl) ?_)
        | (refine wpList_store_row rfl 24 (.tmp 6) (.tmp 38) rfl (w.heap.size + 1) 24 zero24 (c.map bv).toArray rfl rfl hZ (id_info c hcl) (id_size c hcl).symm (id_one c) ?_))
      refine bodyPost_ret (results_cell_tmp (d := .array 32 5) rfl _ _ (w.heap.size + 1) 24 _ (0, 0) rfl (setRow_heap _ _ _ _ _ _ hZ) (by kernel_rfl) rfl (id_info c hcl)) rfl ⟨by rw [Hcc.out]; rfl, below_setRow' hb (by omega) _⟩
set_option maxRecDepth 100000 in
set_option maxHeartbeats 1000000 in
theorem climbed_ok (x : List UInt8) (hx : x.length = 32) (leaf : Nat) (h8 : leaf < 8) (v : Value) (ps : List (List UInt8)) (hp3 : ps.length = 3) (w : World) (hv : RdI w v ps) :
    Calls Try.prog 27 #[bagg x, .int .i64 leaf, v] w fun e w' => e = .returned (bagg (climbTo x leaf ps 3)) ∧ Below w.heap.size w w' := by
  have hv0 := hv
  obtain ⟨a, cap, rfl, hc, hl, hr⟩ := hv
  obtain ⟨b, o, rfl, hrange⟩ := hr (by omega)
  have Hr := Lib.hid hrange
  have Hl := Lib.hid hl
  clear hr hrange hl
  rw [hp3] at hv0 ⊢
  go_enter Try.func27, Try.ntmps27
  go_wp2_with fail
  obtain ⟨w3, hw2, hbl, hb, hsq⟩ := allocs_named w [.cells (x.map bv).toArray 24, .cells zero24 24]
  change Code.wp _ _ _ _ (List.foldl World.alloc w [.cells (x.map bv).toArray 24, .cells zero24 24])
  rw [hw2]
  clear hw2
  have hX : w3.heap[w.heap.size]? = some (.cells (x.map bv).toArray 24 (0, 0)) := hbl 0
  have hZ : w3.heap[w.heap.size + 1]? = some (.cells zero24 24 (0, 0)) := hbl 1
  clear hbl hsq
  go_loopw [11] (fun i wr => ∃ k : Nat, k ≤ 3 ∧ i = .int .i64 k ∧ Below w.heap.size w wr ∧ wr.heap[w.heap.size]? = some (.cells ((climbTo x leaf ps k).map bv).toArray 24 (0, 0)) ∧ wr.heap[w.heap.size + 1]? = some (.cells zero24 24 (0, 0))) (fun i _ => 3 - (intOf i).toNat)
  case atStart => exact ⟨0, by omega, rfl, hb, hX, hZ⟩
  case round =>
    clear hb hX hZ
    obtain ⟨k, hk, rfl, hb, hX, hZ⟩ := hrel
    by_cases hlt : k < 3
    · have hb2 := Below.refl wr.heap.size wr
      have hrg : wr.rangeAt b (o + k * 32) ((ps.getD k []).map bv) := by
        have h := Hr.out k (by omega)
        have hlt := rangeAt_lt h (by rw [Hl.out k (by omega)]; omega)
        intro j u hu
        rw [hb.cell hlt]
        exact h j u hu
      have hpl := Hl.out k (by omega)
      have hcl := climbTo_length x hx leaf ps k
      by_cases hbit : (leaf / 2 ^ k) % 2 = 0
      · have Hst := Lib.hid (show climbTo x leaf ps (k + 1) = shaB (78 :: (climbTo x leaf ps k ++ ps.getD k [])) from by rw [climbTo, if_pos hbit])
        have hbit' : bits BinOp.and IntKind.i64 ((leaf : Int) / 2 ^ k) 1 = 0 := and1 _ 0 (by omega) (by rw [show ((leaf : Int) / 2 ^ k) = ((leaf / 2 ^ k : Nat) : Int) from by simp]; omega)
        have h8' : leaf / 2 ^ k < 8 := Nat.lt_of_le_of_lt (Nat.div_le_self _ _) h8
        generalize climbTo x leaf ps k = c at *
        generalize ps.getD k [] = p at *
        clear hbit
        have hX' := (Below.heap_alloc wr (Obj.cells (p.map bv).toArray 24) _ (Array.getElem?_eq_some_iff.1 hX).1).trans hX
        have hP' : (wr.alloc (Obj.cells (p.map bv).toArray 24)).heap[wr.heap.size]? = some (.cells (p.map bv).toArray 24 (0, 0)) := heap_alloc_new wr _
        have hZ' := (Below.heap_alloc wr (Obj.cells (p.map bv).toArray 24) _ (Array.getElem?_eq_some_iff.1 hZ).1).trans hZ
        have hb' := hb.alloc hb.size (Obj.cells (p.map bv).toArray 24)
        have hl1 := (Array.getElem?_eq_some_iff.1 hX').1
        have hl2 := (Array.getElem?_eq_some_iff.1 hZ').1
        go_wp2_with (first
          | (refine wpList_load_mid rfl 24 (.tmp 14) rfl b (o + k * 32) rfl (p.map bv) (.array 32 5) hrg (by kernel_rfl) rfl (by rw [List.length_map, hpl]; kernel_rfl) ?_)
          | (refine wpList_store_new rfl 24 (.tmp 8) (.tmp 15) rfl _ _ (p.map bv).toArray rfl rfl (id_info p hpl) (id_size p hpl).symm (id_one p) ?_)
          | (refine wpList_load_row rfl 24 (.tmp 3) rfl w.heap.size rfl 24 _ (0, 0) (.array 32 5) hX' (by kernel_rfl) rfl (id_info c hcl) ?_)
          | (refine wpList_load_row rfl 24 (.tmp 8) rfl wr.heap.size rfl 24 _ (0, 0) (.array 32 5) hP' (by kernel_rfl) rfl (id_info p hpl) ?_))
        have hI := shaB_length (78 :: (c ++ p))
        have HJ := Lib.hid (join2_any c p hcl hpl (wr.alloc (Obj.cells (p.map bv).toArray 24)))
        generalize shaB (78 :: (c ++ p)) = d at *
        refine HJ.out.mono ?_
        rintro e w6 ⟨rfl, hb6⟩
        have hX6 := (hb6.block _ hl1).trans hX'
        have hZ6 := (hb6.block _ hl2).trans hZ'
        dsimp only
        go_step
        refine wpList_store_row rfl 24 (.tmp 3) (.tmp 23) rfl w.heap.size 24 _ (d.map bv).toArray rfl rfl hX6 (id_info d hI) ((id_size c hcl).trans (id_size d hI).symm) (id_one d) ?_
        go_wp2_with fail
        go_roundw
        case rel =>
          refine ⟨k + 1, by omega, by go_num, below_setRow' (hb'.trans (hb6.mono hb'.size)) (Nat.le_refl _) _, ?_, by rw [setRow_other _ _ _ _ (by omega)]; exact hZ6⟩
          rw [Hst.out]
          exact setRow_heap _ _ _ _ _ _ hX6
        case measure => simp [intOf]; omega
      · have Hst := Lib.hid (show climbTo x leaf ps (k + 1) = shaB (78 :: (ps.getD k [] ++ climbTo x leaf ps k)) from by rw [climbTo, if_neg hbit])
        have hbit' : bits BinOp.and IntKind.i64 ((leaf : Int) / 2 ^ k) 1 = 1 := and1 _ 1 (by omega) (by rw [show ((leaf : Int) / 2 ^ k) = ((leaf / 2 ^ k : Nat) : Int) from by simp]; omega)
        have h8' : leaf / 2 ^ k < 8 := Nat.lt_of_le_of_lt (Nat.div_le_self _ _) h8
        generalize climbTo x leaf ps k = c at *
        generalize ps.getD k [] = p at *
        clear hbit
        have hX' := (Below.heap_alloc wr (Obj.cells (p.map bv).toArray 24) _ (Array.getElem?_eq_some_iff.1 hX).1).trans hX
        have hP' : (wr.alloc (Obj.cells (p.map bv).toArray 24)).heap[wr.heap.size]? = some (.cells (p.map bv).toArray 24 (0, 0)) := heap_alloc_new wr _
        have hZ' := (Below.heap_alloc wr (Obj.cells (p.map bv).toArray 24) _ (Array.getElem?_eq_some_iff.1 hZ).1).trans hZ
        have hb' := hb.alloc hb.size (Obj.cells (p.map bv).toArray 24)
        have hl1 := (Array.getElem?_eq_some_iff.1 hX').1
        have hl2 := (Array.getElem?_eq_some_iff.1 hZ').1
        go_wp2_with (first
          | (refine wpList_load_mid rfl 24 (.tmp 14) rfl b (o + k * 32) rfl (p.map bv) (.array 32 5) hrg (by kernel_rfl) rfl (by rw [List.length_map, hpl]; kernel_rfl) ?_)
          | (refine wpList_store_new rfl 24 (.tmp 8) (.tmp 15) rfl _ _ (p.map bv).toArray rfl rfl (id_info p hpl) (id_size p hpl).symm (id_one p) ?_)
          | (refine wpList_load_row rfl 24 (.tmp 3) rfl w.heap.size rfl 24 _ (0, 0) (.array 32 5) hX' (by kernel_rfl) rfl (id_info c hcl) ?_)
          | (refine wpList_load_row rfl 24 (.tmp 8) rfl wr.heap.size rfl 24 _ (0, 0) (.array 32 5) hP' (by kernel_rfl) rfl (id_info p hpl) ?_))
        have hI := shaB_length (78 :: (p ++ c))
        have HJ := Lib.hid (join2_any p c hpl hcl (wr.alloc (Obj.cells (p.map bv).toArray 24)))
        generalize shaB (78 :: (p ++ c)) = d at *
        refine HJ.out.mono ?_
        rintro e w6 ⟨rfl, hb6⟩
        have hX6 := (hb6.block _ hl1).trans hX'
        have hZ6 := (hb6.block _ hl2).trans hZ'
        dsimp only
        go_step
        refine wpList_store_row rfl 24 (.tmp 3) (.tmp 26) rfl w.heap.size 24 _ (d.map bv).toArray rfl rfl hX6 (id_info d hI) ((id_size c hcl).trans (id_size d hI).symm) (id_one d) ?_
        go_wp2_with fail
        go_roundw
        case rel =>
          refine ⟨k + 1, by omega, by go_num, below_setRow' (hb'.trans (hb6.mono hb'.size)) (Nat.le_refl _) _, ?_, by rw [setRow_other _ _ _ _ (by omega)]; exact hZ6⟩
          rw [Hst.out]
          exact setRow_heap _ _ _ _ _ _ hX6
        case measure => simp [intOf]; omega
    · obtain rfl : k = 3 := by omega
      have hcl := climbTo_length x hx leaf ps 3
      generalize hcc : climbTo x leaf ps 3 = c at *
      have Hcc := Lib.hid hcc
      clear hcc
      go_wp2_with (first
        | (refine wpList_load_row rfl 24 (.tmp 3) rfl w.heap.size rfl 24 _ (0, 0) (.array 32 5) hX (by kernel_rfl) rfl (id_info c hcl) ?_)
        | (refine wpList_store_row rfl 24 (.tmp 6) (.tmp 28) rfl (w.heap.size + 1) 24 zero24 (c.map bv).toArray rfl rfl hZ (id_info c hcl) (id_size c hcl).symm (id_one c) ?_))
      refine bodyPost_ret (results_cell_row (d := .array 32 5) rfl _ _ (w.heap.size + 1) 24 _ (0, 0) rfl (setRow_heap _ _ _ _ _ _ hZ) (by kernel_rfl) rfl (id_info c hcl)) rfl ⟨by rw [Hcc.out], below_setRow' hb (by omega) _⟩

theorem zero24_info : (Try.prog.info? 24).map (·.size) = some zero24.size := by kernel_rfl
theorem zero24_one : zero24.all (·.oneCell') = true := by kernel_rfl

set_option maxRecDepth 100000 in
set_option maxHeartbeats 400000 in
theorem climb_arg (x : List UInt8) (n : Int) (hn : n < 0 ∨ 8 ≤ n) (v : Value) (w : World) :
    Calls Try.prog 26 #[bagg x, .int .i64 n, v] w fun e w' => e = .returned (.tuple #[.agg zero24, .int .i64 2]) ∧ Below w.heap.size w w' := by
  have hdc : decide (0 ≤ n ∧ n < 8) = false := by simp; omega
  go_enter Try.func26, Try.ntmps26
  go_wp2_with fail
  obtain ⟨w2, hw2, hbl, hbq, hsq⟩ := allocs_named w [.cells (x.map bv).toArray 24, .cells zero24 24]
  change Calls _ _ _ (List.foldl World.alloc w [.cells (x.map bv).toArray 24, .cells zero24 24]) _
  rw [hw2]
  clear hw2
  refine (leafed_any _ w2).mono ?_
  rintro e w3 ⟨rfl, hb0⟩
  rw [hdc]
  have hZ : w3.heap[w.heap.size + 1]? = some (.cells zero24 24 (0, 0)) := (hb0.block _ (by simp at hsq; omega)).trans (hbl 1)
  have hb := hbq.trans (hb0.mono hbq.size)
  clear hbl hbq hsq hb0 hdc
  dsimp only
  go_wp2_with (first
    | (refine wpList_build rfl 24 _ rfl (by kernel_rfl) ?_; rw [show (Option.getD (Try.prog.built 24 _) #[]) = zero24 from by kernel_rfl])
    | (refine wpList_store_row rfl 24 (.tmp 6) (.tmp 14) rfl (w.heap.size + 1) 24 zero24 zero24 rfl rfl hZ zero24_info rfl zero24_one ?_))
  refine bodyPost_ret (results_cell_tmp (d := .array 32 5) rfl _ _ (w.heap.size + 1) 24 _ (0, 0) rfl (setRow_heap _ _ _ _ _ _ hZ) (by kernel_rfl) rfl zero24_info) rfl ⟨rfl, below_setRow' hb (by omega) _⟩

set_option maxRecDepth 100000 in
set_option maxHeartbeats 400000 in
theorem climb_long (x : List UInt8) (n : Int) (h0 : 0 ≤ n) (h8 : n < 8) (a : Option Addr) (len cap : Nat) (hlen : len ≠ 3) (w : World) :
    Calls Try.prog 26 #[bagg x, .int .i64 n, .slice a len cap] w fun e w' => e = .returned (.tuple #[.agg zero24, .int .i64 3]) ∧ Below w.heap.size w w' := by
  have hdc : decide (0 ≤ n ∧ n < 8) = true := by simp; omega
  have hne : ((len : Int) == 3) = false := by simp; omega
  have hne2 : ((len : Int) != 3) = true := by simp; omega
  go_enter Try.func26, Try.ntmps26
  go_wp2_with fail
  obtain ⟨w2, hw2, hbl, hbq, hsq⟩ := allocs_named w [.cells (x.map bv).toArray 24, .cells zero24 24]
  change Calls _ _ _ (List.foldl World.alloc w [.cells (x.map bv).toArray 24, .cells zero24 24]) _
  rw [hw2]
  clear hw2
  refine (leafed_any _ w2).mono ?_
  rintro e w3 ⟨rfl, hb0⟩
  rw [hdc]
  have hZ : w3.heap[w.heap.size + 1]? = some (.cells zero24 24 (0, 0)) := (hb0.block _ (by simp at hsq; omega)).trans (hbl 1)
  have hb := hbq.trans (hb0.mono hbq.size)
  clear hbl hbq hsq hb0 hdc
  dsimp only
  go_wp2_with (first
    | (refine wpList_build rfl 24 _ rfl (by kernel_rfl) ?_; rw [show (Option.getD (Try.prog.built 24 _) #[]) = zero24 from by kernel_rfl])
    | (refine wpList_store_row rfl 24 (.tmp 6) (.tmp 19) rfl (w.heap.size + 1) 24 zero24 zero24 rfl rfl hZ zero24_info rfl zero24_one ?_))
  refine bodyPost_ret (results_cell_tmp (d := .array 32 5) rfl _ _ (w.heap.size + 1) 24 _ (0, 0) rfl (setRow_heap _ _ _ _ _ _ hZ) (by kernel_rfl) rfl zero24_info) rfl ⟨rfl, below_setRow' hb (by omega) _⟩
end Go.Proofs.Ytcfkapoppmpehaa

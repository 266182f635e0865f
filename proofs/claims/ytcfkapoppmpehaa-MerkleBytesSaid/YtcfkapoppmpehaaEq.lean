/-
  Arrays of integers, compared by == and by !=; and the given program's Same.
-/
import Derived.Test.YtcfkapoppmpehaaClimb
import Derived.ChangeKeysEq
namespace Go.Proofs.Ytcfkapoppmpehaa
open Go.RowKit

theorem eqItems_ints (d : Nat) (t : TypeId) (k : IntKind) (ht : Try.prog.underlying t = some (.int k)) (w : World) (xs ys : Array Value) (f g : Nat → Int) : ∀ is : List Nat, (∀ i ∈ is, xs[i]? = some (.int k (f i)) ∧ ys[i]? = some (.int k (g i))) →
    (Op.eqItems (d + 1) t 1 xs ys is).run Try.prog w = .ok (decide (∀ i ∈ is, f i = g i)) w
  | [], _ => by simp [Op.eqItems]
  | i :: is, h => by
    have hp : Try.prog.plainKey t = true := by unfold Program.plainKey; rw [ht]
    have hi := h i (by simp)
    have ih := eqItems_ints d t k ht w xs ys f g is (fun j hj => h j (by simp [hj]))
    have e1 : (part t xs i).run Try.prog w = .ok (.int k (f i)) w := run_part_plain w hp hi.1
    have e2 : (part t ys i).run Try.prog w = .ok (.int k (g i)) w := run_part_plain w hp hi.2
    simp only [Op.eqItems, Nat.mul_one, Sem.run_bind, e1, e2, Result.andThen_ok, run_equalIn_int w d t k k (f i) (g i) ht]
    by_cases hh : f i = g i
    · simp [hh, ih]
    · simp [hh]

theorem equal_bytes (t : TypeId) (n : Nat) (hu : Try.prog.underlying t = some (.array n 5)) (p q : List UInt8) (hp : p.length = n) (hq : q.length = n) (w : World) :
    (Op.equalIn 10000 t (.agg (p.map bv).toArray) (.agg (q.map bv).toArray)).run Try.prog w = .ok (decide (p = q)) w := by
  have hx : Try.prog.cellsOf 5 = 1 := by kernel_rfl
  obtain ⟨i, hi⟩ := info_of_underlying (show Try.prog.underlying 5 = some (.int .u8) from by kernel_rfl)
  rw [show (10000 : Nat) = 9998 + 1 + 1 from rfl, run_equalIn_array w (9998 + 1) _ _ hu hi, hx]
  rw [eqItems_ints 9998 5 .u8 (by kernel_rfl) w _ _ (fun i => ((p.getD i 0).toNat : Int)) (fun i => ((q.getD i 0).toNat : Int)) (List.range n) ?_]
  · refine congrArg (fun b => Result.ok b w) (decide_eq_decide.2 ?_)
    constructor
    · intro h
      refine List.ext_getElem (by omega) fun j h1 h2 => ?_
      have := h j (List.mem_range.2 (by omega))
      simp only [List.getD_eq_getElem?_getD, List.getElem?_eq_getElem h1, List.getElem?_eq_getElem h2, Option.getD_some] at this
      exact UInt8.toNat_inj.1 (by omega)
    · rintro rfl j _; rfl
  · intro j hj
    have hj := List.mem_range.1 hj
    simp [hp, hq, hj]

theorem run_eql_id (p q : List UInt8) (hp : p.length = 32) (hq : q.length = 32) (w : World) : (binOp .eql 24 (bagg p) (bagg q)).run Try.prog w = .ok (.bool (decide (p = q))) w := by
  rw [run_eql_struct, equal_bytes 24 32 (by kernel_rfl) p q hp hq]; rfl
theorem run_neq_id (p q : List UInt8) (hp : p.length = 32) (hq : q.length = 32) (w : World) : (binOp .neq 24 (bagg p) (bagg q)).run Try.prog w = .ok (.bool (!(decide (p = q)))) w := by
  rw [run_neq_struct, equal_bytes 24 32 (by kernel_rfl) p q hp hq]; rfl

theorem equal_words (t : TypeId) (n : Nat) (hu : Try.prog.underlying t = some (.array n 64)) (p q : List (BitVec 32)) (hp : p.length = n) (hq : q.length = n) (w : World) :
    (Op.equalIn 10000 t (.agg (p.map wv).toArray) (.agg (q.map wv).toArray)).run Try.prog w = .ok (decide (p = q)) w := by
  have hx : Try.prog.cellsOf 64 = 1 := by kernel_rfl
  obtain ⟨i, hi⟩ := info_of_underlying (show Try.prog.underlying 64 = some (.int .u32) from by kernel_rfl)
  rw [show (10000 : Nat) = 9998 + 1 + 1 from rfl, run_equalIn_array w (9998 + 1) _ _ hu hi, hx]
  rw [eqItems_ints 9998 64 .u32 (by kernel_rfl) w _ _ (fun i => ((p.getD i 0).toNat : Int)) (fun i => ((q.getD i 0).toNat : Int)) (List.range n) ?_]
  · refine congrArg (fun b => Result.ok b w) (decide_eq_decide.2 ?_)
    constructor
    · intro h
      refine List.ext_getElem (by omega) fun j h1 h2 => ?_
      have := h j (List.mem_range.2 (by omega))
      simp only [List.getD_eq_getElem?_getD, List.getElem?_eq_getElem h1, List.getElem?_eq_getElem h2, Option.getD_some] at this
      exact BitVec.toNat_inj.1 (by omega)
    · rintro rfl j _; rfl
  · intro j hj
    have hj := List.mem_range.1 hj
    simp [hp, hq, hj]


theorem RdI.at {w : World} {ids : List (List UInt8)} {b o : Nat} (h : ∀ i, i < ids.length → w.rangeAt b (o + i * 32) ((ids.getD i []).map bv)) (hl : ∀ i, i < ids.length → (ids.getD i []).length = 32) (base : Nat) (w' : World) (hb : Below base w w') (hbase : w.heap.size ≤ base) (i : Nat) (hi : i < ids.length) : w'.rangeAt b (o + i * 32) ((ids.getD i []).map bv) := by
  have h1 := h i hi
  have hlt := rangeAt_lt h1 (by rw [hl i hi]; omega)
  intro j u hu
  rw [hb.cell (by show b < base; omega)]
  exact h1 j u hu

theorem equal_id (p q : List UInt8) (hp : p.length = 32) (hq : q.length = 32) (w : World) : (Op.equalIn 10000 24 (bagg p) (bagg q)).run Try.prog w = .ok (decide (p = q)) w :=
  equal_bytes 24 32 (by kernel_rfl) p q hp hq w

set_option maxRecDepth 100000 in
set_option maxHeartbeats 400000 in
theorem same_any (v u : Value) (xs ys : List (List UInt8)) (w : World) (hv : RdI w v xs) (hu : RdI w u ys) (hbd : xs.length < 65536) :
    Calls Try.prog 28 #[v, u] w fun e w' => e = .returned (.bool (decide (xs = ys))) ∧ Below w.heap.size w w' := by
  obtain ⟨a, cap, rfl, hc, hl, hr⟩ := hv
  obtain ⟨a', cap', rfl, hc', hl', hr'⟩ := hu
  by_cases hlen : xs.length = ys.length
  · have hlb : ((xs.length : Int) != (ys.length : Int)) = false := by simp [hlen]

    go_enter Try.func28, Try.ntmps28
    go_wp2_with fail
    go_loopw [13] (fun i wr => ∃ k : Nat, k ≤ xs.length ∧ i = .int .i64 k ∧ Below w.heap.size w wr ∧ ∀ j, j < k → xs.getD j [] = ys.getD j []) (fun i _ => xs.length - (intOf i).toNat)
    case atStart => exact ⟨0, by omega, rfl, Below.refl _ _, fun j hj => by omega⟩
    case round =>
      obtain ⟨k, hk, rfl, hb, hq⟩ := hrel
      by_cases hlt : k < xs.length
      · have Hnext : xs.getD k [] = ys.getD k [] → ∀ j, j < k + 1 → xs.getD j [] = ys.getD j [] := fun h j hj => by
          rcases Nat.lt_succ_iff_lt_or_eq.1 hj with h1 | rfl
          · exact hq j h1
          · exact h
        have Hbad : xs.getD k [] ≠ ys.getD k [] → decide (xs = ys) = false := fun h => by simp; rintro rfl; exact h rfl
        have Hnext := Lib.hid Hnext
        have Hbad := Lib.hid Hbad
        obtain ⟨b, o, rfl, hrange⟩ := hr (by omega)
        obtain ⟨b', o', rfl, hrange'⟩ := hr' (by omega)
        have h1 := RdI.at hrange hl _ wr hb (Nat.le_refl _) k hlt
        have h2 := RdI.at hrange' hl' _ wr hb (Nat.le_refl _) k (by omega)
        have l1 := hl k hlt
        have l2 := hl' k (by omega)
        have hk2 : k < ys.length := by omega
        have hky : k < ys.length := by omega
        have H1 : ∀ p, (gro wr p).rangeAt b (o + k * 32) ((xs.getD k []).map bv) := fun p j u hu => by
          have hlt := rangeAt_lt h1 (by rw [l1]; omega)
          rw [(below_gro wr p).cell hlt]; exact h1 j u hu
        have H2 : ∀ p, (gro wr p).rangeAt b' (o' + k * 32) ((ys.getD k []).map bv) := fun p j u hu => by
          have hlt := rangeAt_lt h2 (by rw [l2]; omega)
          rw [(below_gro wr p).cell hlt]; exact h2 j u hu
        have H1 := Lib.hid H1
        have H2 := Lib.hid H2
        clear hr hr' hrange hrange' h1 h2 hq
        generalize xs.getD k [] = x at *
        generalize ys.getD k [] = y at *
        have hE := equal_id x y l1 l2
        go_wp2_with fail
        refine wp_region_qgro rfl (by kernel_rfl) ?_
        iterate 3 go_big_quiet_step (fail)
        refine wpQuiet_load_mid rfl 24 (.tmp 18) rfl b (o + k * 32) rfl (x.map bv) (.array 32 5) (by rintro _ ⟨p, rfl⟩; exact H1.out p) (by kernel_rfl) rfl (by rw [List.length_map, l1]; kernel_rfl) ?_
        simp only [Act.put, List.setIfInBounds_toArray, List.set_cons_succ, List.set_cons_zero]
        iterate 3 go_big_quiet_step (fail)
        refine wpQuiet_load_mid rfl 24 (.tmp 22) rfl b' (o' + k * 32) rfl (y.map bv) (.array 32 5) (by rintro _ ⟨p, rfl⟩; exact H2.out p) (by kernel_rfl) rfl (by rw [List.length_map, l2]; kernel_rfl) ?_
        simp only [Act.put, List.setIfInBounds_toArray, List.set_cons_succ, List.set_cons_zero]

        go_big_quiet_step (fail)
        refine wpQuiet_nil ?_
        rintro _ ⟨p, rfl⟩
        by_cases hxy : x = y
        · simp only [hxy, decide_true, Bool.not_true]
          go_wp2_with fail
          go_roundw
          case rel => exact ⟨k + 1, by omega, by go_num, hb.trans ((below_gro wr p).mono hb.size), Hnext.out hxy⟩
          case measure => simp [intOf]; omega
        · simp only [hxy, decide_false, Bool.not_false]
          go_wp2_with fail
          go_ret
          exact ⟨ret_val (by simp [Hbad.out hxy]), hb.trans ((below_gro wr p).mono hb.size)⟩
      · obtain rfl : k = xs.length := by omega
        have he : decide (xs = ys) = true := by
          simp only [decide_eq_true_eq]
          refine List.ext_getElem hlen fun j h1 h2 => ?_
          have := hq j h1
          simpa [List.getElem?_eq_getElem h1, List.getElem?_eq_getElem h2] using this
        have he := Lib.hid he
        clear hr hr' hq
        go_wp2_with fail
        go_ret
        exact ⟨ret_val (by simp [he.out]), hb⟩
  · have hlb : ((xs.length : Int) != (ys.length : Int)) = true := by simp; omega
    have hne : decide (xs = ys) = false := by simp; rintro rfl; exact hlen rfl
    go_enter Try.func28, Try.ntmps28
    go_wp2_with fail
    go_ret
    exact ⟨ret_val (by simp [hne]), Below.refl _ _⟩
def one32 : List UInt8 := 1 :: List.replicate 31 0
theorem one32_length : one32.length = 32 := rfl

/-- A guarded (and wanted) load of a whole row, in a region that only reads. -/
theorem wpQuiet_load_midg {P : Program} {ops : Array Oper} {C : World → Prop} {Q : Act → Prop} {a : Act} {o : Oper} {rest : List Oper} (hg : Region.wanted o (yielded ops a.tmps) = true) (ty : TypeId) (x : Operand) (ho : o.op = .load ty x)
    (b off : Nat) (hx : a.eval x = .pointer (some ⟨b, off, none⟩)) (cs : List Value) (d : TypeDesc) (hS : ∀ w, C w → w.rangeAt b off cs)
    (hu : P.underlying ty = some d) (hd : d.isRow = true) (hi : (P.info? ty).map (·.size) = some cs.length)
    (h : wpQuiet P ops C Q rest (a.put o.dst (.agg cs.toArray))) : wpQuiet P ops C Q (o :: rest) a :=
  BigFrame.wpQuiet_want hg fun K hK => ⟨_, fun w hw => by
    unfold Oper.quietAt execOp
    simp only [ho, hx, Instr.loadAt, Instr.sureAddr, Sem.run_bind, Sem.run_pure, Result.andThen_ok, run_loadVar_mid w b off ty cs d (hS w hw) hu hd hi]
    exact ⟨rfl, rfl⟩, hK _ h⟩
@[go_sem] theorem build24_one (w : World) : (Instr.build 24 #[(0, .int .u8 1)]).run Try.prog w = .ok (bagg one32) w := run_build w 24 _ _ (by kernel_rfl)

set_option maxRecDepth 100000 in
set_option maxHeartbeats 400000 in
theorem wakes08 (w : World) :
    Calls Try.prog 23 #[] w fun e w' => e = .returned (.bool true) ∧ Below w.heap.size w w' := by
  go_enter Try.func23, Try.ntmps23
  go_wp2_with (refine wpList_build rfl 24 _ rfl (by kernel_rfl) ?_; rw [show (Option.getD (Try.prog.built 24 _) #[]) = (one32.map bv).toArray from by kernel_rfl])
  have hI := shaB_length (76 :: lb 7 :: one32)
  have H1 := Lib.hid (seed1_any one32 one32_length 7 (by omega) (by omega) w)
  have H2 := Lib.hid (seed2_any one32 one32_length 7)
  have H3 := Lib.hid (join_any (shaB (76 :: lb 7 :: one32)) one32 hI one32_length)
  have H4 := Lib.hid (join2_any (shaB (76 :: lb 7 :: one32)) one32 hI one32_length)
  have hI2 := shaB_length (78 :: (shaB (76 :: lb 7 :: one32) ++ one32))
  generalize shaB (78 :: (shaB (76 :: lb 7 :: one32) ++ one32)) = d2 at *
  generalize shaB (76 :: lb 7 :: one32) = d at *
  refine H1.out.mono ?_
  rintro e w3 ⟨rfl, hb⟩
  dsimp only
  go_wp2_with (refine wpList_store_new rfl 24 (.tmp 1) (.tmp 6) rfl _ _ (d.map bv).toArray rfl rfl (id_info d hI) (id_size d hI).symm (id_one d) ?_)
  have hD : ∀ p, (gro (w3.alloc (Obj.cells (d.map bv).toArray 24)) p).rangeAt w3.heap.size 0 (d.map bv) := fun p => by
    have := rangeAt_row (gro_heap (heap_alloc_new w3 (Obj.cells (d.map bv).toArray 24)) p) 0 32
    simpa [hI, List.take_of_length_le] using this
  have hD := Lib.hid hD
  have hE := equal_id d d hI hI
  have hE2 := equal_id d2 d2 hI2 hI2
  refine wp_region_qgro rfl (by kernel_rfl) ?_
  iterate 3 go_big_quiet_step (fail)
  refine wpQuiet_load_midg (by kernel_rfl) 24 (.tmp 1) rfl w3.heap.size 0 rfl (d.map bv) (.array 32 5) (by rintro _ ⟨p, rfl⟩; exact hD.out p) (by kernel_rfl) rfl (by rw [List.length_map, hI]; kernel_rfl) ?_
  simp only [Act.put, List.setIfInBounds_toArray, List.set_cons_succ, List.set_cons_zero]
  go_big_quiet_step (fail)
  go_big_quiet_step ((go_at_call 79; exact gro_call (H2.out _)))
  iterate 3 go_big_quiet_step (fail)
  refine wpQuiet_load_midg (by kernel_rfl) 24 (.tmp 1) rfl w3.heap.size 0 rfl (d.map bv) (.array 32 5) (by rintro _ ⟨p, rfl⟩; exact hD.out p) (by kernel_rfl) rfl (by rw [List.length_map, hI]; kernel_rfl) ?_
  simp only [Act.put, List.setIfInBounds_toArray, List.set_cons_succ, List.set_cons_zero]
  go_big_quiet_step (fail)
  go_big_quiet_step ((go_at_call 24; exact gro_call (H3.out _)))
  refine wpQuiet_load_midg (by kernel_rfl) 24 (.tmp 1) rfl w3.heap.size 0 rfl (d.map bv) (.array 32 5) (by rintro _ ⟨p, rfl⟩; exact hD.out p) (by kernel_rfl) rfl (by rw [List.length_map, hI]; kernel_rfl) ?_
  simp only [Act.put, List.setIfInBounds_toArray, List.set_cons_succ, List.set_cons_zero]
  go_big_quiet_step (fail)
  go_big_quiet_step ((go_at_call 25; exact gro_call (H4.out _)))
  repeat go_big_quiet_step (fail)
  refine wpQuiet_nil ?_
  rintro _ ⟨p, rfl⟩
  go_wp2_with fail
  go_ret
  refine ⟨ret_val (by simp), ?_⟩
  exact (hb.alloc hb.size _).trans ((below_gro _ p).mono (by have := hb.size; simp; omega))
end Go.Proofs.Ytcfkapoppmpehaa

/-
  What a call of Block gives: eight numbers behind a block.
-/
import Derived.Test.YtcfkapoppmpehaaBlkA
import Derived.Deep.DeepCutAuto
import Derived.Deep.RegionWith
namespace Go.Proofs.Ytcfkapoppmpehaa
open Go.RowKit

theorem getw (l : List (BitVec 32)) (i : Nat) (h : i < l.length) : (l.map wv).toArray[i]? = some (wv (l.getD i 0#32)) := by simp [h]
theorem setL {α : Type} (f : α → Value) (l : List α) (k : Nat) (x : α) : ((l.map f).toArray).setIfInBounds k (f x) = ((l.set k x).map f).toArray := by
  simp [List.map_set]

/-- What lies in memory through a call of 'Block': the boxes, the mixes, the words. -/
structure Blk (w0 : World) (s : St) (bs : List UInt8) (ws : List (BitVec 32)) (wr : World) : Prop where
  below : Below w0.heap.size w0 wr
  h0 : wr.heap[w0.heap.size]? = some (.cells (s.list.map wv).toArray 65 (0, 0))
  h1 : wr.heap[w0.heap.size + 1]? = some (.cells (bs.map bv).toArray 68 (0, 0))
  h2 : wr.heap[w0.heap.size + 2]? = some (.cells #[wv 0#32, wv 0#32, wv 0#32, wv 0#32, wv 0#32, wv 0#32, wv 0#32, wv 0#32] 65 (0, 0))
  h3 : wr.heap[w0.heap.size + 3]? = some (.cells (mixv 7 18 3 91) 126 (0, 0))
  h4 : wr.heap[w0.heap.size + 4]? = some (.cells (mixv 17 19 10 91) 126 (0, 0))
  h5 : wr.heap[w0.heap.size + 5]? = some (.cells (mixv 2 13 22 92) 126 (0, 0))
  h6 : wr.heap[w0.heap.size + 6]? = some (.cells (mixv 6 11 25 92) 126 (0, 0))
  h7 : wr.heap[w0.heap.size + 7]? = some (.cells (ws.map wv).toArray 127 (0, 0))

section
variable {w0 : World} {s : St} {bs : List UInt8} {ws : List (BitVec 32)} {wr : World}
theorem Blk.byte (h : Blk w0 s bs ws wr) (j : Nat) (hj : j < bs.length) : wr.cell? ⟨w0.heap.size + 1, j, none⟩ = some (bv (bs.getD j 0)) := by
  rw [cell_of_row _ _ _ _ _ _ h.h1]; simp [hj]
theorem Blk.word (h : Blk w0 s bs ws wr) (j : Nat) (hj : j < ws.length) : wr.cell? ⟨w0.heap.size + 7, j, none⟩ = some (wv (ws.getD j 0#32)) := by
  rw [cell_of_row _ _ _ _ _ _ h.h7]; simp [hj]
theorem Blk.free (h : Blk w0 s bs ws wr) (j : Nat) : wr.frozen? ⟨w0.heap.size + 7, j, none⟩ = false := frozen_of_row _ _ _ _ _ h.h7
theorem Blk.lt (h : Blk w0 s bs ws wr) : w0.heap.size + 8 ≤ wr.heap.size := (Array.getElem?_eq_some_iff.1 h.h7).1
/-- Blocks below w0's size plus eight stay: so does all of it. -/
theorem Blk.mono (h : Blk w0 s bs ws wr) {w' : World} (hb : Below (w0.heap.size + 8) wr w') : Blk w0 s bs ws w' where
  below := h.below.trans (hb.mono (by omega))
  h0 := by rw [hb.block _ (by omega)]; exact h.h0
  h1 := by rw [hb.block _ (by omega)]; exact h.h1
  h2 := by rw [hb.block _ (by omega)]; exact h.h2
  h3 := by rw [hb.block _ (by omega)]; exact h.h3
  h4 := by rw [hb.block _ (by omega)]; exact h.h4
  h5 := by rw [hb.block _ (by omega)]; exact h.h5
  h6 := by rw [hb.block _ (by omega)]; exact h.h6
  h7 := by rw [hb.block _ (by omega)]; exact h.h7
theorem Blk.gro (h : Blk w0 s bs ws wr) (p : Gp) : Blk w0 s bs ws (gro wr p) := h.mono ((below_gro wr p).mono h.lt)
theorem cell_mix {w : World} {g : Nat} {a b c f : Nat} (h : w.heap[g]? = some (.cells (mixv a b c f) 126 (0, 0))) :
    w.cell? ⟨g, 0, none⟩ = some (.int .i64 a) ∧ w.cell? ⟨g, 1, none⟩ = some (.int .i64 b) ∧ w.cell? ⟨g, 2, none⟩ = some (.int .i64 c) ∧ w.cell? ⟨g, 3, none⟩ = some (.func (.func f) #[] #[]) := by
  refine ⟨?_, ?_, ?_, ?_⟩ <;> (rw [cell_of_row _ _ _ _ _ _ h]; rfl)
theorem and7 (x : Int) (p : Nat) (hp : p < 8) (h : (x - p) % 8 = 0) : bits BinOp.and IntKind.i64 x 7 = (p : Int) := by
  unfold bits
  have h7 : (7 : BitVec 64) = BitVec.ofNat 64 (2 ^ 3 - 1) := rfl
  have e : (BitVec.ofInt 64 x &&& BitVec.ofInt 64 7).toNat = p := by
    rw [BitVec.toNat_and]
    have : (BitVec.ofInt 64 7).toNat = 2 ^ 3 - 1 := by decide
    rw [this, Nat.and_two_pow_sub_one_eq_mod]
    rw [BitVec.toNat_ofInt]
    omega
  show IntKind.i64.wrap (((BitVec.ofInt 64 x &&& BitVec.ofInt 64 7).toNat : Nat) : Int) = p
  rw [e]
  exact IntWalk.i64_in _ (by omega)
theorem cell_rowL {w : World} {R t : Nat} {σ : St} (h : w.heap[R]? = some (.cells ((rowL t σ).map wv).toArray 65 (0, 0))) (p j : Nat) (hp : p < 8) (hj : (p + t) % 8 = j) :
    w.cell? ⟨R, p, none⟩ = some (wv (σ.get j)) := by
  rw [cell_of_row _ _ _ _ _ _ h]
  simp [rowL_getD t σ p hp, hj]
theorem free_rowL {w : World} {R : Nat} {cs : Array Value} (h : w.heap[R]? = some (.cells cs 65 (0, 0))) (p : Nat) : w.frozen? ⟨R, p, none⟩ = false := frozen_of_row _ _ _ _ _ h
/-- A word is written. -/
theorem Blk.setW (h : Blk w0 s bs ws wr) (k : Nat) (x : BitVec 32) : Blk w0 s bs (ws.set k x) (wr.setCell ⟨w0.heap.size + 7, k, none⟩ (wv x)) where
  below := h.below.setCell (by simp) _
  h0 := by rw [heap_setCell_other _ _ _ _ (by simp)]; exact h.h0
  h1 := by rw [heap_setCell_other _ _ _ _ (by simp)]; exact h.h1
  h2 := by rw [heap_setCell_other _ _ _ _ (by simp)]; exact h.h2
  h3 := by rw [heap_setCell_other _ _ _ _ (by simp)]; exact h.h3
  h4 := by rw [heap_setCell_other _ _ _ _ (by simp)]; exact h.h4
  h5 := by rw [heap_setCell_other _ _ _ _ (by simp)]; exact h.h5
  h6 := by rw [heap_setCell_other _ _ _ _ (by simp)]; exact h.h6
  h7 := by rw [heap_setCell_same _ _ _ _ _ _ h.h7, setL]
end

theorem word4_bits (b0 b1 b2 b3 : UInt8) :
    bits BinOp.or IntKind.u32 (bits BinOp.or IntKind.u32 (bits BinOp.or IntKind.u32 (↑b0.toNat % 4294967296 * 16777216 % 4294967296) (↑b1.toNat % 4294967296 * 65536 % 4294967296)) (↑b2.toNat % 4294967296 * 256 % 4294967296)) (↑b3.toNat % 4294967296) = ((word4 b0 b1 b2 b3).toNat : Int) := by
  have l0 := b0.toNat_lt
  have l1 := b1.toNat_lt
  have l2 := b2.toNat_lt
  have l3 := b3.toNat_lt
  have n0 : ((b0.toNat : Int) % 4294967296 * 16777216 % 4294967296) = ((BitVec.ofNat 32 (b0.toNat * 16777216)).toNat : Int) := by simp; omega
  have n1 : ((b1.toNat : Int) % 4294967296 * 65536 % 4294967296) = ((BitVec.ofNat 32 (b1.toNat * 65536)).toNat : Int) := by simp; omega
  have n2 : ((b2.toNat : Int) % 4294967296 * 256 % 4294967296) = ((BitVec.ofNat 32 (b2.toNat * 256)).toNat : Int) := by simp; omega
  have n3 : ((b3.toNat : Int) % 4294967296) = ((BitVec.ofNat 32 b3.toNat).toNat : Int) := by simp; omega
  rw [n0, n1, n2, n3, bits_or32, bits_or32, bits_or32]
  unfold wor word4
  rw [BitVec.toNat_or, BitVec.toNat_or, BitVec.toNat_or]
  simp only [BitVec.toNat_ofNat]
  rw [Nat.mod_eq_of_lt (by omega), Nat.mod_eq_of_lt (by omega), Nat.mod_eq_of_lt (by omega), Nat.mod_eq_of_lt (by omega), Nat.mod_eq_of_lt (by omega)]
  have a1 := Nat.two_pow_add_eq_or_of_lt (i := 24) (b := b1.toNat * 65536) (by omega) b0.toNat
  have a2 := Nat.two_pow_add_eq_or_of_lt (i := 16) (b := b2.toNat * 256) (by omega) (b0.toNat * 256 + b1.toNat)
  have a3 := Nat.two_pow_add_eq_or_of_lt (i := 8) (b := b3.toNat) (by omega) ((b0.toNat * 256 + b1.toNat) * 256 + b2.toNat)
  rw [show b0.toNat * 16777216 = 2 ^ 24 * b0.toNat by omega, ← a1,
    show 2 ^ 24 * b0.toNat + b1.toNat * 65536 = 2 ^ 16 * (b0.toNat * 256 + b1.toNat) by omega, ← a2,
    show 2 ^ 16 * (b0.toNat * 256 + b1.toNat) + b2.toNat * 256 = 2 ^ 8 * ((b0.toNat * 256 + b1.toNat) * 256 + b2.toNat) by omega, ← a3]
  congr 1
  omega

def wordsTo (bs : List UInt8) (k : Nat) : List (BitVec 32) := (List.range 16).map fun i => if i < k then word4 (bs.getD (4 * i) 0) (bs.getD (4 * i + 1) 0) (bs.getD (4 * i + 2) 0) (bs.getD (4 * i + 3) 0) else 0#32
theorem wordsTo_length (bs : List UInt8) (k : Nat) : (wordsTo bs k).length = 16 := by simp [wordsTo]
theorem wordsTo_full (bs : List UInt8) (s : St) : wordsTo bs 16 = (rounds bs s 0).1 := by
  unfold wordsTo
  rw [show (rounds bs s 0).1 = (List.range 16).map (fun i => word4 (bs.getD (4 * i) 0) (bs.getD (4 * i + 1) 0) (bs.getD (4 * i + 2) 0) (bs.getD (4 * i + 3) 0)) from rfl]
  refine List.map_congr_left fun i hi => ?_
  rw [if_pos (List.mem_range.1 hi)]
theorem wordsTo_step (bs : List UInt8) (k : Nat) (hk : k < 16) :
    (wordsTo bs k).set k (word4 (bs.getD (4 * k) 0) (bs.getD (4 * k + 1) 0) (bs.getD (4 * k + 2) 0) (bs.getD (4 * k + 3) 0)) = wordsTo bs (k + 1) := by
  apply List.ext_getElem?
  intro i
  unfold wordsTo
  by_cases e : k = i
  · subst e; rw [List.getElem?_set_self (by simpa using hk)]; simp [hk]
  · rw [List.getElem?_set_ne e]
    by_cases hi : i < 16
    · simp only [List.getElem?_map, List.getElem?_range hi, Option.map_some]
      by_cases h : i < k
      · rw [if_pos h, if_pos (by omega)]
      · rw [if_neg h, if_neg (by omega)]
    · rw [List.getElem?_eq_none (by simp; omega), List.getElem?_eq_none (by simp; omega)]

theorem blk_start (w : World) (s : St) (bs : List UInt8) : Blk w s bs (wordsTo bs 0)
    ((((((((w.alloc (Obj.cells (s.list.map wv).toArray 65)).alloc (Obj.cells (bs.map bv).toArray 68)).alloc
      (Obj.cells #[wv 0#32, wv 0#32, wv 0#32, wv 0#32, wv 0#32, wv 0#32, wv 0#32, wv 0#32] 65)).alloc
      (Obj.cells (mixv 7 18 3 91) 126)).alloc (Obj.cells (mixv 17 19 10 91) 126)).alloc (Obj.cells (mixv 2 13 22 92) 126)).alloc (Obj.cells (mixv 6 11 25 92) 126)).alloc
      (Obj.cells ((wordsTo bs 0).map wv).toArray 127)) where
  below := below_allocs [.cells (s.list.map wv).toArray 65, .cells (bs.map bv).toArray 68, .cells #[wv 0#32, wv 0#32, wv 0#32, wv 0#32, wv 0#32, wv 0#32, wv 0#32, wv 0#32] 65, .cells (mixv 7 18 3 91) 126, .cells (mixv 17 19 10 91) 126, .cells (mixv 2 13 22 92) 126, .cells (mixv 6 11 25 92) 126, .cells ((wordsTo bs 0).map wv).toArray 127] w
  h0 := heap_allocs w [.cells (s.list.map wv).toArray 65, .cells (bs.map bv).toArray 68, .cells #[wv 0#32, wv 0#32, wv 0#32, wv 0#32, wv 0#32, wv 0#32, wv 0#32, wv 0#32] 65, .cells (mixv 7 18 3 91) 126, .cells (mixv 17 19 10 91) 126, .cells (mixv 2 13 22 92) 126, .cells (mixv 6 11 25 92) 126, .cells ((wordsTo bs 0).map wv).toArray 127] 0
  h1 := heap_allocs w [.cells (s.list.map wv).toArray 65, .cells (bs.map bv).toArray 68, .cells #[wv 0#32, wv 0#32, wv 0#32, wv 0#32, wv 0#32, wv 0#32, wv 0#32, wv 0#32] 65, .cells (mixv 7 18 3 91) 126, .cells (mixv 17 19 10 91) 126, .cells (mixv 2 13 22 92) 126, .cells (mixv 6 11 25 92) 126, .cells ((wordsTo bs 0).map wv).toArray 127] 1
  h2 := heap_allocs w [.cells (s.list.map wv).toArray 65, .cells (bs.map bv).toArray 68, .cells #[wv 0#32, wv 0#32, wv 0#32, wv 0#32, wv 0#32, wv 0#32, wv 0#32, wv 0#32] 65, .cells (mixv 7 18 3 91) 126, .cells (mixv 17 19 10 91) 126, .cells (mixv 2 13 22 92) 126, .cells (mixv 6 11 25 92) 126, .cells ((wordsTo bs 0).map wv).toArray 127] 2
  h3 := heap_allocs w [.cells (s.list.map wv).toArray 65, .cells (bs.map bv).toArray 68, .cells #[wv 0#32, wv 0#32, wv 0#32, wv 0#32, wv 0#32, wv 0#32, wv 0#32, wv 0#32] 65, .cells (mixv 7 18 3 91) 126, .cells (mixv 17 19 10 91) 126, .cells (mixv 2 13 22 92) 126, .cells (mixv 6 11 25 92) 126, .cells ((wordsTo bs 0).map wv).toArray 127] 3
  h4 := heap_allocs w [.cells (s.list.map wv).toArray 65, .cells (bs.map bv).toArray 68, .cells #[wv 0#32, wv 0#32, wv 0#32, wv 0#32, wv 0#32, wv 0#32, wv 0#32, wv 0#32] 65, .cells (mixv 7 18 3 91) 126, .cells (mixv 17 19 10 91) 126, .cells (mixv 2 13 22 92) 126, .cells (mixv 6 11 25 92) 126, .cells ((wordsTo bs 0).map wv).toArray 127] 4
  h5 := heap_allocs w [.cells (s.list.map wv).toArray 65, .cells (bs.map bv).toArray 68, .cells #[wv 0#32, wv 0#32, wv 0#32, wv 0#32, wv 0#32, wv 0#32, wv 0#32, wv 0#32] 65, .cells (mixv 7 18 3 91) 126, .cells (mixv 17 19 10 91) 126, .cells (mixv 2 13 22 92) 126, .cells (mixv 6 11 25 92) 126, .cells ((wordsTo bs 0).map wv).toArray 127] 5
  h6 := heap_allocs w [.cells (s.list.map wv).toArray 65, .cells (bs.map bv).toArray 68, .cells #[wv 0#32, wv 0#32, wv 0#32, wv 0#32, wv 0#32, wv 0#32, wv 0#32, wv 0#32] 65, .cells (mixv 7 18 3 91) 126, .cells (mixv 17 19 10 91) 126, .cells (mixv 2 13 22 92) 126, .cells (mixv 6 11 25 92) 126, .cells ((wordsTo bs 0).map wv).toArray 127] 6
  h7 := heap_allocs w [.cells (s.list.map wv).toArray 65, .cells (bs.map bv).toArray 68, .cells #[wv 0#32, wv 0#32, wv 0#32, wv 0#32, wv 0#32, wv 0#32, wv 0#32, wv 0#32] 65, .cells (mixv 7 18 3 91) 126, .cells (mixv 17 19 10 91) 126, .cells (mixv 2 13 22 92) 126, .cells (mixv 6 11 25 92) 126, .cells ((wordsTo bs 0).map wv).toArray 127] 7

set_option maxRecDepth 100000 in
set_option maxHeartbeats 1000000 in
theorem block_any (s : St) (bs : List UInt8) (hb : bs.length = 64) (w : World)  :
    Calls Try.prog 50 #[wagg s.list, bagg bs] w fun e w' => e = .returned (wagg (blockS s bs).list) ∧ Below w.heap.size w w' := by
  go_enter Try.func50, Try.ntmps50
  go_wp2_with fail
  go_loopw [27] (fun i wr => ∃ k : Nat, k ≤ 16 ∧ i = .int .i64 k ∧ Blk w s bs (wordsTo bs k) wr) (fun i _ => 16 - (intOf i).toNat)
  case atStart => exact ⟨0, by omega, rfl, blk_start w s bs⟩
  case round =>
    obtain ⟨k, hk, rfl, hB⟩ := hrel
    have hwl := wordsTo_length bs k
    by_cases hlt : k < 16
    · have e0 := gro_cell (hB.byte (4 * k) (by omega))
      have e1 := gro_cell (hB.byte (4 * k + 1) (by omega))
      have e2 := gro_cell (hB.byte (4 * k + 2) (by omega))
      have e3 := gro_cell (hB.byte (4 * k + 3) (by omega))
      have e4 := gro_cell (hB.word k (by omega))
      have e5 := gro_free (hB.word k (by omega)) (hB.free k)
      have hst := Lib.hid (wordsTo_step bs k hlt)
      clear hwl
      generalize bs.getD (4 * k) 0 = b0 at *
      generalize bs.getD (4 * k + 1) 0 = b1 at *
      generalize bs.getD (4 * k + 2) 0 = b2 at *
      generalize bs.getD (4 * k + 3) 0 = b3 at *
      generalize (wordsTo bs k).getD k 0#32 = wk at *
      go_wp2_with fail
      refine wp_region_qgrot 31 (by kernel_rfl) (by kernel_rfl) ?_
      simp only [List.take_succ_cons, List.take_zero, List.drop_succ_cons, List.drop_zero]
      repeat (go_big_quiet_step (fail))
      refine wpQuiet_nil ?_
      rintro _ ⟨p, rfl⟩
      go_wp2
      go_roundw
      case rel =>
        refine ⟨k + 1, by omega, by go_num, ?_⟩
        rw [word4_bits, ← hst.out]
        exact (hB.gro p).setW k (word4 b0 b1 b2 b3)
      case measure => simp [intOf]; omega
    · obtain rfl : k = 16 := by omega
      have hl0 : (wordsTo bs 16).length = 16 := hwl
      clear hwl
      rw [wordsTo_full bs s] at hB
      go_wp2_with (first
        | (refine wpList_load_row rfl 65 (.tmp 2) rfl w.heap.size rfl 65 _ (0, 0) (.array 8 64) hB.h0 (by kernel_rfl) rfl (by kernel_rfl) ?_)
        | (refine wpList_store_new rfl 65 (.tmp 11) (.tmp 62) rfl _ _ (s.list.map wv).toArray rfl rfl (by kernel_rfl) (by kernel_rfl) (by kernel_rfl) ?_))
      refine (constants_any _).mono ?_
      rintro e w1 ⟨rfl, hb1⟩
      obtain ⟨R, hR⟩ : ∃ R, R = wr.heap.size := ⟨_, rfl⟩
      have hRlt := hB.lt
      have hB1 : Blk w s bs (rounds bs s 0).1 w1 := hB.mono ((((Below.refl _ _).alloc (Nat.le_refl _) _).trans (hb1.mono (by simp))).mono hRlt)
      have hrow : w1.heap[R]? = some (.cells ((rowL 0 s).map wv).toArray 65 (0, 0)) := by
        rw [hb1.block R (by rw [hR]; simp), hR]; exact heap_alloc_new _ _
      clear hB hb1 hl0
      rw [← hR] at hRlt ⊢
      clear hR wr
      go_wp2_with fail
      go_loopw [64] (fun i wr => ∃ t : Nat, t ≤ 64 ∧ i = .int .i64 t ∧ Blk w s bs (rounds bs s t).1 wr ∧ wr.heap[R]? = some (.cells ((rowL t (rounds bs s t).2).map wv).toArray 65 (0, 0))) (fun i _ => 64 - (intOf i).toNat)
      case atStart => exact ⟨0, by omega, rfl, hB1, hrow⟩
      case round =>
        clear hB1 hrow
        obtain ⟨t, ht, rfl, hB, hrow⟩ := hrel
        by_cases hlt : t < 64
        · have hix := fun w => run_index69 w constL rfl t hlt
          have hwl := rounds_length bs s t
          generalize hws : (rounds bs s t).1 = ws at *
          have Hws := Lib.hid hws
          clear hws
          go_upto_if 72 with fail
          go_cut [] (fun wx => Blk w s bs (turnW t ws) wx ∧ wx.heap[R]? = some (.cells ((rowL t (rounds bs s t).2).map wv).toArray 65 (0, 0)))
          case first =>
            by_cases h16 : 16 ≤ t
            · have c0 := gro_cell (hB.word (t % 16) (by omega))
              have f0 := gro_free (hB.word (t % 16) (by omega)) (hB.free _)
              have c2 := gro_cell (hB.word ((t - 2) % 16) (by omega))
              have c7 := gro_cell (hB.word ((t - 7) % 16) (by omega))
              have c15 := gro_cell (hB.word ((t - 15) % 16) (by omega))
              have m30 := gro_cell (cell_mix hB.h3).1
              have m31 := gro_cell (cell_mix hB.h3).2.1
              have m32 := gro_cell (cell_mix hB.h3).2.2.1
              have m33 := gro_cell (cell_mix hB.h3).2.2.2
              have m40 := gro_cell (cell_mix hB.h4).1
              have m41 := gro_cell (cell_mix hB.h4).2.1
              have m42 := gro_cell (cell_mix hB.h4).2.2.1
              have m43 := gro_cell (cell_mix hB.h4).2.2.2
              have HT := Lib.hid (show turnW t ws = ws.set (t % 16) (wadd (ws.getD (t % 16) 0#32) (wadd (wadd (mixP (ws.getD ((t - 2) % 16) 0#32) 17 19 10) (ws.getD ((t - 7) % 16) 0#32)) (mixP (ws.getD ((t - 15) % 16) 0#32) 7 18 3))) from if_pos h16)
              clear hwl
              generalize ws.getD (t % 16) 0#32 = x0 at *
              generalize ws.getD ((t - 2) % 16) 0#32 = x2 at *
              generalize ws.getD ((t - 7) % 16) 0#32 = x7 at *
              generalize ws.getD ((t - 15) % 16) 0#32 = x15 at *
              go_wp2_with fail
              refine wp_region_qgrot 26 (by kernel_rfl) (by kernel_rfl) ?_
              simp only [List.take_succ_cons, List.take_zero, List.drop_succ_cons, List.drop_zero]
              repeat (go_big_quiet_step (first
                | (go_at_call_of 93 (wv x2); exact gro_call (mix_pushed x2 17 19 10 (by omega) (by omega) (by omega) _))
                | (go_at_call_of 93 (wv x15); exact gro_call (mix_pushed x15 7 18 3 (by omega) (by omega) (by omega) _))))
              refine wpQuiet_nil ?_
              rintro _ ⟨p, rfl⟩
              go_wp2_with fail
              go_meet
              rw [HT.out]
              exact ⟨(hB.gro p).setW _ _, by rw [heap_setCell_other _ _ _ _ (by show R ≠ w.heap.size + 7; omega)]; exact gro_heap hrow p⟩
            · go_wp2_with fail
              go_meet
              exact ⟨by rw [show turnW t ws = ws from if_neg h16]; exact hB, hrow⟩
          case rest =>
            clear hB hrow
            obtain ⟨hB, hrow⟩ := hcut
            have hwl2 : (turnW t ws).length = 16 := by rw [turnW_length]; exact hwl
            have Hwl2 := Lib.hid hwl2
            obtain ⟨p0, b0, s0⟩ : ∃ p : Nat, p < 8 ∧ (p + t) % 8 = 0 := ⟨(64 - t) % 8, by omega, by omega⟩
            obtain ⟨p1, b1, s1⟩ : ∃ p : Nat, p < 8 ∧ (p + t) % 8 = 1 := ⟨(65 - t) % 8, by omega, by omega⟩
            obtain ⟨p2, b2, s2⟩ : ∃ p : Nat, p < 8 ∧ (p + t) % 8 = 2 := ⟨(66 - t) % 8, by omega, by omega⟩
            obtain ⟨p3, b3, s3⟩ : ∃ p : Nat, p < 8 ∧ (p + t) % 8 = 3 := ⟨(67 - t) % 8, by omega, by omega⟩
            obtain ⟨p4, b4, s4⟩ : ∃ p : Nat, p < 8 ∧ (p + t) % 8 = 4 := ⟨(68 - t) % 8, by omega, by omega⟩
            obtain ⟨p5, b5, s5⟩ : ∃ p : Nat, p < 8 ∧ (p + t) % 8 = 5 := ⟨(69 - t) % 8, by omega, by omega⟩
            obtain ⟨p6, b6, s6⟩ : ∃ p : Nat, p < 8 ∧ (p + t) % 8 = 6 := ⟨(70 - t) % 8, by omega, by omega⟩
            obtain ⟨p7, b7, s7⟩ : ∃ p : Nat, p < 8 ∧ (p + t) % 8 = 7 := ⟨(71 - t) % 8, by omega, by omega⟩
            have q0 : bits BinOp.and IntKind.i64 (-(t : Int)) 7 = (p0 : Int) := and7 _ _ b0 (by omega)
            have q1 : bits BinOp.and IntKind.i64 (1 - (t : Int)) 7 = (p1 : Int) := and7 _ _ b1 (by omega)
            have q2 : bits BinOp.and IntKind.i64 (2 - (t : Int)) 7 = (p2 : Int) := and7 _ _ b2 (by omega)
            have q3 : bits BinOp.and IntKind.i64 (3 - (t : Int)) 7 = (p3 : Int) := and7 _ _ b3 (by omega)
            have q4 : bits BinOp.and IntKind.i64 (4 - (t : Int)) 7 = (p4 : Int) := and7 _ _ b4 (by omega)
            have q5 : bits BinOp.and IntKind.i64 (5 - (t : Int)) 7 = (p5 : Int) := and7 _ _ b5 (by omega)
            have q6 : bits BinOp.and IntKind.i64 (6 - (t : Int)) 7 = (p6 : Int) := and7 _ _ b6 (by omega)
            have q7 : bits BinOp.and IntKind.i64 (7 - (t : Int)) 7 = (p7 : Int) := and7 _ _ b7 (by omega)
            have S0 := Lib.hid s0
            have S1 := Lib.hid s1
            have S2 := Lib.hid s2
            have S3 := Lib.hid s3
            have S4 := Lib.hid s4
            have S5 := Lib.hid s5
            have S6 := Lib.hid s6
            have S7 := Lib.hid s7
            clear s0 s1 s2 s3 s4 s5 s6 s7 hwl hwl2
            generalize hσ : (rounds bs s t).2 = σ at *
            have Hσ := Lib.hid hσ
            clear hσ
            have r0 := gro_cell (cell_rowL hrow p0 0 b0 S0.out)
            have r1 := gro_cell (cell_rowL hrow p1 1 b1 S1.out)
            have r2 := gro_cell (cell_rowL hrow p2 2 b2 S2.out)
            have r4 := gro_cell (cell_rowL hrow p4 4 b4 S4.out)
            have r5 := gro_cell (cell_rowL hrow p5 5 b5 S5.out)
            have r6 := gro_cell (cell_rowL hrow p6 6 b6 S6.out)
            simp only [St.get] at r0 r1 r2 r4 r5 r6
            go_wp2_with fail
            refine wp_region_qgro (by kernel_rfl) (by kernel_rfl) ?_
            repeat (go_big_quiet_step (fail))
            refine wpQuiet_nil ?_
            rintro _ ⟨p, rfl⟩
            replace hB := hB.gro p
            replace hrow := gro_heap hrow p
            clear r0 r1 r2 r4 r5 r6
            generalize gro wc p = wd at *
            clear p wc
            have r7 := gro_cell (cell_rowL hrow p7 7 b7 S7.out)
            have m60 := gro_cell (cell_mix hB.h6).1
            have m61 := gro_cell (cell_mix hB.h6).2.1
            have m62 := gro_cell (cell_mix hB.h6).2.2.1
            have m63 := gro_cell (cell_mix hB.h6).2.2.2
            have cw := gro_cell (hB.word (t % 16) (by rw [Hwl2.out]; omega))
            generalize hx : (turnW t ws).getD (t % 16) 0#32 = x at *
            have Hx := Lib.hid hx
            clear hx
            simp only [St.get] at r7
            go_wp2_with fail
            refine wp_region_qgro (by kernel_rfl) (by kernel_rfl) ?_
            repeat (go_big_quiet_step ((go_at_call 93; exact gro_call (mix_turned _ 6 11 25 (by omega) (by omega) (by omega) _))))
            refine wpQuiet_nil ?_
            rintro _ ⟨p, rfl⟩
            replace hB := hB.gro p
            replace hrow := gro_heap hrow p
            clear r7 m60 m61 m62 m63 cw
            generalize gro wd p = we at *
            clear p wd
            have r3 := cell_rowL hrow p3 3 b3 S3.out
            have n3 := free_rowL hrow p3
            have m50 := (cell_mix hB.h5).1
            have m51 := (cell_mix hB.h5).2.1
            have m52 := (cell_mix hB.h5).2.2.1
            have m53 := (cell_mix hB.h5).2.2.2
            simp only [St.get] at r3
            go_wp2_with fail
            have hB3 : Blk w s bs (turnW t ws) (we.setCell ⟨R, p3, none⟩ (wv (wadd σ.d (roundS σ (constL.getD t 0#32) x)))) := hB.mono ((Below.refl _ _).setCell hRlt _)
            have hrow3 := heap_setCell_same we R p3 _ _ (wv (wadd σ.d (roundS σ (constL.getD t 0#32) x))) hrow
            rw [setL] at hrow3
            refine (mix_turned σ.a 2 13 22 (by omega) (by omega) (by omega) _).mono ?_
            rintro e w2 ⟨rfl, hb2⟩
            have hRw := (Array.getElem?_eq_some_iff.1 hrow3).1
            replace hB := hB3.mono (hb2.mono hB3.lt)
            replace hrow : w2.heap[R]? = _ := (hb2.block R hRw).trans hrow3
            clear hB3 hrow3 hb2 hRw r3 n3 m50 m51 m52 m53
            clear we
            have r7 : w2.cell? ⟨R, p7, none⟩ = some (wv (((rowL t σ).set p3 (wadd σ.d (roundS σ (constL.getD t 0#32) x))).getD p7 0#32)) := by
              rw [cell_of_row _ _ _ _ _ _ hrow]
              exact getw _ _ (by simp [rowL_length, b7])
            have n7 := free_rowL hrow p7
            generalize List.getD ((rowL t σ).set p3 (wadd σ.d (roundS σ (constL.getD t 0#32) x))) p7 0#32 = y at *
            go_wp2_with fail
            go_roundw
            case rel =>
              refine ⟨t + 1, by omega, by go_num, ?_, ?_⟩
              · show Blk w s bs (turnW t (rounds bs s t).1) _
                rw [Hws.out]
                exact hB.mono ((Below.refl _ _).setCell hRlt _)
              · have h := heap_setCell_same w2 R p7 _ _ (wv (roundA σ (constL.getD t 0#32) x)) hrow
                rw [setL, rowL_round t σ _ _ p3 p7 S3.out S7.out b3 b7] at h
                show _ = some (Obj.cells ((rowL (t + 1) (round (rounds bs s t).2 (constL.getD t 0#32) ((turnW t (rounds bs s t).1).getD (t % 16) 0#32))).map wv).toArray 65 (0, 0))
                rw [Hws.out, Hσ.out, Hx.out]
                exact h
            case measure => simp [intOf]; omega
        · obtain rfl : t = 64 := by omega
          generalize hσ : (rounds bs s 64).2 = σ at *
          have Hσ := Lib.hid hσ
          clear hσ
          generalize (rounds bs s 64).1 = ws at *
          go_wp2_with fail
          go_loopw [180] (fun i wr => ∃ t : Nat, t ≤ 8 ∧ i = .int .i64 t ∧ Below w.heap.size w wr ∧ wr.heap[w.heap.size]? = some (.cells ((plusTo s σ t).map wv).toArray 65 (0, 0)) ∧
              (∃ c, c.size = 8 ∧ wr.heap[w.heap.size + 2]? = some (.cells c 65 (0, 0))) ∧ wr.heap[R]? = some (.cells (σ.list.map wv).toArray 65 (0, 0))) (fun i _ => 8 - (intOf i).toNat)
          case atStart => exact ⟨0, by omega, rfl, hB.below, hB.h0, ⟨_, rfl, hB.h2⟩, hrow⟩
          case round =>
            clear hB hrow
            obtain ⟨t, ht, rfl, hb, h0, ⟨c, hc, h2⟩, hrow⟩ := hrel
            by_cases hlt : t < 8
            · have e0 : wr.cell? ⟨w.heap.size, t, none⟩ = some (wv (s.get t)) := by
                rw [cell_of_row _ _ _ _ _ _ h0, getw _ _ (by rw [plusTo_length]; exact hlt), plusTo_get _ _ _ hlt]
              have e1 : wr.cell? ⟨R, t, none⟩ = some (wv (σ.get t)) := by
                rw [cell_of_row _ _ _ _ _ _ hrow, getw _ _ hlt, list_get _ _ hlt]
              have f0 := gro_free e0 (free_rowL h0 t)
              have g0 := gro_cell e0
              have g1 := gro_cell e1
              clear e0 e1
              go_wp2_with fail
              refine wp_region_qgrot 8 (by kernel_rfl) (by kernel_rfl) ?_
              simp only [List.take_succ_cons, List.take_zero, List.drop_succ_cons, List.drop_zero]
              repeat (go_big_quiet_step (fail))
              refine wpQuiet_nil ?_
              rintro _ ⟨p, rfl⟩
              go_wp2_with fail
              go_roundw
              case rel =>
                refine ⟨t + 1, by omega, by go_num, (hb.trans ((below_gro wr p).mono hb.size)).setCell (Nat.le_refl _) _, ?_, ⟨c, hc, ?_⟩, ?_⟩
                · have h := heap_setCell_same _ w.heap.size t _ _ (wv (wadd (s.get t) (σ.get t))) (gro_heap h0 p)
                  rw [setL, plusTo_step _ _ _ hlt] at h
                  exact h
                · rw [heap_setCell_other _ _ _ _ (by simp)]; exact gro_heap h2 p
                · rw [heap_setCell_other _ _ _ _ (by show R ≠ w.heap.size; omega)]; exact gro_heap hrow p
              case measure => simp [intOf]; omega
            · obtain rfl : t = 8 := by omega
              go_wp2_with (first
                | (refine wpList_load_row rfl 65 (.tmp 2) rfl w.heap.size rfl 65 _ (0, 0) (.array 8 64) h0 (by kernel_rfl) rfl (by kernel_rfl) ?_)
                | (refine wpList_store_row rfl 65 (.tmp 4) (.tmp 192) rfl (w.heap.size + 2) 65 c ((plusTo s σ 8).map wv).toArray rfl rfl h2 (by kernel_rfl) hc (by kernel_rfl) ?_))
              refine bodyPost_ret (results_cell_row (d := .array 8 64) rfl _ _ (w.heap.size + 2) 65 _ (0, 0) rfl (setRow_heap _ _ _ _ _ _ h2) (by kernel_rfl) rfl (by kernel_rfl)) rfl ⟨?_, below_setRow' hb (by omega) _⟩
              rw [plusTo_full]
              unfold blockS
              rw [Hσ.out]
end Go.Proofs.Ytcfkapoppmpehaa

/-
  What calls of row, bytes.Equal, and of the definition's Byte, High, Both and Fill give.
-/
import Derived.Test.YtcfkapoppmpehaaFrs
import Derived.Test.YtcfkapoppmpehaaRw
import Derived.Test.YtcfkapoppmpehaaL05
namespace Go.Proofs.Ytcfkapoppmpehaa
open Go.RowKit

/-- A row of bytes, no longer than 700. -/
theorem row_any (v : Value) (bs : List UInt8) (w : World) (hv : RdB w v bs) :
    Calls Try.prog 43 #[v] w fun e w' => ∃ v', e = .returned v' ∧ RdB w' v' (bs.take 700) ∧ Below w.heap.size w w' := by
  have hv0 := hv
  obtain ⟨a, cap, rfl, hc, _⟩ := hv
  obtain ⟨m, hm'⟩ : ∃ m, m = (bs.take 700).length := ⟨_, rfl⟩
  have hmin : (if (700 : Int) < (bs.length : Int) then 700 else (bs.length : Int)) = (m : Int) := by rw [hm', List.length_take]; split <;> omega
  have hmc : m ≤ cap := by rw [hm', List.length_take]; omega
  have hrd := hv0.take m (by rw [hm', List.length_take]; omega)
  rw [show bs.take m = bs.take 700 from by rw [hm', List.length_take, ← List.take_take, List.take_length]] at hrd
  have hl7 : (bs.take 700).length ≤ 700 := by rw [List.length_take]; omega
  have Hm := Lib.hid hm'
  have hrd1 := hrd.mono ((Below.refl w.heap.size w).alloc (Nat.le_refl _) (Obj.cells #[] 5))
  have hG : (w.alloc (Obj.cells #[] 5)).heap[w.heap.size]? = some (.cells #[] 5 (0, 0)) := heap_alloc_new w _
  clear hm' hrd hv0
  generalize bs.take 700 = b7 at *
  go_enter Try.func43, Try.ntmps43
  go_wp2_with (first
    | (refine wpList_slice_head rfl (.tmp 4) (.tmp 7) rfl a bs.length cap m hmc rfl rfl ?_)
    | (refine wpList_fresh_bytes rfl (.tmp 3) (.tmp 8) rfl w.heap.size w.heap.size rfl hG (Nat.le_refl _) (by simp) _ b7 rfl hrd1 (by omega) ?_))
  intro v1 w1 hown hb1
  go_wp2_with fail
  go_ret
  exact ⟨_, rfl, hown.rd, ((Below.refl _ _).alloc (Nat.le_refl _) _).trans (hb1.mono (by simp))⟩

/-- bytes.Equal. -/
theorem beq_any (v u : Value) (xs ys : List UInt8) (w : World) (hv : RdB w v xs) (hu : RdB w u ys) :
    Calls Try.prog 39 #[v, u] w fun e w' => e = .returned (.bool (decide (xs = ys))) ∧ w = w' := by
  have h1 := rd_convert hv
  have h2 := rd_convert hu
  have he : ((strOf xs).toList == (strOf ys).toList) = decide (xs = ys) := by
    have hl : ∀ l, (strOf l).toList = l := fun l => by rw [ByteArray.toList_eq]; rfl
    rw [hl, hl]
    by_cases h : xs = ys <;> simp [h]
  generalize decide (xs = ys) = r at *
  generalize strOf xs = s at *
  generalize strOf ys = t at *
  clear hv hu
  go_enter Try.func39, Try.ntmps39
  go_wp2_with fail
  go_ret
  exact ⟨rfl, rfl⟩

theorem wrap_quo (y : Nat) (h : y < 18446744073709551616) : IntKind.u64.wrap ((y : Int) / 256) = (y : Int) / 256 := by rw [IntKind.wrap_u64]; omega
theorem quo256 (x j : Nat) : ((x / 256 ^ j : Nat) : Int) / 256 = ((x / 256 ^ (j + 1) : Nat) : Int) := by
  rw [Nat.pow_succ, ← Nat.div_div_eq_div_mul]; rfl
set_option maxHeartbeats 400000 in
theorem byte_any (x : Nat) (hx : x < 18446744073709551616) (n k : Nat) (hk : k < n) (hn : n ≤ 8) (w : World) :
    Calls Try.prog 106 #[.int .u64 x, .int .i64 n, .int .i64 k] w fun e w' => e = .returned (bv (UInt8.ofNat (x / 256 ^ (n - 1 - k)))) ∧ w = w' := by
  have hxx := Lib.hid hx
  clear hx
  go_enter Try.func106, Try.ntmps106
  go_wp2_with fail
  go_loop [0, 2] (fun y m => ∃ j : Nat, k + j + 1 ≤ n ∧ m = .int .i64 ((k + j : Nat) : Int) ∧ y = .int .u64 ((x / 256 ^ j : Nat) : Int)) (fun _ m => n - (intOf m).toNat)
  case atStart => exact ⟨0, by omega, rfl, by simp⟩
  case round =>
    obtain ⟨j, hj, rfl, rfl⟩ := hrel
    have Hq := Lib.hid (quo256 x j)
    have Hz := Lib.hid (show n - 1 - k = j → x / 256 ^ (n - 1 - k) = x / 256 ^ j from fun h => by rw [h])
    have Hw := Lib.hid (wrap_quo (x / 256 ^ j) (Nat.lt_of_le_of_lt (Nat.div_le_self _ _) hxx.out))
    generalize x / 256 ^ j = y at *
    by_cases hlt : k + j + 1 < n
    · have hg : decide (((k + j : Nat) : Int) < (n : Int) - 1) = true := decide_eq_true (by omega)
      have Hm := Lib.hid (show ((k + j : Nat) : Int) + 1 = ((k + (j + 1) : Nat) : Int) by omega)
      have hb0 : (0 : Int) ≤ ((k + j : Nat) : Int) := by omega
      have hb1 : ((k + j : Nat) : Int) < 8 := by omega
      have hb2 : ((k + j : Nat) : Int) < (n : Int) := by omega
      generalize ((k + j : Nat) : Int) = m at *
      go_wp2_with fail
      go_round
      case rel => exact ⟨j + 1, by omega, by rw [Hm.out], by rw [← Hq.out, Hw.out]⟩
      case measure => simp [intOf]; omega
    · have hg : decide (((k + j : Nat) : Int) < (n : Int) - 1) = false := decide_eq_false (by omega)
      have Hb : Hid (∀ y : Nat, bv (UInt8.ofNat y) = .int .u8 ((y : Int) % 256)) := Lib.hid fun y => by show Value.int _ _ = _; rw [UInt8.toNat_ofNat']; rfl
      have He := Lib.hid (Hz.out (by omega))
      go_wp2_with fail
      go_ret
      exact ⟨ret_val (by rw [He.out, Hb.out]; rfl), rfl⟩

theorem be64_at (x k : Nat) (hk : k < 8) : (be64 x).getD k 0 = UInt8.ofNat (x / 256 ^ (8 - 1 - k)) := by
  unfold be64
  rw [List.getD_eq_getElem?_getD, List.getElem?_map, List.getElem?_range hk]
  show byteAt x k = _
  unfold byteAt
  rw [show (2 : Nat) ^ (8 * (7 - k)) = 256 ^ (8 - 1 - k) from by rw [Nat.pow_mul, show 8 - 1 - k = 7 - k by omega]]
theorem take_next (l : List UInt8) (k : Nat) (h : k < l.length) : l.take (k + 1) = l.take k ++ [l.getD k 0] := by simp [h]
set_option maxHeartbeats 400000 in
theorem high_any (x : Nat) (hx : x < 18446744073709551616) (w : World) :
    Calls Try.prog 90 #[.int .u64 x, .int .i64 8] w fun e w' => ∃ v', e = .returned v' ∧ RdB w' v' (be64 x) ∧ Below w.heap.size w w' := by
  have HB := Lib.hid (fun (k : Nat) (hk : k < 8) => byte_any x hx 8 k hk (by omega))
  go_enter Try.func90, Try.ntmps90
  go_wp2_with fail
  go_loopw [5, 6] (fun v i wr => ∃ k : Nat, k ≤ 8 ∧ i = .int .i64 k ∧ OwnB wr w.heap.size v ((be64 x).take k) ∧ Below w.heap.size w wr) (fun _ i _ => 8 - (intOf i).toNat)
  case atStart => exact ⟨0, by omega, rfl, OwnB.nil _ _, Below.refl _ _⟩
  case round =>
    obtain ⟨k, hk, rfl, hown, hb⟩ := hrel
    by_cases hlt : k < 8
    · have hg : decide ((k : Int) < 8) = true := decide_eq_true (by omega)
      have Hnext := Lib.hid (take_next (be64 x) k (by rw [be64_length]; exact hlt))
      have hl : ((be64 x).take k).length = k := by rw [List.length_take, be64_length]; omega
      rw [be64_at x k hlt] at Hnext
      have HC := Lib.hid (HB.out k hlt)
      generalize UInt8.ofNat (x / 256 ^ (8 - 1 - k)) = y at *
      have Hl := Lib.hid hl
      clear hl
      generalize (be64 x).take k = l at *
      go_wp2_with fail
      refine (HC.out wr).mono ?_
      rintro e w' ⟨rfl, rfl⟩
      have hnew : (wr.alloc (Obj.cells #[bv y] 5)).heap[wr.heap.size]? = some (.cells (([y] : List UInt8).map bv).toArray 5 (0, 0)) := heap_alloc_new wr _
      have hown0 := hown.alloc (Obj.cells #[bv y] 5)
      have hb0 : Below w.heap.size w (wr.alloc (Obj.cells #[bv y] 5)) := hb.alloc hb.size _
      go_wp2_with (refine wpList_append_own' rfl (.tmp 12) (.tmp 17) rfl w.heap.size _ l rfl hown0 ⟨wr.heap.size, 0, none⟩ 1 1 [y] rfl rfl (fun j hj => cells_row _ hnew j hj) (by rw [Hl.out]; omega) w hb0 hb0.size ?_)
      intro v1 w4 hown1 hb1
      rw [← Hnext.out] at hown1
      go_wp2_with fail
      go_roundw
      case rel => exact ⟨k + 1, by omega, by go_num, hown1, hb1⟩
      case measure => simp [intOf]; omega
    · obtain rfl : k = 8 := by omega
      have ht : (be64 x).take 8 = be64 x := List.take_of_length_le (by rw [be64_length]; omega)
      rw [ht] at hown
      go_wp2_with fail
      go_ret
      exact ⟨_, rfl, hown.rd, hb⟩

/-- The first k bytes laid, noughts behind them. -/
def fillTo (l : List UInt8) (k : Nat) : List UInt8 := (List.range l.length).map fun i => if i < k then l.getD i 0 else 0
theorem fillTo_length (l : List UInt8) (k : Nat) : (fillTo l k).length = l.length := by simp [fillTo]
theorem fillTo_zero (l : List UInt8) : fillTo l 0 = List.replicate l.length 0 := by
  refine ext_getD (by simp [fillTo]) fun i hi => ?_
  rw [fillTo_length] at hi
  simp [fillTo, hi]
theorem fillTo_full (l : List UInt8) : fillTo l l.length = l := by
  refine ext_getD (by simp [fillTo]) fun i hi => ?_
  rw [fillTo_length] at hi
  simp [fillTo, hi]
theorem fillTo_step (l : List UInt8) (k : Nat) (hk : k < l.length) : (fillTo l k).set k (l.getD k 0) = fillTo l (k + 1) := by
  refine ext_getD (by simp [fillTo]) fun i hi => ?_
  rw [List.length_set, fillTo_length] at hi
  rw [getD_set _ _ _ _ (by rw [fillTo_length]; exact hk)]
  by_cases e : k = i
  · subst e; simp [fillTo, hk]
  · rw [if_neg e]
    by_cases h : i < k
    · simp [fillTo, hi, h, show i < k + 1 by omega]
    · simp [fillTo, hi, h, show ¬ i < k + 1 by omega]
theorem RdB.cell {w : World} {v : Value} {bs : List UInt8} (h : RdB w v bs) (k : Nat) (hk : k < bs.length) : ∃ b o c, v = .slice (some ⟨b, o, none⟩) bs.length c ∧ b < w.heap.size ∧ w.cell? ⟨b, o + k, none⟩ = some (bv (bs.getD k 0)) := by
  obtain ⟨a, c, rfl, hc, hr⟩ := h
  obtain ⟨b, o, rfl, hj⟩ := hr (by omega)
  exact ⟨b, o, c, rfl, block_lt_of_cell (hj k hk), hj k hk⟩

set_option maxRecDepth 100000 in
set_option maxHeartbeats 1000000 in
theorem both_any (v u : Value) (xs ys : List UInt8) (hx : xs.length ≤ 50000) (hy : ys.length ≤ 50000) (w : World) (hv : RdB w v xs) (hu : RdB w u ys) :
    Calls Try.prog 89 #[v, u] w fun e w' => ∃ v', e = .returned v' ∧ NewB w w' v' (xs ++ ys) ∧ Below w.heap.size w w' := by
  have hv0 := hv
  have hu0 := hu
  obtain ⟨a, cap, rfl, hc, _⟩ := hv
  obtain ⟨b, cap2, rfl, hc2, _⟩ := hu
  have hmk := fun u => run_make42 u (↑xs.length + ↑ys.length) (↑xs.length + ↑ys.length) (xs.length + ys.length) (xs.length + ys.length) (by omega) (by omega) (Nat.le_refl _) (by omega)
  go_enter Try.func89, Try.ntmps89
  go_upto_region 2 with fail
  rw [show Obj.cells (Array.replicate (xs.length + ys.length) (bv 0)) 5 = Obj.cells ((fillTo (xs ++ ys) 0).map bv).toArray 5 from by rw [fillTo_zero, List.length_append]; simp]
  have hZ : (w.alloc (Obj.cells ((fillTo (xs ++ ys) 0).map bv).toArray 5)).heap[w.heap.size]? = some (.cells ((fillTo (xs ++ ys) 0).map bv).toArray 5 (0, 0)) := heap_alloc_new w _
  have hb2 : Below w.heap.size w (w.alloc (Obj.cells ((fillTo (xs ++ ys) 0).map bv).toArray 5)) := (Below.refl _ _).alloc (Nat.le_refl _) _
  generalize w.alloc (Obj.cells ((fillTo (xs ++ ys) 0).map bv).toArray 5) = w2 at *
  clear hmk
  go_wp2_with fail
  go_loopw [15] (fun i wr => ∃ k : Nat, k ≤ xs.length + ys.length ∧ i = .int .i64 k ∧ Below w.heap.size w wr ∧ wr.heap[w.heap.size]? = some (.cells ((fillTo (xs ++ ys) k).map bv).toArray 5 (0, 0))) (fun i _ => xs.length + ys.length - (intOf i).toNat)
  case atStart => exact ⟨0, by omega, rfl, hb2, hZ⟩
  case round =>
    clear hb2 hZ w2
    obtain ⟨k, hk, rfl, hb, hZ⟩ := hrel
    by_cases hlt : k < xs.length + ys.length
    · have hg : decide ((k : Int) < (xs.length : Int) + (ys.length : Int)) = true := decide_eq_true (by omega)
      have Hst := Lib.hid (fillTo_step (xs ++ ys) k (by rw [List.length_append]; exact hlt))
      have eo : wr.cell? ⟨w.heap.size, k, none⟩ = some (bv ((fillTo (xs ++ ys) k).getD k 0)) := by
        rw [cell_of_row _ _ _ _ _ _ hZ, getb _ _ (by rw [fillTo_length, List.length_append]; exact hlt)]
      have fo : wr.frozen? ⟨w.heap.size, k, none⟩ = false := frozen_of_row _ _ _ _ _ hZ
      generalize (fillTo (xs ++ ys) k).getD k 0 = y0 at *
      by_cases hx1 : k < xs.length
      · have hg1 : decide ((k : Int) < (xs.length : Int)) = true := decide_eq_true (by omega)
        obtain ⟨b1, o1, c1, he, hlt1, hcell⟩ := hv0.cell k hx1
        cases he
        have hcw := (hb.cell (p := ⟨b1, o1 + k, none⟩) hlt1).trans hcell
        rw [show (xs ++ ys).getD k 0 = xs.getD k 0 from by rw [List.getD_eq_getElem?_getD, List.getD_eq_getElem?_getD, List.getElem?_append_left hx1]] at Hst
        generalize xs.getD k 0 = y at *
        go_wp2_with fail
        go_roundw
        case rel =>
          refine ⟨k + 1, by omega, by go_num, hb.setCell (Nat.le_refl _) _, ?_⟩
          rw [← Hst.out, ← setLb]
          exact heap_setCell_same wr w.heap.size k _ _ _ hZ
        case measure => simp [intOf]; omega
      · have hg1 : decide ((k : Int) < (xs.length : Int)) = false := decide_eq_false (by omega)
        obtain ⟨b1, o1, c1, he, hlt1, hcell⟩ := hu0.cell (k - xs.length) (by omega)
        cases he
        have hcw := (hb.cell (p := ⟨b1, o1 + (k - xs.length), none⟩) hlt1).trans hcell
        rw [show (xs ++ ys).getD k 0 = ys.getD (k - xs.length) 0 from by rw [List.getD_eq_getElem?_getD, List.getD_eq_getElem?_getD, List.getElem?_append_right (by omega)]] at Hst
        generalize ys.getD (k - xs.length) 0 = y at *
        have hs0 : (0 : Int) ≤ (k : Int) - (xs.length : Int) := by omega
        have hs1 : (k : Int) - (xs.length : Int) < (ys.length : Int) := by omega
        go_wp2_with fail
        go_roundw
        case rel =>
          refine ⟨k + 1, by omega, by go_num, hb.setCell (Nat.le_refl _) _, ?_⟩
          rw [← Hst.out, ← setLb]
          exact heap_setCell_same wr w.heap.size k _ _ _ hZ
        case measure => simp [intOf]; omega
    · obtain rfl : k = xs.length + ys.length := by omega
      have hf : fillTo (xs ++ ys) (xs.length + ys.length) = xs ++ ys := by rw [← List.length_append, fillTo_full]
      rw [hf] at hZ
      have hg : decide (((xs.length + ys.length : Nat) : Int) < (xs.length : Int) + (ys.length : Int)) = false := decide_eq_false (by omega)
      clear hf
      go_wp2_with fail
      go_ret
      exact ⟨_, rfl, ⟨w.heap.size, by rw [List.length_append]; rfl, Nat.le_refl _, hZ⟩, hb⟩

def lenV (v : Value) : Nat := match v with | .slice _ n _ => n | _ => 0
theorem RdB.len {w : World} {v : Value} {bs : List UInt8} (h : RdB w v bs) : lenV v = bs.length := by
  obtain ⟨a, c, rfl, _⟩ := h; rfl
set_option maxRecDepth 100000 in
set_option maxHeartbeats 1000000 in
theorem fill_any (v : Value) (bs : List UInt8) (hl : bs.length ≤ 10000) (w : World) (hv : RdB w v bs) :
    Calls Try.prog 47 #[v] w fun e w' => ∃ v', e = .returned v' ∧ NewB w w' v' (padL bs) ∧ Below w.heap.size w w' := by
  have hv0 := hv
  obtain ⟨a, cap, rfl, hc, _⟩ := hv
  have hG : (w.alloc (Obj.cells #[] 5)).heap[w.heap.size]? = some (.cells #[] 5 (0, 0)) := heap_alloc_new w _
  have hrd := hv0.mono ((Below.refl w.heap.size w).alloc (Nat.le_refl _) (Obj.cells #[] 5))
  go_enter Try.func47, Try.ntmps47
  go_upto_region 2 with (refine wpList_fresh_bytes rfl (.tmp 4) (.tmp 5) rfl w.heap.size w.heap.size rfl hG (Nat.le_refl _) (by simp) _ bs rfl hrd (by omega) ?_)
  intro v1 w1 hown1 hb1
  have hb1' : Below w.heap.size w w1 := ((Below.refl _ _).alloc (Nat.le_refl _) _).trans (hb1.mono (by simp))
  clear hb1 hrd hG
  go_upto_region 2 with fail
  have hnew : (w1.alloc (Obj.cells #[bv 128] 5)).heap[w1.heap.size]? = some (.cells (([128] : List UInt8).map bv).toArray 5 (0, 0)) := heap_alloc_new w1 _
  have hown1' := hown1.alloc (Obj.cells #[bv 128] 5)
  have hb1'' : Below w.heap.size w (w1.alloc (Obj.cells #[bv 128] 5)) := hb1'.alloc hb1'.size _
  go_upto_region 3 with (refine wpList_append_own' rfl (.tmp 7) (.tmp 8) rfl w.heap.size _ bs rfl hown1' ⟨w1.heap.size, 0, none⟩ 1 1 [128] rfl rfl (fun j hj => cells_row _ hnew j hj) (by omega) w hb1'' hb1''.size ?_)
  intro v2 w2 hown2 hb2
  clear hnew hown1' hb1'' hown1 hb1'
  go_wp2_with fail
  have hfl := fillN_lt bs.length
  go_loopw [3] (fun v wr => ∃ k : Nat, k ≤ fillN bs.length ∧ OwnB wr w.heap.size v (bs ++ 128 :: List.replicate k 0) ∧ Below w.heap.size w wr) (fun v _ => bs.length + 80 - lenV v)
  case atStart => exact ⟨0, by omega, hown2, hb2⟩
  case round =>
    clear hown2 hb2
    obtain ⟨k, hk, hown, hb⟩ := hrel
    have hlen := hown.rd.len
    have hll : (bs ++ 128 :: List.replicate k (0 : UInt8)).length = bs.length + 1 + k := by simp; omega
    rw [hll] at hlen
    have hsh := hown.rd
    obtain ⟨a3, c3, rfl, hc3, _⟩ := hsh
    rw [hll] at hown hc3 hlen ⊢
    by_cases hlt : k < fillN bs.length
    · have hm : ((((bs.length + 1 + k : Nat) : Int) + 8) % 64 != 0) = true := by
        have : (((bs.length + 1 + k : Nat) : Int) + 8) % 64 ≠ 0 := by unfold fillN at hlt; omega
        simpa using this
      have hk64 : bs.length + 1 + k ≤ 20000 := by omega
      have Hll := Lib.hid hll
      have happ : (bs ++ 128 :: List.replicate k (0 : UInt8)) ++ [0] = bs ++ 128 :: List.replicate (k + 1) 0 := by
        rw [List.append_assoc, List.cons_append, List.replicate_succ']
      have Happ := Lib.hid happ
      clear hll happ hlen
      generalize bs ++ 128 :: List.replicate k (0 : UInt8) = l at *
      generalize hN : bs.length + 1 + k = N at *
      have HN := Lib.hid hN
      clear hN
      have hnew : (wr.alloc (Obj.cells #[bv 0] 5)).heap[wr.heap.size]? = some (.cells (([0] : List UInt8).map bv).toArray 5 (0, 0)) := heap_alloc_new wr _
      have hown' := hown.alloc (Obj.cells #[bv 0] 5)
      have hb' : Below w.heap.size w (wr.alloc (Obj.cells #[bv 0] 5)) := hb.alloc hb.size _
      go_wp2_with (refine wpList_append_own' rfl (.tmp 15) (.tmp 16) rfl w.heap.size _ l rfl hown' ⟨wr.heap.size, 0, none⟩ 1 1 [0] rfl rfl (fun j hj => cells_row _ hnew j hj) (by rw [Hll.out]; omega) w hb' hb'.size ?_)
      intro v4 w4 hown4 hb4
      rw [Happ.out] at hown4
      have hlen4 := hown4.rd.len
      rw [show (bs ++ 128 :: List.replicate (k + 1) (0 : UInt8)).length = bs.length + 1 + (k + 1) from by simp; omega] at hlen4
      replace hlen4 := Lib.hid hlen4
      go_wp2_with fail
      go_roundw
      case rel => exact ⟨k + 1, by omega, hown4, hb4⟩
      case measure =>
        have e1 := hlen4.out
        have e2 := HN.out
        show _ < bs.length + 80 - N
        rw [e1]
        omega
    · obtain rfl : k = fillN bs.length := by omega
      have hm : ((((bs.length + 1 + fillN bs.length : Nat) : Int) + 8) % 64 != 0) = false := by
        have : (((bs.length + 1 + fillN bs.length : Nat) : Int) + 8) % 64 = 0 := by unfold fillN; omega
        simpa using this
      have hk64 : bs.length + 1 + fillN bs.length ≤ 20000 := by omega
      have Hpad := Lib.hid (show bs ++ 128 :: List.replicate (fillN bs.length) 0 ++ be64 (8 * bs.length) = padL bs from rfl)
      have Hll := Lib.hid hll
      clear hll hlen
      generalize bs ++ 128 :: List.replicate (fillN bs.length) (0 : UInt8) = l at *
      generalize hN : bs.length + 1 + fillN bs.length = N at *
      have HN := Lib.hid hN
      clear hN
      have hbl : (bs.length : Int) ≤ 10000 := by omega
      go_wp2_with fail
      rw [show (8 * (bs.length : Int)) = ((8 * bs.length : Nat) : Int) from by omega]
      refine (high_any (8 * bs.length) (by omega) wr).mono ?_
      rintro e w5 ⟨v5, rfl, hrd5, hb5⟩
      go_wp2_with fail
      refine (both_any _ v5 l (be64 (8 * bs.length)) (by rw [Hll.out]; have := HN.out; omega) (by rw [be64_length]; omega) w5 (hown.rd.mono hb5) hrd5).mono ?_
      rintro e w6 ⟨v6, rfl, hn6, hb6⟩
      rw [Hpad.out] at hn6
      go_wp2_with fail
      go_ret
      have hb56 := hb.trans (hb5.mono hb.size)
      obtain ⟨H, hH, hHs, hHc⟩ := hn6
      exact ⟨_, rfl, ⟨H, hH, Nat.le_trans hb56.size hHs, hHc⟩, hb56.trans (hb6.mono hb56.size)⟩
end Go.Proofs.Ytcfkapoppmpehaa

/-
  What a call of the given program's Digits (layer 6) gives.
-/
import Derived.Test.YtcfkapoppmpehaaWi
namespace Go.Proofs.Ytcfkapoppmpehaa
open Go.RowKit

/-- 67 cells of noughts. -/
def made67 : Array Value := (List.replicate 67 (Value.int .i64 0)).toArray
theorem run_make77 (u : World) : (Instr.makeSlice 77 (.int .i64 0) (.int .i64 67)).run Try.prog u = .ok (.slice (some ⟨u.heap.size, 0, none⟩) 0 67) (u.alloc (.cells made67 3)) := by
  obtain ⟨i0, hi, hz0, hz1, hz2⟩ := info_parts info3
  have h := run_make (P := Try.prog) u 77 3 i0 (.int .i64 0) (by kernel_rfl) hi hz0 .i64 .i64 0 67 (by omega) (by omega) (by rw [hz2]; omega) (by omega)
  rw [h, hz1]
  have e : madeCells #[Value.int .i64 0] 67 = made67 := by
    apply Array.ext'
    rw [toList_madeCells_one]
    rfl
  simp [Value.cells, e]
theorem and15_u8 (c : UInt8) : bits BinOp.and IntKind.u8 (c.toNat : Int) 15 = (c.toNat : Int) % 16 := by
  have hc := c.toNat_lt
  unfold bits
  have e : (BitVec.ofInt 8 (c.toNat : Int) &&& BitVec.ofInt 8 15).toNat = c.toNat % 16 := by
    rw [BitVec.toNat_and]
    have : (BitVec.ofInt 8 15).toNat = 2 ^ 4 - 1 := by decide
    rw [this, Nat.and_two_pow_sub_one_eq_mod, BitVec.toNat_ofInt]
    omega
  show IntKind.u8.wrap (((BitVec.ofInt 8 (c.toNat : Int) &&& BitVec.ofInt 8 15).toNat : Nat) : Int) = _
  rw [e]
  show IntKind.u8.wrap _ = _
  simp [IntKind.wrap, IntKind.bits, IntKind.signed]
  omega
theorem and15_i64 (x : Int) (h0 : 0 ≤ x) (h : x < 100000) : bits BinOp.and IntKind.i64 x 15 = x % 16 := by
  unfold bits
  have e : (BitVec.ofInt 64 x &&& BitVec.ofInt 64 15).toNat = (x % 16).toNat := by
    rw [BitVec.toNat_and]
    have : (BitVec.ofInt 64 15).toNat = 2 ^ 4 - 1 := by decide
    rw [this, Nat.and_two_pow_sub_one_eq_mod, BitVec.toNat_ofInt]
    omega
  show IntKind.i64.wrap (((BitVec.ofInt 64 x &&& BitVec.ofInt 64 15).toNat : Nat) : Int) = _
  rw [e]
  rw [show (((x % 16).toNat : Nat) : Int) = x % 16 by omega]
  exact IntWalk.i64_in _ (by omega)
theorem run_index134 (w : World) (a b : Nat) (i : Nat) (hi : i < 2) :
    (Instr.index 134 (.agg #[nv a, nv b]) (.int .i64 i)).run Try.prog w = .ok (nv (([a, b] : List Nat).getD i 0)) w :=
  run_index_cells w 134 3 2 (.int .i64) (by kernel_rfl) (by kernel_rfl) rfl (by kernel_rfl) _ i _ hi (by
    match i, hi with
    | 0, _ => rfl
    | 1, _ => rfl)
theorem sumN_snoc (l : List Nat) (d : Nat) : sumN (l ++ [d]) = sumN l + (15 - d) := by simp [sumN]

set_option maxRecDepth 100000 in
set_option maxHeartbeats 1000000 in
theorem digits_any (m : List UInt8) (hm : m.length = 32) (w : World) :
    Calls Try.prog 59 #[bagg m] w fun e w' => ∃ v, e = .returned v ∧ OwnN w' w.heap.size v (digN m) ∧ Below w.heap.size w w' := by
  have hmk := run_make77
  go_enter Try.func59, Try.ntmps59
  go_upto_region 2 with fail
  obtain ⟨w2, hw2, hbl, hb2, hs2⟩ := allocs_named w [.cells (m.map bv).toArray 24, .cells made67 3]
  change Code.wp _ _ _ _ (List.foldl World.alloc w [.cells (m.map bv).toArray 24, .cells made67 3])
  rw [hw2]
  have hX : w2.heap[w.heap.size]? = _ := hbl 0
  have hM : w2.heap[w.heap.size + 1]? = some (.cells made67 3 (0, 0)) := hbl 1
  have hown : OwnN w2 (w.heap.size + 1) (.slice (some ⟨w.heap.size + 1, 0, none⟩) 0 67) [] :=
    ⟨rfl, .inr ⟨w.heap.size + 1, 67, made67, rfl, Nat.le_refl _, hM, Nat.zero_le _, by have : maxLen = 9223372036854775807 := rfl; omega, rfl, by simp⟩⟩
  have hsz : w.heap.size + 1 ≤ w2.heap.size := by simp at hs2; omega
  have hbr0 : Below (w.heap.size + 1) w2 w2 := Below.refl _ _
  clear hbl hw2 hs2 hmk hM
  go_wp2_with (refine wpList_load_row rfl 24 (.tmp 1) rfl w.heap.size rfl 24 _ (0, 0) (.array 32 5) hX (by kernel_rfl) rfl (id_info m hm) ?_)
  go_loopw [3, 4, 11] (fun v s i wr => ∃ k : Nat, k ≤ 32 ∧ i = .int .i64 k ∧ s = .int .i64 (sumN (hexN (m.take k)) : Nat) ∧ OwnN wr (w.heap.size + 1) v (hexN (m.take k)) ∧ Below (w.heap.size + 1) w2 wr) (fun _ _ i _ => 32 - (intOf i).toNat)
  case atStart => exact ⟨0, by omega, rfl, rfl, hown, hbr0⟩
  case round =>
    clear hown hbr0 hX
    obtain ⟨k, hk, rfl, rfl, hown, hbr⟩ := hrel
    have hsr := hbr.size
    by_cases hlt : k < 32
    · have hg : decide ((k : Int) < 32) = true := decide_eq_true (by omega)
      have g1 := fun w => run_index24 w m hm k hlt
      have Hnext := Lib.hid (hexN_take m k (by omega))
      have hll : (hexN (m.take k)).length ≤ 64 := by rw [hexN_length]; simp; omega
      generalize m.getD k 0 = c at *
      generalize hexN (m.take k) = l at *
      have hc := c.toNat_lt
      have e1 := and15_u8 c
      have hds15 : ∀ j, ([c.toNat / 16, c.toNat % 16] : List Nat).getD j 0 ≤ 15 := fun j => by
        match j with
        | 0 => show c.toNat / 16 ≤ 15; omega
        | 1 => show c.toNat % 16 ≤ 15; omega
        | j + 2 => show 0 ≤ 15; omega
      have g2 : ∀ (j : Nat) (w : World), j < 2 → (Instr.index 134 (.agg #[.int .i64 ((c.toNat : Int) / 16), .int .i64 ((c.toNat : Int) % 16)]) (.int .i64 j)).run Try.prog w = .ok (nv (([c.toNat / 16, c.toNat % 16] : List Nat).getD j 0)) w :=
        fun j w hj => run_index134 w (c.toNat / 16) (c.toNat % 16) j hj
      have htk : ∀ j, j < 2 → ([c.toNat / 16, c.toNat % 16] : List Nat).take (j + 1) = ([c.toNat / 16, c.toNat % 16] : List Nat).take j ++ [([c.toNat / 16, c.toNat % 16] : List Nat).getD j 0] := fun j hj => by
        match j, hj with
        | 0, _ => rfl
        | 1, _ => rfl
      have htl : ∀ j, (([c.toNat / 16, c.toNat % 16] : List Nat).take j).length ≤ 2 := fun j => by simp; omega
      have ht2 : ([c.toNat / 16, c.toNat % 16] : List Nat).take 2 = [c.toNat / 16, c.toNat % 16] := rfl
      replace hds15 := Lib.hid hds15
      replace g2 := Lib.hid g2
      replace htk := Lib.hid htk
      replace htl := Lib.hid htl
      replace ht2 := Lib.hid ht2
      go_wp2_with fail
      generalize ([c.toNat / 16, c.toNat % 16] : List Nat) = ds at *
      obtain ⟨wo, hwo⟩ : ∃ wo : World, wo = wr := ⟨_, rfl⟩
      rw [← hwo] at hown hbr ⊢
      clear hwo
      go_loopw [3, 4, 21] (fun v s i wx => ∃ j : Nat, j ≤ 2 ∧ i = .int .i64 j ∧ s = .int .i64 (sumN (l ++ ds.take j) : Nat) ∧ OwnN wx (w.heap.size + 1) v (l ++ ds.take j) ∧ Below (w.heap.size + 1) w2 wx) (fun _ _ i _ => 2 - (intOf i).toNat)
      case atStart => exact ⟨0, by omega, rfl, by simp, by simpa using hown, hbr⟩
      case round =>
        clear hown hbr
        obtain ⟨j, hj, rfl, rfl, hown, hbr⟩ := hrel
        have hsx := hbr.size
        by_cases hlj : j < 2
        · have hg2 : decide ((j : Int) < 2) = true := decide_eq_true (by omega)
          have e2 := fun w => g2.out j w hlj
          have hd := hds15.out j
          have Hn2 := Lib.hid (htk.out j hlj)
          have hl2 := htl.out j
          have hll2 : (l ++ ds.take j).length ≤ 66 := by rw [List.length_append]; omega
          have Happ : Hid (l ++ ds.take (j + 1) = (l ++ ds.take j) ++ [ds.getD j 0]) := Lib.hid (by rw [Hn2.out, List.append_assoc])
          have Hsum := Lib.hid (sumN_snoc (l ++ ds.take j) (ds.getD j 0))
          have hS := sumN_le (l ++ ds.take j)
          generalize ds.getD j 0 = d at *
          generalize l ++ ds.take j = l2 at *
          generalize sumN l2 = S at *
          have hS2 : S ≤ 2000 := by omega
          clear hS hl2 Hn2
          have hown6 := hown.alloc (Obj.cells #[nv d] 3)
          have hnew : (wr.alloc (Obj.cells #[nv d] 3)).heap[wr.heap.size]? = some (.cells (([d] : List Nat).map nv).toArray 3 (0, 0)) := heap_alloc_new wr _
          have hb7 := hbr.alloc (Nat.le_trans hsz hsx) (Obj.cells #[nv d] 3)
          have hs7 := Nat.le_trans hsz hb7.size
          replace e2 : ∀ w, (Instr.index 134 (.agg #[.int .i64 ((c.toNat : Int) / 16), .int .i64 ((c.toNat : Int) % 16)]) (.int .i64 j)).run Try.prog w = .ok (.int .i64 d) w := e2
          clear hown
          go_wp2_with (refine wpList_append_nums rfl (.tmp 24) (.tmp 26) rfl (w.heap.size + 1) _ l2 rfl hown6 wr.heap.size 1 [d] rfl rfl 3 hnew (by omega) w2 hb7 hs7 ?_)
          intro v8 w8 hown8 hb8
          have hown9 := hown8
          rw [← Happ.out] at hown9
          clear hown8 hnew hown6 hb7
          go_wp2_with fail
          go_roundw
          case rel => exact ⟨j + 1, by omega, by go_num, by rw [Happ.out, Hsum.out]; go_num, hown9, hb8⟩
          case measure => simp [intOf]; omega
        · obtain rfl : j = 2 := by omega
          have hg2 : decide (((2 : Nat) : Int) < 2) = false := decide_eq_false (by omega)
          rw [ht2.out] at hown ⊢
          rw [← Hnext.out] at hown ⊢
          go_wp2_with fail
          go_roundw
          case rel => exact ⟨k + 1, by omega, by go_num, rfl, hown, hbr⟩
          case measure => simp [intOf]; omega
    · obtain rfl : k = 32 := by omega
      rw [List.take_of_length_le (by omega)] at hown ⊢
      have hll : (hexN m).length = 64 := by rw [hexN_length, hm]
      have hg : decide (((32 : Nat) : Int) < 32) = false := decide_eq_false (by omega)
      have hS := sumN_le (hexN m)
      have Hdig : Hid (digN m = hexN m ++ [sumN (hexN m) / 256, sumN (hexN m) / 16 % 16, sumN (hexN m) % 16]) := Lib.hid rfl
      generalize hexN m = ds at *
      generalize sumN ds = S at *
      have hS2 : S ≤ 2000 := by omega
      have hown6 := hown.alloc (Obj.cells #[nv (S / 256), nv (S / 16 % 16), nv (S % 16)] 3)
      have hnew : (wr.alloc (Obj.cells #[nv (S / 256), nv (S / 16 % 16), nv (S % 16)] 3)).heap[wr.heap.size]? = some (.cells (([S / 256, S / 16 % 16, S % 16] : List Nat).map nv).toArray 3 (0, 0)) := heap_alloc_new wr _
      have hb7 := hbr.alloc (Nat.le_trans hsz hsr) (Obj.cells #[nv (S / 256), nv (S / 16 % 16), nv (S % 16)] 3)
      have hs7 := Nat.le_trans hsz hb7.size
      have q1 := and15_i64 ((S : Int) / 16) (by omega) (by omega)
      have q2 := and15_i64 (S : Int) (by omega) (by omega)
      rw [show (#[nv (S / 256), nv (S / 16 % 16), nv (S % 16)] : Array Value) = #[.int .i64 ((S : Int) / 256), .int .i64 ((S : Int) / 16 % 16), .int .i64 ((S : Int) % 16)] from rfl] at hown6 hnew hb7
      have hll2 := Nat.le_of_eq hll
      clear hown hS hll
      go_wp2_with (refine wpList_append_nums rfl (.tmp 34) (.tmp 42) rfl (w.heap.size + 1) _ ds rfl hown6 wr.heap.size 3 [S / 256, S / 16 % 16, S % 16] rfl rfl 3 hnew (by omega) w2 hb7 hs7 ?_)
      intro v9 w9 hown9 hb9
      go_wp2_with fail
      go_ret
      refine ⟨v9, ret_val rfl, ?_, ?_⟩
      · rw [Hdig.out]; exact hown9.weaken (by omega)
      · refine ⟨hb9.os.trans hb2.os, hb9.tape.trans hb2.tape, hb9.output.trans hb2.output, Nat.le_trans hb2.size hb9.size, fun i hi => (hb9.block i (by omega)).trans (hb2.block i hi)⟩
end Go.Proofs.Ytcfkapoppmpehaa

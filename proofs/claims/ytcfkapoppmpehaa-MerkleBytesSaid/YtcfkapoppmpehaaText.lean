/-
  What a call of Text gives.
-/
import Derived.Test.YtcfkapoppmpehaaLess
import Derived.Laws.BytesString
import Derived.Laws.IdiomStrings
namespace Go.Proofs.Ytcfkapoppmpehaa
open Go.RowKit

/-- The sign of a digit. -/
def sg (n : Nat) : UInt8 := if n < 10 then UInt8.ofNat (48 + n) else UInt8.ofNat (87 + n)
def hexS (x : List UInt8) : List UInt8 := x.flatMap fun c => [sg (c.toNat / 16), sg (c.toNat % 16)]
theorem hexS_length (x : List UInt8) : (hexS x).length = 2 * x.length := by
  induction x with
  | nil => rfl
  | cons a x ih => simp only [hexS, List.flatMap_cons, List.length_append, List.length_cons, List.length_nil] at ih ⊢; omega
theorem hexS_take (x : List UInt8) (k : Nat) (hk : k < x.length) : hexS (x.take (k + 1)) = hexS (x.take k) ++ [sg ((x.getD k 0).toNat / 16), sg ((x.getD k 0).toNat % 16)] := by
  have e : x.take (k + 1) = x.take k ++ [x.getD k 0] := by simp [hk]
  rw [e]
  simp [hexS]

theorem u8_quo (c : UInt8) : IntKind.u8.wrap ((c.toNat : Int) / 16) = (c.toNat : Int) / 16 := by
  have := c.toNat_lt
  simp [IntKind.wrap, IntKind.bits, IntKind.signed]
  omega
theorem u8_rem (c : UInt8) : (c.toNat : Int).tmod 16 = (c.toNat : Int) % 16 := Int.tmod_eq_emod_of_nonneg (by omega)
theorem run_digit (n : Nat) (hn : n < 16) (w : World) : (Instr.index 9 (.string { data := #[48, 49, 50, 51, 52, 53, 54, 55, 56, 57, 97, 98, 99, 100, 101, 102] }) (.int .u8 n)).run Try.prog w = .ok (bv (sg n)) w := by
  have hu : Try.prog.underlying 9 = some .string := by kernel_rfl
  rw [run_index_string w 9 _ .u8 n hu]
  rw [dif_pos ⟨by omega, by show (n : Int) < 16; omega⟩]
  have : n = 0 ∨ n = 1 ∨ n = 2 ∨ n = 3 ∨ n = 4 ∨ n = 5 ∨ n = 6 ∨ n = 7 ∨ n = 8 ∨ n = 9 ∨ n = 10 ∨ n = 11 ∨ n = 12 ∨ n = 13 ∨ n = 14 ∨ n = 15 := by omega
  rcases this with rfl | rfl | rfl | rfl | rfl | rfl | rfl | rfl | rfl | rfl | rfl | rfl | rfl | rfl | rfl | rfl <;> rfl

theorem pure_digit (a : Act) (o : Oper) (s t : Operand) (ho : o.op = .index 9 s t) (hs : a.eval s = .string { data := #[48, 49, 50, 51, 52, 53, 54, 55, 56, 57, 97, 98, 99, 100, 101, 102] }) (n : Nat) (hn : n < 16) (ht : a.eval t = .int .u8 n) (w : World) :
    (execOp a.eval o).run Try.prog w = .ok (.value (bv (sg n))) w := by
  unfold execOp
  simp only [ho, hs, ht, Sem.run_bind, Sem.run_pure, Result.andThen_ok, run_digit n hn w]

set_option maxRecDepth 100000 in
set_option maxHeartbeats 400000 in
theorem text_any (x : List UInt8) (hx : x.length = 32) (w : World) :
    Calls Try.prog 32 #[bagg x] w fun e w' => e = .returned (.string ⟨(hexS x).toArray⟩) ∧ Below w.heap.size w w' := by
  go_enter Try.func32, Try.ntmps32
  go_upto_region 1 with fail
  obtain ⟨w2, hw2, hbl, hb, hs⟩ := allocs_named w [.cells (x.map bv).toArray 24]
  change Code.wp _ _ _ _ (List.foldl World.alloc w [.cells (x.map bv).toArray 24])
  rw [hw2]
  have hX : w2.heap[w.heap.size]? = _ := hbl 0
  clear hw2 hbl
  have hmk := fun u => run_make42 u 0 64 0 64 rfl rfl (by omega) (by omega)
  go_upto_region 2 with fail
  obtain ⟨w3, hw3, hbl3, hb3, hs3⟩ := allocs_named w2 [.cells ((List.replicate 64 (0 : UInt8)).map bv).toArray 5]
  change Code.wp _ _ _ _ (List.foldl World.alloc w2 [.cells ((List.replicate 64 (0 : UInt8)).map bv).toArray 5])
  rw [hw3]
  have hX3 : w3.heap[w.heap.size]? = _ := (hb3.block _ (by simp at hs; omega)).trans hX
  have hown : w3.ownsRow w2.heap.size 5 1 (.slice (some ⟨w2.heap.size, 0, none⟩) 0 64) 0 [] := ⟨rfl, .inr ⟨w2.heap.size, 64, _, rfl, Nat.le_refl _, hbl3 0, by omega, by unfold maxLen; omega, by simp, rfl⟩⟩
  have hb3' := hb.trans (hb3.mono hb.size)
  have hs3' : w2.heap.size ≤ w3.heap.size := hb3.size
  have hwB : w.heap.size ≤ w2.heap.size := hb.size
  have hBe : w2.heap.size = w.heap.size + 1 := by simpa using hs
  clear hmk hw3 hbl3 hb3 hs3 hX hb hs
  rw [hBe] at hown hs3'
  clear hBe hwB
  go_wp2_with (refine wpList_load_row rfl 24 (.tmp 1) rfl w.heap.size rfl 24 _ (0, 0) (.array 32 5) hX3 (by kernel_rfl) rfl (id_info x hx) ?_)
  go_loopw [3, 8] (fun v i wr => ∃ k : Nat, k ≤ 32 ∧ i = .int .i64 k ∧ wr.ownsRow (w.heap.size + 1) 5 1 v (hexS (x.take k)).length ((hexS (x.take k)).map bv) ∧ Below w.heap.size w wr ∧ w.heap.size + 1 ≤ wr.heap.size) (fun _ i _ => 32 - (intOf i).toNat)
  case atStart => exact ⟨0, by omega, rfl, by simpa [hexS] using hown, hb3', hs3'⟩
  case round =>
    clear hown hb3' hs3' hX3
    obtain ⟨k, hk, rfl, hown, hbr, hsB⟩ := hrel
    by_cases hlt : k < 32
    · have g1 := fun w => run_index24 w x hx k hlt
      have Hnext := Lib.hid (hexS_take x k (by omega))
      have hhl : (hexS (x.take k)).length = 2 * k := by rw [hexS_length]; simp; omega
      generalize x.getD k 0 = c at *
      generalize hexS (x.take k) = hx1 at *
      go_wp2_with fail
      rename_i hK
      have hc := c.toNat_lt
      refine wp_region_hoist [0, 1, 2, 3, 4, 5, 6] [7, 8, 9] _ (by kernel_rfl) (by kernel_rfl) rfl rfl (fun j => by match j with | 0 => rfl | 1 => rfl | 2 => rfl | n + 3 => rfl) ?_
      refine wpPure_cons _ u3 rfl rfl (fun w => by go_simp) ?_
      simp only [Act.put, List.setIfInBounds_toArray]
      refine wpPure_cons _ (bv c) rfl rfl (fun w => by go_simp) ?_
      simp only [Act.put]
      refine wpPure_cons _ (.int .u8 ((c.toNat / 16 : Nat) : Int)) rfl rfl (fun w => by go_simp; exact u8_quo c) ?_
      simp only [Act.put]
      refine wpPure_cons _ (bv (sg (c.toNat / 16))) rfl rfl (fun w => pure_digit _ _ _ (.tmp 13) rfl rfl (c.toNat / 16) (by omega) rfl w) ?_
      simp only [Act.put]
      refine wpPure_cons _ (bv c) rfl rfl (fun w => by go_simp) ?_
      simp only [Act.put]
      refine wpPure_cons _ (.int .u8 ((c.toNat % 16 : Nat) : Int)) rfl rfl (fun w => by go_simp; exact u8_rem c) ?_
      simp only [Act.put]
      refine wpPure_cons _ (bv (sg (c.toNat % 16))) rfl rfl (fun w => pure_digit _ _ _ (.tmp 16) rfl rfl (c.toNat % 16) (by omega) rfl w) ?_
      simp only [Act.put]
      refine wpPure_nil ?_
      simp only [List.filterMap_cons, List.filterMap_nil, List.getElem?_cons_zero, List.getElem?_cons_succ]
      have hnew : (wr.drew.alloc (Obj.cells #[bv (sg (c.toNat / 16)), bv (sg (c.toNat % 16))] 5)).heap[wr.heap.size]? = some (.cells (([sg (c.toNat / 16), sg (c.toNat % 16)] : List UInt8).map bv).toArray 5 (0, 0)) := heap_alloc_new wr.drew _
      have hown0 : (wr.drew.alloc (Obj.cells #[bv (sg (c.toNat / 16)), bv (sg (c.toNat % 16))] 5)).ownsRow (w.heap.size + 1) 5 1 u3 hx1.length (hx1.map bv) := World.ownsRow.alloc (w := wr.drew) hown _
      have hb0 : Below (w.heap.size + 1) wr (wr.drew.alloc (Obj.cells #[bv (sg (c.toNat / 16)), bv (sg (c.toNat % 16))] 5)) := (Below.refl _ wr).drew.alloc hsB _
      go_step
      go_step
      refine wpList_append_bytes rfl (.tmp 11) (.tmp 18) rfl (w.heap.size + 1) _ hx1 rfl hown0 ⟨wr.heap.size, 0, none⟩ 2 2 [sg (c.toNat / 16), sg (c.toNat % 16)] rfl rfl (fun j hj => cells_row _ hnew j hj) (by omega) wr hb0 (by simp; omega) ?_
      intro v1 w4 hown1 hb1
      rw [← Hnext.out] at hown1
      clear hnew hown0 hb0 Hnext hown
      go_wp2_with fail
      refine hK _ _ ?_
      go_wp2_with fail
      go_roundw
      case rel => exact ⟨k + 1, by omega, by go_num, hown1, hbr.trans (hb1.mono (by omega)), by have := hb1.size; omega⟩
      case measure => simp [intOf]; omega
    · obtain rfl : k = 32 := by omega
      have hxt : x.take 32 = x := List.take_of_length_le (by omega)
      rw [hxt] at hown
      have hrd := ownsRow_rd hown
      have hcv : (convert 42 9 u3).run Try.prog wr = .ok (.string ⟨(hexS x).toArray⟩) wr := by
        obtain ⟨a0, cap, rfl, hc, hr⟩ := hrd
        have hl : (hexS x).length = 64 := by rw [hexS_length, hx]
        obtain ⟨b, o, rfl, hj⟩ := hr (by omega)
        exact run_convert_bytes_back wr 42 9 5 ⟨b, o, none⟩ cap (hexS x) (by kernel_rfl) (by kernel_rfl) (by kernel_rfl) (fun j h => by rw [Addr.add_mid, hj j h]; simp [h])
      clear hown hrd hxt
      generalize hh : hexS x = hs at *
      have Hh := Lib.hid hh
      clear hh
      go_wp2_with fail
      go_ret
      exact ⟨ret_val (by rw [Hh.out]; rfl), hbr⟩
end Go.Proofs.Ytcfkapoppmpehaa

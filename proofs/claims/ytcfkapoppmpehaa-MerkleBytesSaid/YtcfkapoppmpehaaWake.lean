/-
  The self-test of the digests' layer.
-/
import Derived.Test.YtcfkapoppmpehaaText
import Derived.WalkMore
import Derived.Lib.SlBytesConst
namespace Go.Proofs.Ytcfkapoppmpehaa
open Go.RowKit

set_option maxRecDepth 100000 in
set_option maxHeartbeats 400000 in
theorem parse_ab (w : World) :
    Calls Try.prog 30 #[.string { data := #[97, 98] }] w fun e w' => e = .returned (.tuple #[.agg zero24, .int .i64 130]) ∧ Below w.heap.size w w' := by
  go_enter Try.func30, Try.ntmps30
  go_upto_region 3 with fail
  obtain ⟨w2, hw2, hbl, hb, hs⟩ := allocs_named w [.cells zero24 24]
  change Code.wp _ _ _ _ (List.foldl World.alloc w [.cells zero24 24])
  rw [hw2]
  have hZ : w2.heap[w.heap.size]? = some (.cells zero24 24 (0, 0)) := hbl 0
  have hs2 : w.heap.size < w2.heap.size := (Array.getElem?_eq_some_iff.1 hZ).1
  clear hw2 hbl hs
  go_step3
  go_wp2_with fail
  go_step3
  go_wp2_with fail
  obtain ⟨w3, hw3, hb3, hs3⟩ : ∃ w3 : World, (w2.alloc (Obj.cells zero24 24)) = w3 ∧ Below w2.heap.size w2 w3 ∧ w3.heap.size = w2.heap.size + 1 := ⟨_, rfl, (Below.refl _ _).alloc (Nat.le_refl _) _, by simp⟩
  change Code.wp _ _ _ _ (World.iter (w2.alloc (Obj.cells zero24 24)) _ 0)
  rw [hw3]
  have hZ3 := (hb3.block _ hs2).trans hZ
  have hb3' := hb.trans (hb3.mono hb.size)
  have hw23 : w.heap.size < w3.heap.size := by omega
  clear hw3 hb3 hZ hb hs2
  rw [← hs3]
  clear hs3
  have hnx := fun ty => run_next_ascii (P := Try.prog) w3 { data := #[97, 98] } 0 ty (by decide) (by decide)
  have hZ4 : (w3.iter { data := #[97, 98] } 1).heap[w.heap.size]? = some (.cells zero24 24 (0, 0)) := (Below.heap_alloc w3 _ _ hw23).trans hZ3
  have hb4 : Below w.heap.size w (w3.iter { data := #[97, 98] } 1) := hb3'.alloc (by omega) _
  clear hZ3 hb3'
  go_loopw [5] (fun g wr => g = .bool false ∧ wr = w3.iter { data := #[97, 98] } 0) (fun _ _ => 0)
  case atStart => exact ⟨rfl, rfl⟩
  case round =>
    obtain ⟨rfl, rfl⟩ := hrel
    go_wp2_with (first
      | (refine wpList_build rfl 24 _ rfl (by kernel_rfl) ?_; rw [show (Option.getD (Try.prog.built 24 _) #[]) = zero24 from by kernel_rfl])
      | (refine wpList_store_row rfl 24 (.tmp 2) (.tmp 55) rfl w.heap.size 24 zero24 zero24 rfl rfl hZ4 zero24_info rfl zero24_one ?_))
    rw [Exit.noGoto_ret]
    refine bodyPost_ret (results_cell_tmp (d := .array 32 5) rfl _ _ w.heap.size 24 _ (0, 0) rfl (setRow_heap _ _ _ _ _ _ hZ4) (by kernel_rfl) rfl zero24_info) rfl ⟨rfl, below_setRow' hb4 (by omega) _⟩
def abcText : ByteArray := { data := #[98, 97, 55, 56, 49, 54, 98, 102, 56, 102, 48, 49, 99, 102, 101, 97, 52, 49, 52, 49, 52, 48, 100, 101, 53, 100, 97, 101, 50, 50, 50, 51, 98, 48, 48, 51, 54, 49, 97, 51, 57, 54, 49, 55, 55, 97, 57, 99, 98, 52, 49, 48, 102, 102, 54, 49, 102, 50, 48, 48, 49, 53, 97, 100] }
theorem abc_text : ({ data := (hexS (shaB [97, 98, 99])).toArray } : ByteArray) = abcText := by kernel_rfl

def z32 : List UInt8 := List.replicate 32 0
def z01 : List UInt8 := 0 :: 1 :: List.replicate 30 0
theorem build24_zero (w : World) : (Instr.build 24 #[]).run Try.prog w = .ok (bagg z32) w := run_build w 24 _ _ (by kernel_rfl)
theorem build24_01 (w : World) : (Instr.build 24 #[(0, .int .u8 0), (1, .int .u8 1)]).run Try.prog w = .ok (bagg z01) w := run_build w 24 _ _ (by kernel_rfl)

set_option maxRecDepth 100000 in
set_option maxHeartbeats 400000 in
theorem wakes03 (w : World) :
    Calls Try.prog 29 #[] w fun e w' => e = .returned (.bool true) ∧ Below w.heap.size w w' := by
  have hcv := fun w => Lib.run_convert_bytes_const (P := Try.prog) w 42 5 #[.int .u8 97, .int .u8 98, .int .u8 99] 3 3 (by kernel_rfl) (by kernel_rfl)
  have HT := Lib.hid (text_any (shaB [97, 98, 99]) (shaB_length _))
  rw [abc_text] at HT
  have HS := Lib.hid (fun w v h => sum_any v [97, 98, 99] (by simp) w h)
  generalize shaB [97, 98, 99] = d at *
  have htl : abcText.toList = [98, 97, 55, 56, 49, 54, 98, 102, 56, 102, 48, 49, 99, 102, 101, 97, 52, 49, 52, 49, 52, 48, 100, 101, 53, 100, 97, 101, 50, 50, 50, 51, 98, 48, 48, 51, 54, 49, 97, 51, 57, 54, 49, 55, 55, 97, 57, 99, 98, 52, 49, 48, 102, 102, 54, 49, 102, 50, 48, 48, 49, 53, 97, 100] := by kernel_rfl
  generalize abcText = t at *
  go_enter Try.func29, Try.ntmps29
  go_wp2_with fail
  obtain ⟨w2, hw2, hbl, hb, hs⟩ := allocs_named w [.cells #[.int .u8 97, .int .u8 98, .int .u8 99] 5 (3, 4)]
  have hrd : RdB w2 (.slice (some ⟨w.heap.size, 0, none⟩) 3 3) [97, 98, 99] := ⟨_, 3, rfl, Nat.le_refl _, fun _ => ⟨w.heap.size, 0, rfl, fun j hj => by
    have h0 : w2.heap[w.heap.size]? = _ := hbl 0
    rw [cell_of_row _ _ _ _ _ _ h0, Nat.zero_add]
    match j, hj with
    | 0, _ => rfl
    | 1, _ => rfl
    | 2, _ => rfl⟩⟩
  change Calls _ _ _ (List.foldl World.alloc w [.cells #[.int .u8 97, .int .u8 98, .int .u8 99] 5 (3, 4)]) _
  rw [hw2]
  refine (HS.out w2 _ hrd).mono ?_
  rintro e w3 ⟨rfl, hb3⟩
  have hb3' := hb.trans (hb3.mono hb.size)
  clear hbl hs hb hb3 hw2 hrd
  dsimp only
  go_wp2_with fail
  refine (HT.out w3).mono ?_
  rintro e w4 ⟨rfl, hb4⟩
  have hb4' := hb3'.trans (hb4.mono hb3'.size)
  clear hb3' hb4 HT HS hcv
  dsimp only
  go_wp2_with fail
  refine (parse_ab w4).mono ?_
  rintro e w5 ⟨rfl, hb5⟩
  have hb5' := hb4'.trans (hb5.mono hb4'.size)
  clear hb4' hb5 htl
  dsimp only
  have hmk := fun u => run_make42 u 56 56 56 56 rfl rfl (by omega) (by omega)
  have hb0 := build24_zero
  have hb1 := build24_01
  go_wp2_with (refine wpList_store_new rfl 24 (.tmp 1) (.tmp 10) rfl _ _ zero24 rfl rfl zero24_info rfl zero24_one ?_)
  obtain ⟨w6, hw6, hbl6, hb6, hs6⟩ := allocs_named w5 [.cells zero24 24, .cells ((List.replicate 56 (0 : UInt8)).map bv).toArray 5]
  change Calls _ _ _ (List.foldl World.alloc w5 [.cells zero24 24, .cells ((List.replicate 56 (0 : UInt8)).map bv).toArray 5]) _
  rw [hw6]
  have h6 : w6.heap[w5.heap.size + 1]? = _ := hbl6 1
  have hrd : RdB w6 (.slice (some ⟨w5.heap.size + 1, 0, none⟩) (List.replicate 56 (0 : UInt8)).length 56) (List.replicate 56 0) := ⟨_, 56, rfl, Nat.le_refl _, fun _ => ⟨_, 0, rfl, fun j hj => by
    rw [cell_of_row _ _ _ _ _ _ h6, Nat.zero_add, getb _ _ hj]⟩⟩
  have hpl : (padL (List.replicate 56 0)).length = 128 := by kernel_rfl
  have HL1 := Lib.hid (less_any z32 z01 rfl rfl)
  have HL2 := Lib.hid (less_any z32 z32 rfl rfl)
  rw [show lessB z32 z01 = true from by kernel_rfl] at HL1
  rw [show lessB z32 z32 = false from by kernel_rfl] at HL2
  refine (pad_any _ _ (by decide) w6 hrd).mono ?_
  rintro e w7 ⟨v7, rfl, ⟨H7, rfl, _, _⟩, hb7⟩
  have hb7' := hb5'.trans ((hb6.mono hb5'.size).trans (hb7.mono (Nat.le_trans hb5'.size hb6.size)))
  rw [hpl]
  clear hb5' hb6 hb7 hrd h6 hbl6 hw6 hs6 hmk
  dsimp only
  go_wp2_with fail
  refine (HL1.out w7).mono ?_
  rintro e w8 ⟨rfl, hb8⟩
  have hb8' := hb7'.trans (hb8.mono hb7'.size)
  dsimp only
  go_wp2_with fail
  refine (HL2.out w8).mono ?_
  rintro e w9 ⟨rfl, hb9⟩
  have hb9' := hb8'.trans (hb9.mono hb8'.size)
  dsimp only
  go_wp2_with fail
  go_ret
  exact ⟨ret_val rfl, hb9'⟩
end Go.Proofs.Ytcfkapoppmpehaa

/-
  All chains' starts, told one by one: what the iterator tells.
-/
import Derived.Test.YtcfkapoppmpehaaRn
import Derived.Test.YtcfkapoppmpehaaWj
import Derived.Sort.CutIn
namespace Go.Proofs.Ytcfkapoppmpehaa
open Go.RowKit

set_option maxHeartbeats 400000 in
theorem starts101_any (x : List UInt8) (w : World) :
    Calls Try.prog 101 #[bagg x] w fun e w' => e = .returned (.func (.func 109) #[] #[.pointer (some ⟨w.heap.size, 0, none⟩)]) ∧ w' = w.alloc (.cells (x.map bv).toArray 24) := by
  go_enter Try.func101, Try.ntmps101
  go_wp2_with fail
  go_ret
  exact ⟨rfl, rfl⟩

def encS (x : List UInt8) (i : Fin 67) : Array Value := #[.int .i64 (i.val : Nat), bagg (startW x i.val)]
/-- What a round that goes on keeps: what lay below n, and the block b. -/
def KpS (b n : Nat) (W W' : World) : Prop := Below n W W' ∧ W'.heap[b]? = W.heap[b]?

theorem grown_of_below {A B : World} (h : Below A.heap.size A B) (row : Option Nat := none) : A.grownBy B row := ⟨h.os, h.tape, h.output, h.size, fun i hi _ => h.block i hi⟩
set_option maxRecDepth 100000 in
set_option maxHeartbeats 1000000 in
theorem starts_stops (x : List UInt8) (hx : x.length = 32) (b n0 n : Nat) (w : World) (hb : w.heap[b]? = some (.cells (x.map bv).toArray 24 (0, 0))) :
    SeqStopsK Fence.wide n Try.prog 109 #[.pointer (some ⟨b, 0, none⟩)] (encS x) (KpS b n0) (fun xs => xs = List.finRange 67) (fun _ => True) 67 w := by
  intro l J Jx W hW hJ hJx hY h0
  refine callsIn_of_wp Try.func109 rfl trivial ?_ rfl
  simp only [Try.ntmps109, List.size_toArray, List.length_cons, List.length_nil, Nat.reduceAdd, Nat.reduceSub, Array.replicate_succ, Array.replicate_zero, List.push_toArray, List.append_toArray, List.nil_append, List.cons_append]
  gi_wp2
  gi_loopw [6] (fun i wr => ∃ k : Nat, k ≤ 67 ∧ i = .int .i64 k ∧ J ((List.finRange 67).take k) wr ∧ wr.heap[b]? = some (.cells (x.map bv).toArray 24 (0, 0))) (fun i _ => 67 - (intOf i).toNat)
  case atStart => exact ⟨0, by omega, rfl, h0, (hW.block b (Array.getElem?_eq_some_iff.1 hb).1).trans hb⟩
  case round =>
    obtain ⟨k, hk, rfl, hJk, hB⟩ := hrel
    by_cases hlt : k < 67
    · have hg : decide ((k : Int) < 67) = true := decide_eq_true (by omega)
      have HS := Lib.hid (start61_any x hx k hlt wr)
      have hzl := startW_length x k
      have HY := Lib.hid (fun W1 h1 => hY ((List.finRange 67).take k) ⟨k, hlt⟩ W1 h1 (by simp; omega))
      simp only [encS] at HY
      have Hnext := Lib.hid (show (List.finRange 67).take k ++ [⟨k, hlt⟩] = (List.finRange 67).take (k + 1) by rw [List.take_add_one]; simp [hlt])
      rw [Hnext.out] at HY
      generalize startW x k = z at *
      have hBl := (Array.getElem?_eq_some_iff.1 hB).1
      gi_upto_region 3 with fail
      refine wpIn_wide.2 ?_
      go_wp2_with (refine wpList_load_row rfl 24 (.tmp 1) rfl b rfl 24 _ (0, 0) (.array 32 5) hB (by kernel_rfl) rfl (id_info x hx) ?_)
      refine HS.out.mono ?_
      rintro e w5 ⟨rfl, hb5⟩
      dsimp only
      go_wp2_with (refine wpList_store_new rfl 24 (.tmp 4) (.tmp 13) rfl _ _ (z.map bv).toArray rfl rfl (id_info z hzl) (id_size z hzl).symm (id_one z) ?_)
      have hnew : (w5.alloc (Obj.cells (z.map bv).toArray 24)).heap[w5.heap.size]? = some (.cells (z.map bv).toArray 24 (0, 0)) := heap_alloc_new w5 _
      have hb6 : Below wr.heap.size wr (w5.alloc (Obj.cells (z.map bv).toArray 24)) := hb5.alloc hb5.size _
      generalize w5.alloc (Obj.cells (z.map bv).toArray 24) = w6 at *
      have hB6 := (hb6.block b hBl).trans hB
      have hJ6 := hJ _ wr w6 none hJk (grown_of_below hb6) (fun r hr => by cases hr)
      obtain ⟨fn, tmps, assign, body, hy, hR⟩ := HY.out w6 hJ6
      gi_wp2_with (refine wpListIn_load_row rfl 24 (.tmp 4) rfl w5.heap.size rfl 24 _ (0, 0) (.array 32 5) hnew (by kernel_rfl) rfl (id_info z hzl) ?_)
      refine ⟨fun h => (by cases h), hR.mono ?_⟩
      rintro e W3 (⟨rfl, hJ3, hk3⟩ | ⟨rfl, hJx3⟩)
      · have hB3 := hk3.2.trans hB6
        clear hk3 hR hy HY
        gi_wp2
        go_roundw
        case rel => exact ⟨k + 1, by omega, by go_num, hJ3, hB3⟩
        case measure => simp [intOf]; omega
      · clear hR hy HY
        gi_wp2
        refine bodyPost_ret (results_none rfl _ _ _) rfl ?_
        exact ⟨⟨_, rfl⟩, .inr ⟨_, trivial, hJx3⟩⟩
    · obtain rfl : k = 67 := by omega
      have hg : decide (((67 : Nat) : Int) < 67) = false := decide_eq_false (by omega)
      rw [show (List.finRange 67).take 67 = List.finRange 67 from List.take_of_length_le (by simp)] at hJk
      gi_wp2
      go_end0
      exact ⟨⟨_, rfl⟩, .inl ⟨_, rfl, hJk⟩⟩
end Go.Proofs.Ytcfkapoppmpehaa

/-
  What calls of Start and Step give.
-/
import Derived.Test.YtcfkapoppmpehaaWd
import Derived.Test.YtcfkapoppmpehaaSeed
import Derived.Test.YtcfkapoppmpehaaWake
namespace Go.Proofs.Ytcfkapoppmpehaa
open Go.RowKit

set_option maxHeartbeats 400000 in
theorem chained_any (n : Int) (w : World)  :
    Calls Try.prog 99 #[.int .i64 n] w fun e w' => e = .returned (.bool (decide (0 ≤ n ∧ n < 67))) ∧ Below w.heap.size w w' := by
  by_cases h0 : 0 ≤ n
  all_goals
    go_enter Try.func99, Try.ntmps99
    go_wp2
    all_goals go_ret
    all_goals refine ⟨ret_val ?_, Below.refl _ _⟩
    all_goals simp
  all_goals omega
theorem startW_said (x : List UInt8) (c : Nat) : shaB (83 :: (([c] : List Nat).map UInt8.ofNat ++ ([x] : List (List UInt8)).flatten)) = startW x c := by simp [startW]
theorem stepW_said (x : List UInt8) (c n : Nat) : shaB (67 :: (([c, n] : List Nat).map UInt8.ofNat ++ ([x] : List (List UInt8)).flatten)) = stepW x c n := by simp [stepW]
/-- A slice of one digest. -/
theorem rdI_one {w : World} {b : Nat} {x : List UInt8} (hx : x.length = 32) (h : w.heap[b]? = some (.cells (x.map bv).toArray 24 (0, 0))) : RdI w (.slice (some ⟨b, 0, none⟩) 1 1) [x] := by
  refine ⟨_, 1, rfl, Nat.le_refl _, fun i hi => ?_, fun _ => ⟨b, 0, rfl, fun i hi => ?_⟩⟩
  · obtain rfl : i = 0 := by simpa using hi
    exact hx
  · obtain rfl : i = 0 := by simpa using hi
    have := rangeAt_row h 0 32
    simpa [hx, List.take_of_length_le] using this
/-- A slice of numbers that is a row of its own. -/
theorem rdN_row {w : World} {b : Nat} {ns : List Nat} {t : TypeId} (h : w.heap[b]? = some (.cells (ns.map fun n : Nat => Value.int .i64 (n : Int)).toArray t (0, 0))) : RdN w (.slice (some ⟨b, 0, none⟩) ns.length ns.length) ns := by
  refine ⟨_, _, rfl, Nat.le_refl _, fun _ => ⟨b, 0, rfl, fun i hi => ?_⟩⟩
  rw [Nat.zero_add, cell_of_row _ _ _ _ _ _ h]
  simp [hi]

theorem laid_from (l : List Value) : ∀ (k : Nat) (z : Array Value), z.size = k + l.length → (List.foldl (fun (cs : Array Value) (x : Value × Nat) => cs.setIfInBounds x.snd x.fst) z (l.zipIdx k)).toList = z.toList.take k ++ l := by
  induction l with
  | nil =>
    intro k z h
    have : z.toList.length = k := by simpa using h
    rw [List.zipIdx_nil, List.foldl_nil, List.append_nil, List.take_of_length_le (by omega)]
  | cons v l ih =>
    intro k z h
    rw [List.zipIdx_cons, List.foldl_cons, ih (k + 1) _ (by simp at h ⊢; omega)]
    have hk : k < z.toList.length := by simp at h ⊢; omega
    rw [Array.toList_setIfInBounds, List.take_add_one, List.take_set_of_le (Nat.le_refl _), List.getElem?_set_self hk]
    simp
/-- A row that is built out of an array's cells. -/
theorem laid_row (l : List Value) (z : Array Value) (h : z.size = l.length) : List.foldl (fun (cs : Array Value) (x : Value × Nat) => cs.setIfInBounds x.snd x.fst) z l.zipIdx = l.toArray := by
  apply Array.ext'
  rw [laid_from l 0 z (by omega)]
  simp

set_option maxRecDepth 100000 in
set_option maxHeartbeats 400000 in
theorem start61_any (x : List UInt8) (hx : x.length = 32) (c : Nat) (hc : c < 67) (w : World) :
    Calls Try.prog 61 #[bagg x, .int .i64 c] w fun e w' => e = .returned (.tuple #[bagg (startW x c), .int .i64 0]) ∧ Below w.heap.size w w' := by
  have hd : decide (0 ≤ (c : Int) ∧ (c : Int) < 67) = true := by simp; omega
  have HD := Lib.hid (fun v u w h1 h2 => wdigest_any 83 v u [c] [x] (by simp) (fun i => by match i with
    | 0 => simp; omega
    | i + 1 => simp) (by simp) w h1 h2)
  rw [startW_said] at HD
  have hI := startW_length x c
  generalize hst : startW x c = d at *
  clear hst
  go_enter Try.func61, Try.ntmps61
  go_wp2_with fail
  obtain ⟨w2, hw2, hbl, hbq, hsq⟩ := allocs_named w [.cells (x.map bv).toArray 24, .cells zero24 24]
  change Calls _ _ _ (List.foldl World.alloc w [.cells (x.map bv).toArray 24, .cells zero24 24]) _
  rw [hw2]
  clear hw2
  refine (chained_any c w2).mono ?_
  rintro e w3 ⟨rfl, hb0⟩
  rw [hd]
  have hX := (hb0.block _ (by simp at hsq; omega)).trans (hbl 0)
  have hZ := (hb0.block _ (by simp at hsq; omega)).trans (hbl 1)
  have hb := hbq.trans (hb0.mono hbq.size)
  have hX2 := (Below.heap_alloc w3 (Obj.cells #[.int .i64 (c : Nat)] 3) _ (Array.getElem?_eq_some_iff.1 hX).1).trans hX
  clear hd hbq hb0 hbl
  dsimp only
  go_wp2_with (refine wpList_load_row rfl 24 (.tmp 2) rfl w.heap.size rfl 24 _ (0, 0) (.array 32 5) hX2 (by kernel_rfl) rfl (id_info x hx) ?_)
  rw [laid_row (x.map bv) _ (by rw [List.length_map, hx]; rfl)]
  have hN := heap_alloc_new w3 (Obj.cells #[.int .i64 (c : Nat)] 3)
  have hb4 : Below w.heap.size w (w3.alloc (Obj.cells #[.int .i64 (c : Nat)] 3)) := hb.alloc hb.size _
  have hZ4 := (Below.heap_alloc w3 (Obj.cells #[.int .i64 (c : Nat)] 3) _ (Array.getElem?_eq_some_iff.1 hZ).1).trans hZ
  have hs4 : (w3.alloc (Obj.cells #[.int .i64 (c : Nat)] 3)).heap.size = w3.heap.size + 1 := by simp
  generalize w3.alloc (Obj.cells #[.int .i64 (c : Nat)] 3) = w4 at *
  have hN5 := (Below.heap_alloc w4 (Obj.cells (x.map bv).toArray 24) _ (Array.getElem?_eq_some_iff.1 hN).1).trans hN
  have hZ5 := (Below.heap_alloc w4 (Obj.cells (x.map bv).toArray 24) _ (Array.getElem?_eq_some_iff.1 hZ4).1).trans hZ4
  have hI5 := heap_alloc_new w4 (Obj.cells (x.map bv).toArray 24)
  have hb5 := hb4.alloc hb4.size (Obj.cells (x.map bv).toArray 24)
  rw [hs4] at hI5
  generalize w4.alloc (Obj.cells (x.map bv).toArray 24) = w5 at *
  refine (HD.out _ _ w5 (rdN_row (ns := [c]) hN5) (rdI_one hx hI5)).mono ?_
  rintro e w6 ⟨rfl, hb6⟩
  have hZ6 := (hb6.block _ (Array.getElem?_eq_some_iff.1 hZ5).1).trans hZ5
  have hbw6 := hb5.trans (hb6.mono hb5.size)
  clear hN5 hI5 hb5 hb4 hN hX2 hX hZ hZ4 hZ5 hb
  dsimp only
  go_wp2_with (refine wpList_store_row rfl 24 (.tmp 4) (.tmp 14) rfl (w.heap.size + 1) 24 zero24 (d.map bv).toArray rfl rfl hZ6 (id_info d hI) (id_size d hI).symm (id_one d) ?_)
  exact bodyPost_ret (results_cell_tmp (d := .array 32 5) rfl _ _ (w.heap.size + 1) 24 _ (0, 0) rfl (setRow_heap _ _ _ _ _ _ hZ6) (by kernel_rfl) rfl (id_info d hI)) rfl ⟨rfl, below_setRow' hbw6 (by omega) _⟩
set_option maxRecDepth 100000 in
set_option maxHeartbeats 400000 in
theorem step62_any (x : List UInt8) (hx : x.length = 32) (c n : Nat) (hc : c < 67) (hn : n < 15) (w : World) :
    Calls Try.prog 62 #[bagg x, .int .i64 c, .int .i64 n] w fun e w' => e = .returned (.tuple #[bagg (stepW x c n), .int .i64 0]) ∧ Below w.heap.size w w' := by
  have hd : decide (0 ≤ (c : Int) ∧ (c : Int) < 67) = true := by simp; omega
  have HD := Lib.hid (fun v u w h1 h2 => wdigest_any 67 v u [c, n] [x] (by simp) (fun i => by match i with
    | 0 => simp; omega
    | 1 => simp; omega
    | i + 2 => simp) (by simp) w h1 h2)
  rw [stepW_said] at HD
  have hI := stepW_length x c n
  generalize hst : stepW x c n = d at *
  clear hst
  go_enter Try.func62, Try.ntmps62
  go_wp2_with fail
  obtain ⟨w2, hw2, hbl, hbq, hsq⟩ := allocs_named w [.cells (x.map bv).toArray 24, .cells zero24 24]
  change Calls _ _ _ (List.foldl World.alloc w [.cells (x.map bv).toArray 24, .cells zero24 24]) _
  rw [hw2]
  clear hw2
  refine (chained_any c w2).mono ?_
  rintro e w3 ⟨rfl, hb0⟩
  rw [hd]
  have hn0 : decide ((n : Int) < 0) = false := decide_eq_false (by omega)
  have hn1 : decide ((15 : Int) ≤ (n : Int)) = false := decide_eq_false (by omega)
  have hX := (hb0.block _ (by simp at hsq; omega)).trans (hbl 0)
  have hZ := (hb0.block _ (by simp at hsq; omega)).trans (hbl 1)
  have hb := hbq.trans (hb0.mono hbq.size)
  have hX2 := (Below.heap_alloc w3 (Obj.cells #[.int .i64 (c : Nat), .int .i64 (n : Nat)] 3) _ (Array.getElem?_eq_some_iff.1 hX).1).trans hX
  clear hd hbq hb0 hbl
  dsimp only
  go_wp2_with (refine wpList_load_row rfl 24 (.tmp 3) rfl w.heap.size rfl 24 _ (0, 0) (.array 32 5) hX2 (by kernel_rfl) rfl (id_info x hx) ?_)
  rw [laid_row (x.map bv) _ (by rw [List.length_map, hx]; rfl)]
  have hN := heap_alloc_new w3 (Obj.cells #[.int .i64 (c : Nat), .int .i64 (n : Nat)] 3)
  have hb4 : Below w.heap.size w (w3.alloc (Obj.cells #[.int .i64 (c : Nat), .int .i64 (n : Nat)] 3)) := hb.alloc hb.size _
  have hZ4 := (Below.heap_alloc w3 (Obj.cells #[.int .i64 (c : Nat), .int .i64 (n : Nat)] 3) _ (Array.getElem?_eq_some_iff.1 hZ).1).trans hZ
  have hs4 : (w3.alloc (Obj.cells #[.int .i64 (c : Nat), .int .i64 (n : Nat)] 3)).heap.size = w3.heap.size + 1 := by simp
  generalize w3.alloc (Obj.cells #[.int .i64 (c : Nat), .int .i64 (n : Nat)] 3) = w4 at *
  have hN5 := (Below.heap_alloc w4 (Obj.cells (x.map bv).toArray 24) _ (Array.getElem?_eq_some_iff.1 hN).1).trans hN
  have hZ5 := (Below.heap_alloc w4 (Obj.cells (x.map bv).toArray 24) _ (Array.getElem?_eq_some_iff.1 hZ4).1).trans hZ4
  have hI5 := heap_alloc_new w4 (Obj.cells (x.map bv).toArray 24)
  have hb5 := hb4.alloc hb4.size (Obj.cells (x.map bv).toArray 24)
  rw [hs4] at hI5
  generalize w4.alloc (Obj.cells (x.map bv).toArray 24) = w5 at *
  refine (HD.out _ _ w5 (rdN_row (ns := [c, n]) hN5) (rdI_one hx hI5)).mono ?_
  rintro e w6 ⟨rfl, hb6⟩
  have hZ6 := (hb6.block _ (Array.getElem?_eq_some_iff.1 hZ5).1).trans hZ5
  have hbw6 := hb5.trans (hb6.mono hb5.size)
  clear hN5 hI5 hb5 hb4 hN hX2 hX hZ hZ4 hZ5 hb
  dsimp only
  go_wp2_with (refine wpList_store_row rfl 24 (.tmp 6) (.tmp 25) rfl (w.heap.size + 1) 24 zero24 (d.map bv).toArray rfl rfl hZ6 (id_info d hI) (id_size d hI).symm (id_one d) ?_)
  exact bodyPost_ret (results_cell_tmp (d := .array 32 5) rfl _ _ (w.heap.size + 1) 24 _ (0, 0) rfl (setRow_heap _ _ _ _ _ _ hZ6) (by kernel_rfl) rfl (id_info d hI)) rfl ⟨rfl, below_setRow' hbw6 (by omega) _⟩

set_option maxRecDepth 100000 in
set_option maxHeartbeats 400000 in
theorem start61_err (x : List UInt8) (c : Int) (hc : ¬(0 ≤ c ∧ c < 67)) (w : World) :
    Calls Try.prog 61 #[bagg x, .int .i64 c] w fun e w' => e = .returned (.tuple #[bagg z32, .int .i64 2]) ∧ Below w.heap.size w w' := by
  have hd : decide (0 ≤ c ∧ c < 67) = false := decide_eq_false hc
  have hB := build24_zero
  go_enter Try.func61, Try.ntmps61
  go_wp2_with fail
  obtain ⟨w2, hw2, hbl, hbq, hsq⟩ := allocs_named w [.cells (x.map bv).toArray 24, .cells zero24 24]
  change Calls _ _ _ (List.foldl World.alloc w [.cells (x.map bv).toArray 24, .cells zero24 24]) _
  rw [hw2]
  clear hw2
  refine (chained_any c w2).mono ?_
  rintro e w3 ⟨rfl, hb0⟩
  rw [hd]
  have hZ := (hb0.block _ (by simp at hsq; omega)).trans (hbl 1)
  have hb := hbq.trans (hb0.mono hbq.size)
  clear hd hbq hb0 hbl
  dsimp only
  go_wp2_with (refine wpList_store_row rfl 24 (.tmp 4) (.tmp 9) rfl (w.heap.size + 1) 24 zero24 (z32.map bv).toArray rfl rfl hZ (id_info z32 rfl) (id_size z32 rfl).symm (id_one z32) ?_)
  exact bodyPost_ret (results_cell_tmp (d := .array 32 5) rfl _ _ (w.heap.size + 1) 24 _ (0, 0) rfl (setRow_heap _ _ _ _ _ _ hZ) (by kernel_rfl) rfl (id_info z32 rfl)) rfl ⟨rfl, below_setRow' hb (by omega) _⟩
set_option maxRecDepth 100000 in
set_option maxHeartbeats 400000 in
theorem step62_err (x : List UInt8) (c n : Int) (hc : ¬(0 ≤ c ∧ c < 67 ∧ 0 ≤ n ∧ n < 15)) (w : World) :
    Calls Try.prog 62 #[bagg x, .int .i64 c, .int .i64 n] w fun e w' => e = .returned (.tuple #[bagg z32, .int .i64 2]) ∧ Below w.heap.size w w' := by
  have hB := build24_zero
  have hcase : Hid (decide (0 ≤ c ∧ c < 67) = false ∨ (decide (0 ≤ c ∧ c < 67) = true ∧ decide (n < 0) = true) ∨ (decide (0 ≤ c ∧ c < 67) = true ∧ decide (n < 0) = false ∧ decide (15 ≤ n) = true)) := Lib.hid (by
    by_cases h1 : 0 ≤ c ∧ c < 67
    · right
      by_cases h2 : n < 0
      · exact .inl ⟨decide_eq_true h1, decide_eq_true h2⟩
      · exact .inr ⟨decide_eq_true h1, decide_eq_false h2, decide_eq_true (by omega)⟩
    · exact .inl (decide_eq_false h1))
  clear hc
  go_enter Try.func62, Try.ntmps62
  go_wp2_with fail
  obtain ⟨w2, hw2, hbl, hbq, hsq⟩ := allocs_named w [.cells (x.map bv).toArray 24, .cells zero24 24]
  change Calls _ _ _ (List.foldl World.alloc w [.cells (x.map bv).toArray 24, .cells zero24 24]) _
  rw [hw2]
  clear hw2
  refine (chained_any c w2).mono ?_
  rintro e w3 ⟨rfl, hb0⟩
  have hZ := (hb0.block _ (by simp at hsq; omega)).trans (hbl 1)
  have hb := hbq.trans (hb0.mono hbq.size)
  clear hbq hb0 hbl
  dsimp only
  rcases hcase.out with hd | ⟨hd, hn0⟩ | ⟨hd, hn0, hn1⟩
  all_goals
    rw [hd]
    clear hd
    try have hm0 := of_decide_eq_true hn0
    go_wp2_with (refine wpList_store_row rfl 24 (.tmp 6) (.tmp 19) rfl (w.heap.size + 1) 24 zero24 (z32.map bv).toArray rfl rfl hZ (id_info z32 rfl) (id_size z32 rfl).symm (id_one z32) ?_)
    exact bodyPost_ret (results_cell_tmp (d := .array 32 5) rfl _ _ (w.heap.size + 1) 24 _ (0, 0) rfl (setRow_heap _ _ _ _ _ _ hZ) (by kernel_rfl) rfl (id_info z32 rfl)) rfl ⟨rfl, below_setRow' hb (by omega) _⟩
end Go.Proofs.Ytcfkapoppmpehaa

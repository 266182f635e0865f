/-
  What a call of Less gives.
-/
import Derived.Test.YtcfkapoppmpehaaOpen
namespace Go.Proofs.Ytcfkapoppmpehaa
open Go.RowKit

/-- The first unlike sign tells. -/
def lessB : List UInt8 → List UInt8 → Bool
  | a :: x, b :: y => if a = b then lessB x y else decide (a.toNat < b.toNat)
  | _, _ => false
theorem lessB_same : ∀ (x y : List UInt8) (k : Nat), k < x.length → k < y.length → (∀ j, j < k → x.getD j 0 = y.getD j 0) → x.getD k 0 ≠ y.getD k 0 → lessB x y = decide ((x.getD k 0).toNat < (y.getD k 0).toNat)
  | [], _, k, h, _, _, _ => by simp at h
  | _ :: _, [], k, _, h, _, _ => by simp at h
  | a :: x, b :: y, 0, _, _, _, hne => by
    simp only [List.getD_cons_zero] at hne ⊢
    rw [lessB, if_neg hne]
  | a :: x, b :: y, k + 1, h1, h2, hj, hne => by
    have h0 := hj 0 (by omega)
    simp only [List.getD_cons_zero, List.getD_cons_succ] at h0 hne ⊢
    rw [lessB, if_pos h0]
    exact lessB_same x y k (by simpa using h1) (by simpa using h2) (fun j hh => by have := hj (j + 1) (by omega); simpa using this) hne
theorem lessB_eq : ∀ (x : List UInt8), lessB x x = false
  | [] => rfl
  | a :: x => by rw [lessB, if_pos rfl]; exact lessB_eq x

set_option maxRecDepth 100000 in
set_option maxHeartbeats 400000 in
theorem less_any (x y : List UInt8) (hx : x.length = 32) (hy : y.length = 32) (w : World) :
    Calls Try.prog 34 #[bagg x, bagg y] w fun e w' => e = .returned (.bool (lessB x y)) ∧ Below w.heap.size w w' := by
  go_enter Try.func34, Try.ntmps34
  obtain ⟨w2, hw2, hbl, hb, hs⟩ := allocs_named w [.cells (x.map bv).toArray 24, .cells (y.map bv).toArray 24]
  go_upto_region 1 with fail
  change Code.wp _ _ _ _ (List.foldl World.alloc w [.cells (x.map bv).toArray 24, .cells (y.map bv).toArray 24])
  rw [hw2]
  have hX : w2.heap[w.heap.size]? = _ := hbl 0
  have hY : w2.heap[w.heap.size + 1]? = _ := hbl 1
  clear hw2 hbl
  go_wp2_with (refine wpList_load_row rfl 24 (.tmp 2) rfl w.heap.size rfl 24 _ (0, 0) (.array 32 5) hX (by kernel_rfl) rfl (id_info x hx) ?_)
  have cY : ∀ k, k < 32 → w2.cell? ⟨w.heap.size + 1, k, none⟩ = some (bv (y.getD k 0)) := fun k hk => by
    rw [cell_of_row _ _ _ _ _ _ hY, getb _ _ (by omega)]
  clear hX hY
  go_loopw [8] (fun i wr => ∃ k : Nat, k ≤ 32 ∧ i = .int .i64 k ∧ wr = w2 ∧ ∀ j, j < k → x.getD j 0 = y.getD j 0) (fun i _ => 32 - (intOf i).toNat)
  case atStart => exact ⟨0, by omega, rfl, rfl, fun j hj => by omega⟩
  case round =>
    obtain ⟨k, hk, rfl, rfl, hq⟩ := hrel
    by_cases hlt : k < 32
    · have Hnext : x.getD k 0 = y.getD k 0 → ∀ j, j < k + 1 → x.getD j 0 = y.getD j 0 := fun h j hj => by
        rcases Nat.lt_succ_iff_lt_or_eq.1 hj with h1 | rfl
        · exact hq j h1
        · exact h
      have Hnext := Lib.hid Hnext
      have Hbad := Lib.hid (lessB_same x y k (by omega) (by omega) hq)
      have c1 := cY k hlt
      have g1 := fun w => run_index24 w x hx k hlt
      clear hq cY
      generalize x.getD k 0 = a at *
      generalize y.getD k 0 = b at *
      by_cases hab : a = b
      · have hne : ((a.toNat : Int) != (b.toNat : Int)) = false := by rw [hab]; simp
        go_wp2_with fail
        go_roundw
        case rel => exact ⟨k + 1, by omega, by go_num, by trivial, Hnext.out hab⟩
        case measure => simp [intOf]; omega
      · have hne : ((a.toNat : Int) != (b.toNat : Int)) = true := by
          simp only [bne_iff_ne, ne_eq]
          intro h
          exact hab (UInt8.toNat_inj.1 (by omega))
        go_wp2_with fail
        go_ret
        exact ⟨ret_val (by rw [Hbad.out hab]; simp), hb⟩
    · obtain rfl : k = 32 := by omega
      have he : x = y := List.ext_getElem (by omega) fun j h1 h2 => by
        have := hq j (by omega)
        simpa [List.getElem?_eq_getElem h1, List.getElem?_eq_getElem h2] using this
      have he := Lib.hid he
      clear hq cY
      go_wp2_with fail
      go_ret
      exact ⟨ret_val (by rw [he.out, lessB_eq]; rfl), hb⟩
end Go.Proofs.Ytcfkapoppmpehaa

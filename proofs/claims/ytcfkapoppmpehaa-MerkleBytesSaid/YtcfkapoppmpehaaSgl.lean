/-
  Signatures and their bytes: the plain law.
-/
import Derived.Test.YtcfkapoppmpehaaSg4
import Derived.Test.YtcfkapoppmpehaaSg5
namespace Go.Proofs.Ytcfkapoppmpehaa
open Go.RowKit

theorem flatten_chunk : ∀ (ids : List (List UInt8)), (∀ i, i < ids.length → (ids.getD i []).length = 32) → ∀ i, i < ids.length → (ids.flatten.drop (32 * i)).take 32 = ids.getD i []
  | [], _, i, h => by simp at h
  | a :: ids, hl, 0, _ => by
    have h0 : a.length = 32 := hl 0 (by simp)
    rw [List.flatten_cons, Nat.mul_zero, List.drop_zero, List.take_append_of_le_length (by omega), List.take_of_length_le (by omega)]
    rfl
  | a :: ids, hl, i + 1, h => by
    have h0 : a.length = 32 := hl 0 (by simp)
    have ih := flatten_chunk ids (fun j hj => hl (j + 1) (by simp; omega)) i (by simp at h; omega)
    rw [List.flatten_cons, List.getD_cons_succ, ← ih, show 32 * (i + 1) = a.length + 32 * i by omega, List.drop_append, List.drop_of_length_le (show a.length ≤ a.length + 32 * i by omega), List.nil_append, show a.length + 32 * i - a.length = 32 * i by omega]
theorem bytS_get0 (n : Nat) (cs ps : List (List UInt8)) (hn : n < 8) : (((bytS n cs ps).getD 0 0).toNat) = n := by
  simp [bytS]; omega
theorem bytS_chunks {n : Nat} {cs ps : List (List UInt8)} (hc : cs.length = 67) (hp : ps.length = 3) (h1 : ∀ i, i < cs.length → (cs.getD i []).length = 32) (h2 : ∀ i, i < ps.length → (ps.getD i []).length = 32) : chunksS (bytS n cs ps) 70 = cs ++ ps := by
  have hall : ∀ i, i < (cs ++ ps).length → ((cs ++ ps).getD i []).length = 32 := fun i hi => by
    rw [List.length_append] at hi
    by_cases h : i < cs.length
    · rw [List.getD_eq_getElem?_getD, List.getElem?_append_left h, ← List.getD_eq_getElem?_getD]; exact h1 i h
    · rw [List.getD_eq_getElem?_getD, List.getElem?_append_right (by omega), ← List.getD_eq_getElem?_getD]; exact h2 _ (by omega)
  have hl : (cs ++ ps).length = 70 := by rw [List.length_append]; omega
  refine List.ext_getElem (by rw [chunksS_length, hl]) fun i hi hi2 => ?_
  rw [chunksS_length] at hi
  have := flatten_chunk (cs ++ ps) hall i (by omega)
  rw [List.getD_eq_getElem?_getD, List.getElem?_eq_getElem hi2, Option.getD_some] at this
  rw [← this]
  simp only [chunksS, List.getElem_map, List.getElem_range]
  rw [chunkS, bytS, List.append_assoc, ← List.flatten_append, show 1 + 32 * i = [UInt8.ofNat n].length + 32 * i from rfl, List.drop_append, List.drop_of_length_le (show [UInt8.ofNat n].length ≤ [UInt8.ofNat n].length + 32 * i by omega), List.nil_append, show [UInt8.ofNat n].length + 32 * i - [UInt8.ofNat n].length = 32 * i by omega]
theorem chunks_flatten (bs : List UInt8) : ∀ k, (chunksS bs k).flatten = (bs.drop 1).take (32 * k)
  | 0 => by simp [chunksS]
  | k + 1 => by
    rw [chunksS_next, List.flatten_append, chunks_flatten bs k, show 32 * (k + 1) = 32 * k + 32 by omega, List.take_add]
    simp [chunkS, Nat.add_comm]
theorem bytS_back {bs : List UInt8} (h : bs.length = 2241) : bytS (bs.getD 0 0).toNat ((chunksS bs 70).take 67) ((chunksS bs 70).drop 67) = bs := by
  rw [bytS, List.append_assoc, ← List.flatten_append, List.take_append_drop, chunks_flatten, List.take_of_length_le (by simp; omega)]
  match bs, h with
  | b :: t, _ => simp
theorem RdI.lens {w : World} {v : Value} {ids : List (List UInt8)} (h : RdI w v ids) : ∀ i, i < ids.length → (ids.getD i []).length = 32 := by
  obtain ⟨_, _, _, _, hl, _⟩ := h; exact hl
theorem RdB.takeN {w : World} {a : Option Addr} {n c : Nat} {bs : List UInt8} (h : RdB w (.slice a n c) bs) (m : Nat) : RdB w (.slice a (bs.take m).length c) (bs.take m) := by
  obtain ⟨a0, c0, hv, hc, hr⟩ := h
  cases hv
  refine ⟨a, c, rfl, by simp; omega, fun h0 => ?_⟩
  obtain ⟨b, o, rfl, hrr⟩ := hr (by simp at h0; omega)
  refine ⟨b, o, rfl, fun j hj => ?_⟩
  have h2 : j < m ∧ j < bs.length := by simp at hj; omega
  rw [List.getD_eq_getElem?_getD, List.getElem?_take, if_pos h2.1, ← List.getD_eq_getElem?_getD]
  exact hrr j h2.2
theorem rdS_zero (w : World) : RdS w (.agg zero49) 0 [] [] :=
  ⟨_, _, rfl, ⟨none, 0, rfl, by simp, by simp, by simp⟩, ⟨none, 0, rfl, by simp, by simp, by simp⟩⟩
/-- What Decode answers to bytes that are no signature's. -/
theorem decode_bad (v : Value) (bs : List UInt8) (w : World) (hv : RdB w v bs) (hb : ¬ (bs.length = 2241 ∧ (bs.getD 0 0).toNat < 8)) :
    Calls Try.prog 42 #[v] w fun e w' => e = .returned (.tuple #[.agg zero49, .int .i64 (if bs.length < 2241 then 7 else 2)]) ∧ Below w.heap.size w w' := by
  have hv0 := hv
  obtain ⟨a, c, rfl, hc, -⟩ := hv0
  by_cases h1 : bs.length < 2241
  · rw [if_pos h1]; exact decode_short a _ c h1 w
  · rw [if_neg h1]
    by_cases h2 : 2241 < bs.length
    · exact decode_long a _ c h2 w
    · have h3 : bs.length = 2241 := by omega
      exact decode_off _ bs w hv h3 (by omega)
theorem same_zero (w : World) : Calls Try.prog 41 #[.agg zero49, .agg zero49] w fun e w' => e = .returned (.bool true) ∧ Below w.heap.size w w' := by
  have := same41_any _ _ 0 0 [] [] [] [] w (rdS_zero w) (rdS_zero w) (by simp) (by simp)
  simpa using this
end Go.Proofs.Ytcfkapoppmpehaa

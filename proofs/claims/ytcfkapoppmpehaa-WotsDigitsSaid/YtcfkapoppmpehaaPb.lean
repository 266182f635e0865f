/-
  Each of two unlike digests has a digit below the other's: plain Lean.
-/
import Derived.Test.YtcfkapoppmpehaaWj
namespace Go.Proofs.Ytcfkapoppmpehaa

def anyLt (x y : List Nat) : Nat → Bool
  | 0 => false
  | k + 1 => anyLt x y k || decide (x.getD k 0 < y.getD k 0)
theorem anyLt_false {x y : List Nat} : ∀ {n : Nat}, anyLt x y n = false → ∀ i, i < n → y.getD i 0 ≤ x.getD i 0
  | 0, _, i, h => by omega
  | n + 1, h, i, hi => by
    simp only [anyLt, Bool.or_eq_false_iff, decide_eq_false_iff_not] at h
    rcases Nat.lt_succ_iff_lt_or_eq.1 hi with h1 | rfl
    · exact anyLt_false h.1 i h1
    · omega
theorem anyLt_self (x : List Nat) : ∀ n, anyLt x x n = false
  | 0 => rfl
  | n + 1 => by simp [anyLt, anyLt_self x n]
theorem sum_mono : ∀ xs ys : List Nat, xs.length = ys.length → (∀ i, i < xs.length → ys.getD i 0 ≤ xs.getD i 0) → (∀ d ∈ xs, d ≤ 15) → sumN xs ≤ sumN ys ∧ (sumN xs = sumN ys → xs = ys)
  | [], [], _, _, _ => ⟨Nat.le_refl _, fun _ => rfl⟩
  | [], _ :: _, h, _, _ => by simp at h
  | _ :: _, [], h, _, _ => by simp at h
  | x :: xs, y :: ys, h, hle, h15 => by
    have ih := sum_mono xs ys (by simpa using h) (fun i hi => by have := hle (i + 1) (by simpa using hi); simpa using this) (fun d hd => h15 d (List.mem_cons_of_mem _ hd))
    have h0 := hle 0 (by simp)
    have hx := h15 x (List.mem_cons_self ..)
    simp only [List.getD_cons_zero] at h0
    have e1 : sumN (x :: xs) = (15 - x) + sumN xs := by simp [sumN]
    have e2 : sumN (y :: ys) = (15 - y) + sumN ys := by simp [sumN]
    refine ⟨by omega, fun he => ?_⟩
    have hs : sumN xs = sumN ys := by omega
    have hxy : x = y := by omega
    rw [hxy, ih.2 hs]
theorem hexN_inj : ∀ a b : List UInt8, hexN a = hexN b → a = b
  | [], [], _ => rfl
  | [], _ :: _, h => by simp [hexN] at h
  | _ :: _, [], h => by simp [hexN] at h
  | a :: l, b :: r, h => by
    rw [show hexN (a :: l) = a.toNat / 16 :: a.toNat % 16 :: hexN l from rfl, show hexN (b :: r) = b.toNat / 16 :: b.toNat % 16 :: hexN r from rfl] at h
    simp only [List.cons.injEq] at h
    rw [hexN_inj l r h.2.2, UInt8.toNat_inj.1 (show a.toNat = b.toNat by omega)]
theorem hexN_le (m : List UInt8) : ∀ d ∈ hexN m, d ≤ 15 := fun d hd => by
  obtain ⟨b, _, hb⟩ := List.mem_flatMap.1 hd
  have := b.toNat_lt
  simp at hb
  omega
theorem below_plain (a b : List UInt8) (ha : a.length = 32) (hb : b.length = 32) : anyLt (digN a) (digN b) 67 = !(decide (a = b)) := by
  by_cases h : a = b
  · subst h; simp [anyLt_self]
  · rw [decide_eq_false h]
    cases hl : anyLt (digN a) (digN b) 67 with
    | true => rfl
    | false =>
      exfalso
      have hle := anyLt_false hl
      have la : (hexN a).length = 64 := by rw [hexN_length, ha]
      have lb : (hexN b).length = 64 := by rw [hexN_length, hb]
      have hd : ∀ (l : List UInt8) (i : Nat), (hexN l).length = 64 → i < 64 → (digN l).getD i 0 = (hexN l).getD i 0 := fun l i hl hi => by
        rw [digN, List.getD_eq_getElem?_getD, List.getElem?_append_left (by omega), ← List.getD_eq_getElem?_getD]
      have ht : ∀ (l : List UInt8) (i : Nat), (hexN l).length = 64 → (digN l).getD (64 + i) 0 = ([sumN (hexN l) / 256, sumN (hexN l) / 16 % 16, sumN (hexN l) % 16] : List Nat).getD i 0 := fun l i hl => by
        rw [digN, List.getD_eq_getElem?_getD, List.getElem?_append_right (by omega), hl, Nat.add_sub_cancel_left, ← List.getD_eq_getElem?_getD]
      obtain ⟨h1, h2⟩ := sum_mono (hexN a) (hexN b) (by omega) (fun i hi => by have := hle i (by omega); rwa [hd a i la (by omega), hd b i lb (by omega)] at this) (hexN_le a)
      have t0 := hle (64 + 0) (by omega)
      have t1 := hle (64 + 1) (by omega)
      have t2 := hle (64 + 2) (by omega)
      rw [ht a _ la, ht b _ lb] at t0 t1 t2
      simp only [List.getD_cons_zero, List.getD_cons_succ] at t0 t1 t2
      exact h (hexN_inj a b (h2 (by omega)))
end Go.Proofs.Ytcfkapoppmpehaa

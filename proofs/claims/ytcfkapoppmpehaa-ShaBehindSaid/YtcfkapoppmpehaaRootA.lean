/-
  What calls of the definition's Digits, Prime, Constants and Start give.
-/
import Derived.Test.YtcfkapoppmpehaaMul
import Derived.Test.YtcfkapoppmpehaaRootL
import Derived.Test.YtcfkapoppmpehaaRwords
namespace Go.Proofs.Ytcfkapoppmpehaa
open Go.RowKit

/-- Is the product, in two words, no more than the most? -/
theorem fits_words (hi lo most : Nat) (hl : lo < 18446744073709551616) : decide (hi * 18446744073709551616 + lo ≤ most * 18446744073709551616) = (decide (hi < most) || (decide (hi = most) && decide (lo = 0))) := by
  by_cases h1 : hi < most
  · rw [decide_eq_true h1, decide_eq_true (by omega)]; rfl
  · rw [decide_eq_false h1]
    by_cases h2 : hi = most
    · rw [decide_eq_true h2]
      by_cases h3 : lo = 0
      · rw [decide_eq_true h3, decide_eq_true (by omega)]; rfl
      · rw [decide_eq_false h3, decide_eq_false (by omega)]; rfl
    · rw [decide_eq_false h2, decide_eq_false (by omega)]; rfl
theorem square_words (p x : Nat) : fits p x false = (decide (x * x / 18446744073709551616 < p) || (decide (x * x / 18446744073709551616 = p) && decide (x * x % 18446744073709551616 = 0))) := by
  rw [← fits_words _ _ _ (Nat.mod_lt _ (by omega))]
  show decide (x * x ≤ p * 18446744073709551616) = _
  exact decide_eq_decide.2 (by omega)
theorem cube_words (p x : Nat) : fits p x true =
    (decide ((x * x / 18446744073709551616) * x + (x * x % 18446744073709551616) * x / 18446744073709551616 < p * 4294967296) ||
     (decide ((x * x / 18446744073709551616) * x + (x * x % 18446744073709551616) * x / 18446744073709551616 = p * 4294967296) && decide ((x * x % 18446744073709551616) * x % 18446744073709551616 = 0))) := by
  rw [← fits_words _ _ _ (Nat.mod_lt _ (by omega))]
  show decide (x * x * x ≤ p * 79228162514264337593543950336) = _
  have e : x * x * x = (x * x / 18446744073709551616) * x * 18446744073709551616 + (x * x % 18446744073709551616) * x := by
    have h := Nat.div_add_mod (x * x) 18446744073709551616
    have h2 : x * x * x = (18446744073709551616 * (x * x / 18446744073709551616) + x * x % 18446744073709551616) * x := by rw [h]
    rw [h2, Nat.add_mul]
    congr 1
    rw [Nat.mul_assoc, Nat.mul_comm]
  rw [e]
  generalize (x * x / 18446744073709551616) * x = a
  generalize (x * x % 18446744073709551616) * x = b
  exact decide_eq_decide.2 (by omega)

/-- The bounds that the walk of Digits wants, in small words. -/
theorem root_bounds (p : Nat) (cube : Bool) (j : Nat) (hj : j < 37) : rootTo p cube j + bitOf j < 274877906944 := by
  have h1 := bitOf_le j
  rcases rootTo_le p cube j (by omega) with h2 | ⟨h2, _⟩ <;> omega
theorem sq_hi (x : Nat) (h : x < 274877906944) : x * x / 18446744073709551616 < 4096 := by
  have : x * x ≤ 274877906943 * 274877906943 := Nat.mul_le_mul (by omega) (by omega)
  omega
theorem cube_hi (hi x lo : Nat) (h : x < 274877906944) (h1 : hi < 4096) (h2 : lo < 18446744073709551616) : hi * x < 1125899906842624 ∧ lo * x / 18446744073709551616 < 274877906944 := by
  constructor
  · have : hi * x ≤ 4095 * 274877906943 := Nat.mul_le_mul (by omega) (by omega)
    omega
  · have : lo * x ≤ 18446744073709551615 * 274877906943 := Nat.mul_le_mul (by omega) (by omega)
    omega

theorem cmp3 (hi lo most : Nat) (f : Bool) (hf : f = (decide (hi < most) || (decide (hi = most) && decide (lo = 0)))) :
    (f = true ∧ decide ((hi : Int) < (most : Int)) = true) ∨ (f = true ∧ decide ((hi : Int) < (most : Int)) = false ∧ ((hi : Int) == (most : Int)) = true ∧ ((lo : Int) == 0) = true) ∨
    (f = false ∧ decide ((hi : Int) < (most : Int)) = false ∧ ((hi : Int) == (most : Int)) = true ∧ ((lo : Int) == 0) = false) ∨ (f = false ∧ decide ((hi : Int) < (most : Int)) = false ∧ ((hi : Int) == (most : Int)) = false) := by
  by_cases h1 : hi < most
  · left
    rw [hf, decide_eq_true h1]
    exact ⟨rfl, decide_eq_true (by omega)⟩
  · right
    have d1 : decide ((hi : Int) < (most : Int)) = false := decide_eq_false (by omega)
    rw [decide_eq_false h1] at hf
    by_cases h2 : hi = most
    · have d2 : ((hi : Int) == (most : Int)) = true := by rw [beq_iff_eq]; omega
      rw [decide_eq_true h2] at hf
      by_cases h3 : lo = 0
      · left
        exact ⟨by rw [hf, decide_eq_true h3]; rfl, d1, d2, by rw [beq_iff_eq]; omega⟩
      · right; left
        exact ⟨by rw [hf, decide_eq_false h3]; rfl, d1, d2, by rw [beq_eq_false_iff_ne]; omega⟩
    · right; right
      exact ⟨by rw [hf, decide_eq_false h2]; rfl, d1, by rw [beq_eq_false_iff_ne]; omega⟩
set_option maxHeartbeats 1000000 in
theorem digits_sq (p : Nat) (w : World) :
    Calls Try.prog 54 #[.int .u64 p, .bool false] w fun e w' => e = .returned (wv (rootW p false)) ∧ w = w' := by
  go_enter Try.func54, Try.ntmps54
  go_wp2_with fail
  go_loop [5, 6] (fun r b => ∃ j : Nat, j ≤ 37 ∧ r = .int .u64 (rootTo p false j : Nat) ∧ b = .int .u64 (bitOf j : Nat)) (fun _ b => (intOf b).toNat)
  case atStart => exact ⟨0, by omega, rfl, rfl⟩
  case round =>
    obtain ⟨j, hj, rfl, rfl⟩ := hrel
    by_cases hlt : j < 37
    · have hpos := bitOf_pos j hlt
      have hble := bitOf_le j
      have hb := root_bounds p false j hlt
      have Hn := Lib.hid (show ((bitOf j : Nat) : Int) / 2 = ((bitOf (j + 1) : Nat) : Int) from by rw [← bitOf_next]; rfl)
      have Hst := Lib.hid (show rootTo p false (j + 1) = if fits p (rootTo p false j + bitOf j) false = true then rootTo p false j + bitOf j else rootTo p false j from rfl)
      have Hwd := Lib.hid (square_words p (rootTo p false j + bitOf j))
      have HM := Lib.hid (mul64_same (rootTo p false j + bitOf j) (rootTo p false j + bitOf j) (by omega) (by omega) w)
      have hh := sq_hi _ hb
      have hll := Nat.mod_lt ((rootTo p false j + bitOf j) * (rootTo p false j + bitOf j)) (show 0 < 18446744073709551616 by omega)
      have Hx := Lib.hid (show ((rootTo p false j : Nat) : Int) + ((bitOf j : Nat) : Int) = ((rootTo p false j + bitOf j : Nat) : Int) from (Int.natCast_add _ _).symm)
      have hg : decide ((0 : Int) < ((bitOf j : Nat) : Int)) = true := decide_eq_true (by omega)
      generalize hf : fits p (rootTo p false j + bitOf j) false = f at *
      have hsum : ((rootTo p false j : Nat) : Int) + ((bitOf j : Nat) : Int) < 274877906944 := by omega
      generalize hb2 : bitOf (j + 1) = b2 at *
      have Hb2 := Lib.hid hb2
      clear hb2
      generalize hb0 : bitOf j = b at *
      generalize hr2 : rootTo p false (j + 1) = r2 at *
      have Hr2 := Lib.hid hr2
      clear hr2
      generalize rootTo p false j = r at *
      generalize r + b = x at *
      generalize x * x / 18446744073709551616 = hi at *
      generalize x * x % 18446744073709551616 = lo at *
      clear hf hb0
      go_wp2_with fail
      rw [Hx.out]
      refine HM.out.mono ?_
      rintro e w' ⟨rfl, rfl⟩
      clear hsum
      rcases cmp3 _ _ _ f Hwd.out with ⟨hf, c1⟩ | ⟨hf, c1, c2, c3⟩ | ⟨hf, c1, c2, c3⟩ | ⟨hf, c1, c2⟩
      all_goals
        rw [hf] at Hst
        try have c1i := Int.not_lt.1 (of_decide_eq_false c1)
        try have c1j := of_decide_eq_true c1
        go_wp2_with fail
        go_round
        case rel => exact ⟨j + 1, by omega, by rw [Hr2.out, Hst.out]; rfl, by rw [Hb2.out, ← Hn.out]⟩
        case measure => simp [intOf]; omega
    · obtain rfl : j = 37 := by omega
      have hz := bitOf_end
      rw [hz]
      clear hz
      have hrw : Hid (∀ n : Nat, wv (BitVec.ofNat 32 n) = .int .u32 ((n : Int) % 4294967296)) := Lib.hid fun n => by show Value.int _ _ = _; rw [BitVec.toNat_ofNat]; rfl
      have HR := Lib.hid (show rootW p false = BitVec.ofNat 32 (rootTo p false 37) from rfl)
      generalize rootTo p false 37 = r at *
      go_wp2_with fail
      go_ret
      exact ⟨ret_val (by rw [HR.out, hrw.out]; rfl), rfl⟩
end Go.Proofs.Ytcfkapoppmpehaa

/-
  Roots of primes, as plain Lean: the definition's constants are the written ones.
-/
import Derived.Test.YtcfkapoppmpehaaSha
namespace Go.Proofs.Ytcfkapoppmpehaa

def isP (n : Nat) : Bool := (List.range 19).all fun e => decide (e < 2) || decide (n < e * e) || n % e != 0
def primes : List Nat := [2, 3, 5, 7, 11, 13, 17, 19, 23, 29, 31, 37, 41, 43, 47, 53, 59, 61, 67, 71, 73, 79, 83, 89, 97, 101, 103, 107, 109, 113, 127, 131, 137, 139, 149, 151, 157, 163, 167, 173, 179, 181, 191, 193, 197, 199, 211, 223, 227, 229, 233, 239, 241, 251, 257, 263, 269, 271, 277, 281, 283, 293, 307, 311]
def pr (k : Nat) : Nat := primes.getD k 0
/-- How many primes stand below a number. -/
def cnt : Nat → Nat
  | 0 => 0
  | n + 1 => cnt n + if 2 ≤ n ∧ isP n = true then 1 else 0
theorem cnt_mono (a : Nat) : ∀ d, cnt a ≤ cnt (a + d)
  | 0 => Nat.le_refl _
  | d + 1 => Nat.le_trans (cnt_mono a d) (by rw [← Nat.add_assoc, cnt]; omega)
theorem pr_facts (k : Nat) (hk : k < 64) : 2 ≤ pr k ∧ pr k ≤ 311 ∧ isP (pr k) = true ∧ cnt (pr k) = k := by
  have h : ∀ k : Fin 64, decide (2 ≤ pr k.val) && decide (pr k.val ≤ 311) && isP (pr k.val) && decide (cnt (pr k.val) = k.val) = true := by decide +kernel
  have := h ⟨k, hk⟩
  simp only [Bool.and_eq_true, decide_eq_true_eq] at this
  exact ⟨this.1.1.1, this.1.1.2, this.1.2, this.2⟩
/-- Divisors from 2 on, below d. -/
def dv (n d : Nat) : Nat := (List.range d).countP fun e => decide (2 ≤ e) && n % e == 0
theorem dv_two (n : Nat) : dv n 2 = 0 := by
  simp [dv, List.range_succ]
theorem dv_step (n d : Nat) (h : 2 ≤ d) : dv n (d + 1) = dv n d + if n % d = 0 then 1 else 0 := by
  unfold dv
  rw [List.range_succ, List.countP_append, List.countP_singleton]
  simp [h]
theorem dv_le (n d : Nat) : dv n d ≤ d := by
  unfold dv
  have := List.countP_le_length (p := fun e => decide (2 ≤ e) && n % e == 0) (l := List.range d)
  simpa using this
/-- What the search for divisors tells. -/
theorem dv_isP (n d : Nat) (hn : n ≤ 311) (hd : n < d * d) (hall : ∀ e, 2 ≤ e → e < d → e * e ≤ n) : decide (0 < dv n d) = !isP n := by
  have h19 : ∀ e, 2 ≤ e → e < d → e < 19 := fun e h1 h2 => by
    have := hall e h1 h2
    rcases Nat.lt_or_ge e 19 with h | h
    · exact h
    · have : 19 * 19 ≤ e * e := Nat.mul_le_mul h h
      omega
  by_cases hp : isP n = true
  · rw [hp]
    simp only [Bool.not_true, decide_eq_false_iff_not, Nat.not_lt, Nat.le_zero_eq]
    unfold dv
    rw [List.countP_eq_zero]
    intro e he
    have he := List.mem_range.1 he
    simp only [Bool.and_eq_true, decide_eq_true_eq, beq_iff_eq, not_and]
    intro h2 h0
    unfold isP at hp
    rw [List.all_eq_true] at hp
    have := hp e (List.mem_range.2 (h19 e h2 he))
    have h3 := hall e h2 he
    simp at this
    omega
  · rw [Bool.not_eq_true] at hp
    rw [hp]
    simp only [Bool.not_false, decide_eq_true_eq]
    unfold dv
    rw [List.countP_pos_iff]
    unfold isP at hp
    rw [List.all_eq_false] at hp
    obtain ⟨e, _, h⟩ := hp
    simp at h
    refine ⟨e, List.mem_range.2 ?_, by simp; omega⟩
    rcases Nat.lt_or_ge e d with h1 | h1
    · exact h1
    · have : d * d ≤ e * e := Nat.mul_le_mul h1 h1
      omega

/-- One step of the root: bit by bit. -/
def bitOf (j : Nat) : Nat := 68719476736 / 2 ^ j
def fits (p x : Nat) (cube : Bool) : Bool := if cube then decide (x * x * x ≤ p * 79228162514264337593543950336) else decide (x * x ≤ p * 18446744073709551616)
def rootTo (p : Nat) (cube : Bool) : Nat → Nat
  | 0 => 0
  | j + 1 => if fits p (rootTo p cube j + bitOf j) cube = true then rootTo p cube j + bitOf j else rootTo p cube j
theorem bitOf_next (j : Nat) : bitOf j / 2 = bitOf (j + 1) := by
  unfold bitOf; rw [Nat.pow_succ, Nat.div_div_eq_div_mul]
theorem bitOf_le (j : Nat) : bitOf j ≤ 68719476736 := Nat.div_le_self _ _
theorem bitOf_pos (j : Nat) (h : j < 37) : 0 < bitOf j := by
  have : ∀ j : Fin 37, decide (0 < bitOf j.val) = true := by decide +kernel
  simpa using this ⟨j, h⟩
theorem bitOf_end : bitOf 37 = 0 := by decide +kernel
theorem rootTo_le (p : Nat) (cube : Bool) : ∀ j, j ≤ 37 → rootTo p cube j + 2 * bitOf j ≤ 137438953472 ∨ rootTo p cube j ≤ 137438953472 ∧ j = 37
  | 0, _ => .inl (by simp [rootTo, bitOf])
  | j + 1, h => by
    have h1 := bitOf_next j
    rcases rootTo_le p cube j (by omega) with h2 | ⟨_, h2⟩
    · left
      rw [rootTo]
      split <;> omega
    · omega
def rootW (p : Nat) (cube : Bool) : BitVec 32 := BitVec.ofNat 32 (rootTo p cube 37)
theorem cubes_const : (List.range 64).map (fun i => rootW (pr i) true) = constL := by decide +kernel
theorem squares_start : (List.range 8).map (fun i => rootW (pr i) false) = startS.list := by decide +kernel
end Go.Proofs.Ytcfkapoppmpehaa

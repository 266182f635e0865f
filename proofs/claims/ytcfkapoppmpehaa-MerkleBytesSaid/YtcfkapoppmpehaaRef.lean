/-
  The digest by definition, as plain Lean: turned bit by bit, with all sixty-four words; the same as the given program's.
-/
import Derived.Test.YtcfkapoppmpehaaSha
namespace Go.Proofs.Ytcfkapoppmpehaa

def wnot (a : BitVec 32) : BitVec 32 := ~~~a
def wPick (e f g : BitVec 32) : BitVec 32 := wor (wand e f) (wand (wnot e) g)
def wMost (a b c : BitVec 32) : BitVec 32 := wor (wor (wand a b) (wand b c)) (wand c a)
theorem pick_eq (e f g : BitVec 32) : wPick e f g = wxor g (wand e (wxor f g)) := by
  unfold wPick wor wand wnot wxor
  apply BitVec.eq_of_getElem_eq
  intro i hi
  simp
  cases e[i] <;> cases f[i] <;> cases g[i] <;> rfl
theorem most_eq (a b c : BitVec 32) : wMost a b c = wor (wand a c) (wand b (wor a c)) := by
  unfold wMost wor wand
  apply BitVec.eq_of_getElem_eq
  intro i hi
  simp
  cases a[i] <;> cases b[i] <;> cases c[i] <;> rfl

theorem wror_bit (x : BitVec 32) (n i : Nat) (hn : n < 32) (hi : i < 32) : (wror x n).getLsbD i = x.getLsbD ((n + i) % 32) := by
  unfold wror
  rw [BitVec.getLsbD_rotateRight, Nat.mod_eq_of_lt hn]
  by_cases h : i < 32 - n
  · rw [decide_eq_true h, cond_true, Nat.mod_eq_of_lt (by omega)]
  · rw [decide_eq_false h, cond_false, decide_eq_true hi, Bool.true_and]
    congr 1
    omega
theorem wror_zero (x : BitVec 32) : wror x 0 = x :=
  BitVec.eq_of_getLsbD_eq fun i hi => by rw [wror_bit x 0 i (by omega) hi, Nat.zero_add, Nat.mod_eq_of_lt hi]
theorem wror_step (x : BitVec 32) (n : Nat) (hn : n + 1 < 32) : wror (wror x n) 1 = wror x (n + 1) :=
  BitVec.eq_of_getLsbD_eq fun i hi => by
    rw [wror_bit _ 1 i (by omega) hi, wror_bit x n _ (by omega) (Nat.mod_lt _ (by omega)), wror_bit x (n + 1) i hn hi]
    congr 1
    omega
theorem wror_one (x : BitVec 32) : (wror x 1).toNat = x.toNat / 2 + x.toNat % 2 * 2147483648 := by
  have hx := x.isLt
  unfold wror
  rw [BitVec.toNat_rotateRight]
  have h1 : x.toNat <<< (32 - 1 % 32) % 2 ^ 32 = 2 ^ 31 * (x.toNat % 2) := by
    rw [Nat.shiftLeft_eq, show 32 - 1 % 32 = 31 from rfl]; omega
  have h2 : x.toNat >>> (1 % 32) = x.toNat / 2 := by rw [Nat.shiftRight_eq_div_pow]
  rw [h1, h2, Nat.or_comm, ← Nat.two_pow_add_eq_or_of_lt (by omega)]
  omega
theorem wshr_step (x : BitVec 32) (n : Nat) : (wshr x (n + 1)).toNat = (wshr x n).toNat / 2 := by
  unfold wshr
  simp only [BitVec.toNat_ushiftRight, Nat.shiftRight_eq_div_pow]
  rw [Nat.pow_succ, Nat.div_div_eq_div_mul]
theorem wshr_zero (x : BitVec 32) : wshr x 0 = x := by unfold wshr; simp

theorem wadd_comm (a b : BitVec 32) : wadd a b = wadd b a := BitVec.add_comm a b
theorem wadd_assoc (a b c : BitVec 32) : wadd (wadd a b) c = wadd a (wadd b c) := BitVec.add_assoc a b c

/-- The word number t out of the words ahead of it. -/
def wordAt (bs : List UInt8) (l : List (BitVec 32)) (t : Nat) : BitVec 32 :=
  if t < 16 then word4 (bs.getD (4 * t) 0) (bs.getD (4 * t + 1) 0) (bs.getD (4 * t + 2) 0) (bs.getD (4 * t + 3) 0)
  else wadd (wadd (wadd (mixP (l.getD (t - 2) 0#32) 17 19 10) (l.getD (t - 7) 0#32)) (mixP (l.getD (t - 15) 0#32) 7 18 3)) (l.getD (t - 16) 0#32)
/-- The first t words of a block; noughts behind them. -/
def wordsL (bs : List UInt8) : Nat → List (BitVec 32)
  | 0 => List.replicate 64 0#32
  | t + 1 => (wordsL bs t).set t (wordAt bs (wordsL bs t) t)
theorem wordsL_length (bs : List UInt8) (t : Nat) : (wordsL bs t).length = 64 := by
  induction t with
  | zero => simp [wordsL]
  | succ t ih => simp [wordsL, ih]
theorem wordsL_far (bs : List UInt8) (t j : Nat) (h : t ≠ j) : (wordsL bs (t + 1)).getD j 0#32 = (wordsL bs t).getD j 0#32 := by
  simp only [wordsL, List.getD_eq_getElem?_getD, List.getElem?_set_ne h]
theorem wordsL_at (bs : List UInt8) (t : Nat) (h : t < 64) : (wordsL bs (t + 1)).getD t 0#32 = wordAt bs (wordsL bs t) t := by
  simp only [wordsL, List.getD_eq_getElem?_getD]
  rw [List.getElem?_set_self (by rw [wordsL_length]; exact h)]
  rfl
theorem wordsL_stays (bs : List UInt8) (j t : Nat) (h : j < t) : ∀ n, (wordsL bs (t + n)).getD j 0#32 = (wordsL bs t).getD j 0#32
  | 0 => rfl
  | n + 1 => by rw [← Nat.add_assoc, wordsL_far _ _ _ (by omega), wordsL_stays bs j t h n]
theorem wordsL_last (bs : List UInt8) (j t : Nat) (h : j < t) (ht : t ≤ 64) : (wordsL bs 64).getD j 0#32 = (wordsL bs t).getD j 0#32 := by
  have := wordsL_stays bs j t h (64 - t)
  rwa [show t + (64 - t) = 64 by omega] at this

theorem ring (bs : List UInt8) (s : St) (t : Nat) (ht : t ≤ 64) : ∀ j, max t 16 - 16 ≤ j → j < max t 16 → (rounds bs s t).1.getD (j % 16) 0#32 = (wordsL bs 64).getD j 0#32 := by
  induction t with
  | zero =>
    intro j _ h2
    have h2 : j < 16 := by omega
    rw [wordsL_last bs j (j + 1) (by omega) (by omega), wordsL_at bs j (by omega), wordAt, if_pos h2, Nat.mod_eq_of_lt h2]
    simp [rounds, h2]
  | succ t ih =>
    have ih := ih (by omega)
    intro j h1 h2
    show (turnW t (rounds bs s t).1).getD (j % 16) 0#32 = _
    unfold turnW
    by_cases h16 : 16 ≤ t
    · rw [if_pos h16]
      by_cases hj : j = t
      · subst hj
        rw [List.getD_eq_getElem?_getD, List.getElem?_set_self (by rw [rounds_length]; omega), Option.getD_some]
        have e0 := ih (j - 16) (by omega) (by omega)
        have e2 := ih (j - 2) (by omega) (by omega)
        have e7 := ih (j - 7) (by omega) (by omega)
        have e15 := ih (j - 15) (by omega) (by omega)
        rw [show (j - 16) % 16 = j % 16 by omega] at e0
        rw [e0, e2, e7, e15, wordsL_last bs j (j + 1) (by omega) (by omega), wordsL_at bs j (by omega), wordAt, if_neg (by omega)]
        rw [wordsL_last bs (j - 16) j (by omega) (by omega), wordsL_last bs (j - 2) j (by omega) (by omega), wordsL_last bs (j - 7) j (by omega) (by omega), wordsL_last bs (j - 15) j (by omega) (by omega)]
        exact wadd_comm _ _
      · rw [List.getD_eq_getElem?_getD, List.getElem?_set_ne (by omega), ← List.getD_eq_getElem?_getD]
        exact ih j (by omega) (by omega)
    · rw [if_neg h16]
      exact ih j (by omega) (by omega)
/-- The word that a round takes. -/
theorem ring_word (bs : List UInt8) (s : St) (t : Nat) (ht : t < 64) : (turnW t (rounds bs s t).1).getD (t % 16) 0#32 = (wordsL bs 64).getD t 0#32 :=
  ring bs s (t + 1) ht t (by omega) (by omega)

/-- The state behind t rounds, by all the words. -/
def refRounds (ks ws : List (BitVec 32)) (s : St) : Nat → St
  | 0 => s
  | t + 1 => round (refRounds ks ws s t) (ks.getD t 0#32) (ws.getD t 0#32)
theorem refRounds_eq (bs : List UInt8) (s : St) : ∀ t, t ≤ 64 → refRounds constL (wordsL bs 64) s t = (rounds bs s t).2
  | 0, _ => rfl
  | t + 1, h => by
    rw [refRounds, refRounds_eq bs s t (by omega)]
    show _ = round (rounds bs s t).2 (constL.getD t 0#32) ((turnW t (rounds bs s t).1).getD (t % 16) 0#32)
    rw [ring_word bs s t h]
/-- What the definition puts in the places. -/
def refS (s : St) (k w : BitVec 32) : BitVec 32 := wadd (wadd (wadd (wadd s.h (mixT s.e 6 11 25)) (wPick s.e s.f s.g)) k) w
def refA (s : St) (k w : BitVec 32) : BitVec 32 := wadd (wadd (refS s k w) (mixT s.a 2 13 22)) (wMost s.a s.b s.c)
theorem refS_eq (s : St) (k w : BitVec 32) : refS s k w = roundS s k w := by unfold refS roundS; rw [pick_eq]
theorem refA_eq (s : St) (k w : BitVec 32) : refA s k w = roundA s k w := by unfold refA roundA; rw [most_eq, refS_eq]
theorem refBlock_eq (s : St) (bs : List UInt8) : (refRounds constL (wordsL bs 64) s 64).plus s = blockS s bs := by
  rw [refRounds_eq bs s 64 (Nat.le_refl _)]
  unfold blockS St.plus
  simp only [wadd_comm]
end Go.Proofs.Ytcfkapoppmpehaa

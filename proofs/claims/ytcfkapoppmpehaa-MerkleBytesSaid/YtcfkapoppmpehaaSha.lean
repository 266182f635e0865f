/-
  The digest as plain Lean: words, rounds, blocks. No program in sight.
-/
namespace Go.Proofs.Ytcfkapoppmpehaa

/-- The operations on words, each under a name of its own (so that no simp rule opens it in a walk). -/
def wor (a b : BitVec 32) : BitVec 32 := a ||| b
def wand (a b : BitVec 32) : BitVec 32 := a &&& b
def wxor (a b : BitVec 32) : BitVec 32 := a ^^^ b
def wadd (a b : BitVec 32) : BitVec 32 := a + b
def wror (a : BitVec 32) (n : Nat) : BitVec 32 := a.rotateRight n
def wshr (a : BitVec 32) (n : Nat) : BitVec 32 := a >>> n

def word4 (b0 b1 b2 b3 : UInt8) : BitVec 32 := BitVec.ofNat 32 (((b0.toNat * 256 + b1.toNat) * 256 + b2.toNat) * 256 + b3.toNat)

/-- The eight numbers of a state. -/
structure St where
  a : BitVec 32
  b : BitVec 32
  c : BitVec 32
  d : BitVec 32
  e : BitVec 32
  f : BitVec 32
  g : BitVec 32
  h : BitVec 32

def St.get (s : St) : Nat → BitVec 32
  | 0 => s.a
  | 1 => s.b
  | 2 => s.c
  | 3 => s.d
  | 4 => s.e
  | 5 => s.f
  | 6 => s.g
  | _ => s.h
def St.list (s : St) : List (BitVec 32) := [s.a, s.b, s.c, s.d, s.e, s.f, s.g, s.h]

def mixP (x : BitVec 32) (a b c : Nat) : BitVec 32 := wxor (wxor (wror x a) (wror x b)) (wshr x c)
def mixT (x : BitVec 32) (a b c : Nat) : BitVec 32 := wxor (wxor (wror x a) (wror x b)) (wror x c)

/-- What a round adds to the fourth number and puts in the place of the last one. -/
def roundS (s : St) (k w : BitVec 32) : BitVec 32 :=
  wadd (wadd (wadd (wadd s.h (mixT s.e 6 11 25)) (wxor s.g (wand s.e (wxor s.f s.g)))) k) w
def roundA (s : St) (k w : BitVec 32) : BitVec 32 :=
  wadd (wadd (roundS s k w) (mixT s.a 2 13 22)) (wor (wand s.a s.c) (wand s.b (wor s.a s.c)))
def round (s : St) (k w : BitVec 32) : St :=
  ⟨roundA s k w, s.a, s.b, s.c, wadd s.d (roundS s k w), s.e, s.f, s.g⟩

/-- The sixteen words behind the turn number t. -/
def turnW (t : Nat) (ws : List (BitVec 32)) : List (BitVec 32) :=
  if 16 ≤ t then
    ws.set (t % 16) (wadd (ws.getD (t % 16) 0#32) (wadd (wadd (mixP (ws.getD ((t - 2) % 16) 0#32) 17 19 10) (ws.getD ((t - 7) % 16) 0#32)) (mixP (ws.getD ((t - 15) % 16) 0#32) 7 18 3)))
  else ws

def constL : List (BitVec 32) := [
  0x428a2f98#32, 0x71374491#32, 0xb5c0fbcf#32, 0xe9b5dba5#32, 0x3956c25b#32, 0x59f111f1#32,
  0x923f82a4#32, 0xab1c5ed5#32, 0xd807aa98#32, 0x12835b01#32, 0x243185be#32, 0x550c7dc3#32,
  0x72be5d74#32, 0x80deb1fe#32, 0x9bdc06a7#32, 0xc19bf174#32, 0xe49b69c1#32, 0xefbe4786#32,
  0x0fc19dc6#32, 0x240ca1cc#32, 0x2de92c6f#32, 0x4a7484aa#32, 0x5cb0a9dc#32, 0x76f988da#32,
  0x983e5152#32, 0xa831c66d#32, 0xb00327c8#32, 0xbf597fc7#32, 0xc6e00bf3#32, 0xd5a79147#32,
  0x06ca6351#32, 0x14292967#32, 0x27b70a85#32, 0x2e1b2138#32, 0x4d2c6dfc#32, 0x53380d13#32,
  0x650a7354#32, 0x766a0abb#32, 0x81c2c92e#32, 0x92722c85#32, 0xa2bfe8a1#32, 0xa81a664b#32,
  0xc24b8b70#32, 0xc76c51a3#32, 0xd192e819#32, 0xd6990624#32, 0xf40e3585#32, 0x106aa070#32,
  0x19a4c116#32, 0x1e376c08#32, 0x2748774c#32, 0x34b0bcb5#32, 0x391c0cb3#32, 0x4ed8aa4a#32,
  0x5b9cca4f#32, 0x682e6ff3#32, 0x748f82ee#32, 0x78a5636f#32, 0x84c87814#32, 0x8cc70208#32,
  0x90befffa#32, 0xa4506ceb#32, 0xbef9a3f7#32, 0xc67178f2#32]
def startS : St := ⟨0x6a09e667#32, 0xbb67ae85#32, 0x3c6ef372#32, 0xa54ff53a#32, 0x510e527f#32, 0x9b05688c#32, 0x1f83d9ab#32, 0x5be0cd19#32⟩

/-- The words and the state behind t rounds. -/
def rounds (bs : List UInt8) (s : St) : Nat → List (BitVec 32) × St
  | 0 => ((List.range 16).map fun i => word4 (bs.getD (4 * i) 0) (bs.getD (4 * i + 1) 0) (bs.getD (4 * i + 2) 0) (bs.getD (4 * i + 3) 0), s)
  | t + 1 => (turnW t (rounds bs s t).1, round (rounds bs s t).2 (constL.getD t 0#32) ((turnW t (rounds bs s t).1).getD (t % 16) 0#32))

def St.plus (s u : St) : St := ⟨wadd s.a u.a, wadd s.b u.b, wadd s.c u.c, wadd s.d u.d, wadd s.e u.e, wadd s.f u.f, wadd s.g u.g, wadd s.h u.h⟩
def blockS (s : St) (bs : List UInt8) : St := s.plus (rounds bs s 64).2

/-- The first t of the eight sums. -/
def plusTo (s u : St) (t : Nat) : List (BitVec 32) := (List.range 8).map fun i => if i < t then wadd (s.get i) (u.get i) else s.get i
theorem plusTo_length (s u : St) (t : Nat) : (plusTo s u t).length = 8 := by simp [plusTo]
theorem plusTo_full (s u : St) : plusTo s u 8 = (s.plus u).list := rfl
theorem plusTo_zero (s u : St) : plusTo s u 0 = s.list := rfl
theorem plusTo_get (s u : St) (t : Nat) (ht : t < 8) : (plusTo s u t).getD t 0#32 = s.get t := by simp [plusTo, ht]
theorem list_get (u : St) (t : Nat) (ht : t < 8) : u.list.getD t 0#32 = u.get t := by
  match t, ht with
  | 0, _ => rfl
  | 1, _ => rfl
  | 2, _ => rfl
  | 3, _ => rfl
  | 4, _ => rfl
  | 5, _ => rfl
  | 6, _ => rfl
  | 7, _ => rfl
  | n + 8, h => omega
theorem plusTo_step (s u : St) (t : Nat) (ht : t < 8) : (plusTo s u t).set t (wadd (s.get t) (u.get t)) = plusTo s u (t + 1) := by
  apply List.ext_getElem?
  intro i
  unfold plusTo
  by_cases e : t = i
  · subst e; rw [List.getElem?_set_self (by simpa using ht)]; simp [ht]
  · rw [List.getElem?_set_ne e]
    by_cases hi : i < 8
    · simp only [List.getElem?_map, List.getElem?_range hi, Option.map_some]
      by_cases h : i < t
      · rw [if_pos h, if_pos (by omega)]
      · rw [if_neg h, if_neg (by omega)]
    · rw [List.getElem?_eq_none (by simp; omega), List.getElem?_eq_none (by simp; omega)]

/-- A row of eight cells whose beginning has moved t places. -/
def rowL (t : Nat) (s : St) : List (BitVec 32) := (List.range 8).map fun p => s.get ((p + t) % 8)

theorem rowL_length (t : Nat) (s : St) : (rowL t s).length = 8 := by simp [rowL]
theorem rowL_getD (t : Nat) (s : St) (p : Nat) (hp : p < 8) : (rowL t s)[p]? = some (s.get ((p + t) % 8)) := by
  simp [rowL, hp]
theorem rowL_zero (s : St) : rowL 0 s = s.list := rfl

theorem turnW_length (t : Nat) (ws : List (BitVec 32)) : (turnW t ws).length = ws.length := by
  unfold turnW; split <;> simp
theorem rounds_length (bs : List UInt8) (s : St) (t : Nat) : (rounds bs s t).1.length = 16 := by
  induction t with
  | zero => simp [rounds]
  | succ t ih => simp [rounds, turnW_length, ih]

/-- The row behind a round: two places are written. -/
theorem rowL_round (t : Nat) (s : St) (k w : BitVec 32) (p3 p7 : Nat) (h3 : (p3 + t) % 8 = 3) (h7 : (p7 + t) % 8 = 7) (b3 : p3 < 8) (b7 : p7 < 8) :
    ((rowL t s).set p3 (wadd s.d (roundS s k w))).set p7 (roundA s k w) = rowL (t + 1) (round s k w) := by
  apply List.ext_getElem?
  intro p
  by_cases hp : p < 8
  · rw [rowL_getD (t + 1) _ p hp]
    by_cases e7 : p7 = p
    · subst e7
      rw [List.getElem?_set_self (by simp [rowL_length]; omega)]
      have : (p7 + (t + 1)) % 8 = 0 := by omega
      rw [this]; rfl
    · rw [List.getElem?_set_ne e7]
      by_cases e3 : p3 = p
      · subst e3
        rw [List.getElem?_set_self (by simp [rowL_length]; omega)]
        have : (p3 + (t + 1)) % 8 = 4 := by omega
        rw [this]; rfl
      · rw [List.getElem?_set_ne e3, rowL_getD t _ p hp]
        have hc : (p + t) % 8 < 8 := Nat.mod_lt _ (by omega)
        have e : (p + (t + 1)) % 8 = ((p + t) % 8 + 1) % 8 := by omega
        rw [e]
        generalize (p + t) % 8 = c at *
        have hc3 : c ≠ 3 := by omega
        have hc7 : c ≠ 7 := by omega
        match c, hc, hc3, hc7 with
        | 0, _, _, _ => rfl
        | 1, _, _, _ => rfl
        | 2, _, _, _ => rfl
        | 4, _, _, _ => rfl
        | 5, _, _, _ => rfl
        | 6, _, _, _ => rfl
        | n + 8, h, _, _ => omega
  · rw [List.getElem?_eq_none (by simp [rowL_length]; omega), List.getElem?_eq_none (by simp [rowL_length]; omega)]


/-- The state behind the first i blocks. -/
def hashTo (all : List UInt8) : Nat → St
  | 0 => startS
  | i + 1 => blockS (hashTo all i) ((all.drop (64 * i)).take 64)
def dByte (σ : St) (j : Nat) : UInt8 := UInt8.ofNat ((σ.get (j / 4)).toNat / 2 ^ (24 - 8 * (j % 4)))
def digestB (σ : St) : List UInt8 := (List.range 32).map (dByte σ)
def outTo (σ : St) (n : Nat) : List UInt8 := (List.range 32).map fun j => if j < n then dByte σ j else 0
theorem outTo_length (σ : St) (n : Nat) : (outTo σ n).length = 32 := by simp [outTo]
theorem outTo_full (σ : St) : outTo σ 32 = digestB σ := by
  unfold outTo digestB
  refine List.map_congr_left fun i hi => ?_
  rw [if_pos (List.mem_range.1 hi)]
theorem outTo_step (σ : St) (n : Nat) (hn : n < 32) : (outTo σ n).set n (dByte σ n) = outTo σ (n + 1) := by
  apply List.ext_getElem?
  intro i
  unfold outTo
  by_cases e : n = i
  · subst e; rw [List.getElem?_set_self (by simpa using hn)]; simp [hn]
  · rw [List.getElem?_set_ne e]
    by_cases hi : i < 32
    · simp only [List.getElem?_map, List.getElem?_range hi, Option.map_some]
      by_cases h : i < n
      · rw [if_pos h, if_pos (by omega)]
      · rw [if_neg h, if_neg (by omega)]
    · rw [List.getElem?_eq_none (by simp; omega), List.getElem?_eq_none (by simp; omega)]
theorem digestB_length (σ : St) : (digestB σ).length = 32 := by simp [digestB]

/-- How many noughts fill up so many bytes; the bytes filled up; the digest. -/
def byteAt (x i : Nat) : UInt8 := UInt8.ofNat (x / 2 ^ (8 * (7 - i)))
def be64 (x : Nat) : List UInt8 := (List.range 8).map (byteAt x)
def fillN (n : Nat) : Nat := (119 - n % 64) % 64
theorem fillN_lt (n : Nat) : fillN n < 64 := Nat.mod_lt _ (by omega)
def padL (bs : List UInt8) : List UInt8 := bs ++ 128 :: List.replicate (fillN bs.length) 0 ++ be64 (8 * bs.length)
theorem be64_length (x : Nat) : (be64 x).length = 8 := by simp [be64]
theorem padL_length (bs : List UInt8) : (padL bs).length = bs.length + 9 + fillN bs.length := by simp [padL, be64_length]; omega
theorem padL_mod (bs : List UInt8) : (padL bs).length % 64 = 0 := by rw [padL_length]; unfold fillN; omega
def shaB (bs : List UInt8) : List UInt8 := digestB (hashTo (padL bs) ((padL bs).length / 64))
theorem shaB_length (bs : List UInt8) : (shaB bs).length = 32 := digestB_length _

end Go.Proofs.Ytcfkapoppmpehaa

/-
  The digest by numbers, in a form that the kernel computes fast (printed by wip/kn.py), and why it is the digest.
-/
import Derived.Test.YtcfkapoppmpehaaRef
namespace Go.Proofs.Ytcfkapoppmpehaa

/-- A number that is looked at is computed. -/
noncomputable def frc {α : Type} (n : Nat) (f : Nat → α) : α := Nat.rec (f 0) (fun k _ => f (Nat.succ k)) n
theorem frc_eq {α : Type} (n : Nat) (f : Nat → α) : frc n f = f n := by cases n <;> rfl
def kL : List Nat := [1116352408, 1899447441, 3049323471, 3921009573, 961987163, 1508970993, 2453635748, 2870763221, 3624381080, 310598401, 607225278, 1426881987, 1925078388, 2162078206, 2614888103, 3248222580, 3835390401, 4022224774, 264347078, 604807628, 770255983, 1249150122, 1555081692, 1996064986, 2554220882, 2821834349, 2952996808, 3210313671, 3336571891, 3584528711, 113926993, 338241895, 666307205, 773529912, 1294757372, 1396182291, 1695183700, 1986661051, 2177026350, 2456956037, 2730485921, 2820302411, 3259730800, 3345764771, 3516065817, 3600352804, 4094571909, 275423344, 430227734, 506948616, 659060556, 883997877, 958139571, 1322822218, 1537002063, 1747873779, 1955562222, 2024104815, 2227730452, 2361852424, 2428436474, 2756734187, 3204031479, 3329325298]
theorem kL_eq : constL.map BitVec.toNat = kL := by decide +kernel
def rot3 (y a b c : Nat) : Nat := Nat.mod (Nat.xor (Nat.xor (Nat.shiftRight y a) (Nat.shiftRight y b)) (Nat.shiftRight y c)) 4294967296
def rot2 (x y a b c : Nat) : Nat := Nat.mod (Nat.xor (Nat.xor (Nat.shiftRight y a) (Nat.shiftRight y b)) (Nat.shiftRight x c)) 4294967296
def nSum (e f g h k w : Nat) : Nat := Nat.mod (Nat.add (Nat.add (Nat.add (Nat.add h (rot3 (Nat.mul e 4294967297) 6 11 25)) (Nat.xor g (Nat.land e (Nat.xor f g)))) k) w) 4294967296
def nTop (a b c t : Nat) : Nat := Nat.mod (Nat.add (Nat.add t (rot3 (Nat.mul a 4294967297) 2 13 22)) (Nat.lor (Nat.land a c) (Nat.land b (Nat.lor a c)))) 4294967296
def nWord (w0 w1 w9 w14 : Nat) : Nat := Nat.mod (Nat.add (Nat.add w0 w9) (Nat.add (rot2 w14 (Nat.mul w14 4294967297) 17 19 10) (rot2 w1 (Nat.mul w1 4294967297) 7 18 3))) 4294967296
def nAt (W i : Nat) : Nat := Nat.mod (Nat.shiftRight W i) 4294967296
noncomputable def body (k : Nat) (rec : Nat → Nat → Nat → Nat → Nat → Nat → Nat → Nat → Nat → Nat) (a b c d e f g h W : Nat) : Nat :=
  frc (nAt W 480) fun w0 => frc (nSum e f g h k w0) fun t => frc (nTop a b c t) fun a' => frc (Nat.mod (Nat.add d t) 4294967296) fun e' =>
  frc (nAt W 32) fun w14 => frc (nAt W 448) fun w1 => frc (nAt W 192) fun w9 =>
  frc (Nat.add (Nat.mul (Nat.mod W 3121748550315992231381597229793166305748598142664971150859156959625371738819765620120306103063491971159826931121406622895447975679288285306290176) 4294967296) (nWord w0 w1 w9 w14)) fun W' => rec a' a b c e' e f g W'
noncomputable def rnds (l : List Nat) : Nat → Nat → Nat → Nat → Nat → Nat → Nat → Nat → Nat → Nat :=
  List.rec (fun a b c d e f g h _ => (Nat.add (Nat.mul (Nat.add (Nat.mul (Nat.add (Nat.mul (Nat.add (Nat.mul (Nat.add (Nat.mul (Nat.add (Nat.mul (Nat.add (Nat.mul a 4294967296) b) 4294967296) c) 4294967296) d) 4294967296) e) 4294967296) f) 4294967296) g) 4294967296) h)) (fun k _ rec => body k rec) l
noncomputable def blkN (S W : Nat) : Nat :=
  frc (nAt S 224) fun a => frc (nAt S 192) fun b => frc (nAt S 160) fun c => frc (nAt S 128) fun d => frc (nAt S 96) fun e => frc (nAt S 64) fun f => frc (nAt S 32) fun g => frc (nAt S 0) fun h =>
  frc (rnds kL a b c d e f g h W) fun r =>
  (Nat.add (Nat.mul (Nat.add (Nat.mul (Nat.add (Nat.mul (Nat.add (Nat.mul (Nat.add (Nat.mul (Nat.add (Nat.mul (Nat.add (Nat.mul (Nat.mod (Nat.add a (nAt r 224)) 4294967296) 4294967296) (Nat.mod (Nat.add b (nAt r 192)) 4294967296)) 4294967296) (Nat.mod (Nat.add c (nAt r 160)) 4294967296)) 4294967296) (Nat.mod (Nat.add d (nAt r 128)) 4294967296)) 4294967296) (Nat.mod (Nat.add e (nAt r 96)) 4294967296)) 4294967296) (Nat.mod (Nat.add f (nAt r 64)) 4294967296)) 4294967296) (Nat.mod (Nat.add g (nAt r 32)) 4294967296)) 4294967296) (Nat.mod (Nat.add h (nAt r 0)) 4294967296))


theorem wror_nat (x : BitVec 32) (n : Nat) (hn : n < 32) : (wror x n).toNat = (x.toNat * 4294967297) >>> n % 4294967296 := by
  refine Nat.eq_of_testBit_eq fun i => ?_
  rw [show (4294967296 : Nat) = 2 ^ 32 from rfl, Nat.testBit_mod_two_pow, Nat.testBit_shiftRight]
  by_cases hi : i < 32
  · rw [decide_eq_true hi, Bool.true_and]
    have h := wror_bit x n i hn hi
    rw [BitVec.getLsbD, BitVec.getLsbD] at h
    rw [h, show x.toNat * 4294967297 = 2 ^ 32 * x.toNat + x.toNat by omega, Nat.testBit_two_pow_mul_add _ x.isLt]
    by_cases h2 : n + i < 32
    · rw [if_pos h2, Nat.mod_eq_of_lt h2]
    · rw [if_neg h2]; congr 1; omega
  · rw [decide_eq_false hi, Bool.false_and]
    exact Nat.testBit_lt_two_pow (Nat.lt_of_lt_of_le (wror x n).isLt (Nat.pow_le_pow_right (by omega) (by omega)))
theorem wshr_nat (x : BitVec 32) (n : Nat) : (wshr x n).toNat = x.toNat >>> n % 4294967296 := by
  unfold wshr
  rw [BitVec.toNat_ushiftRight, Nat.mod_eq_of_lt]
  rw [Nat.shiftRight_eq_div_pow]
  exact Nat.lt_of_le_of_lt (Nat.div_le_self _ _) x.isLt
theorem rot3_nat (x : BitVec 32) (a b c : Nat) (ha : a < 32) (hb : b < 32) (hc : c < 32) : rot3 (Nat.mul x.toNat 4294967297) a b c = (mixT x a b c).toNat := by
  show (((x.toNat * 4294967297) >>> a ^^^ (x.toNat * 4294967297) >>> b) ^^^ (x.toNat * 4294967297) >>> c) % 2 ^ 32 = ((wror x a).toNat ^^^ (wror x b).toNat) ^^^ (wror x c).toNat
  rw [wror_nat x a ha, wror_nat x b hb, wror_nat x c hc, Nat.xor_mod_two_pow, Nat.xor_mod_two_pow]
theorem rot2_nat (x : BitVec 32) (a b c : Nat) (ha : a < 32) (hb : b < 32) : rot2 x.toNat (Nat.mul x.toNat 4294967297) a b c = (mixP x a b c).toNat := by
  show (((x.toNat * 4294967297) >>> a ^^^ (x.toNat * 4294967297) >>> b) ^^^ x.toNat >>> c) % 2 ^ 32 = ((wror x a).toNat ^^^ (wror x b).toNat) ^^^ (wshr x c).toNat
  rw [wror_nat x a ha, wror_nat x b hb, wshr_nat x c, Nat.xor_mod_two_pow, Nat.xor_mod_two_pow]
theorem wadd_nat (a b : BitVec 32) : (wadd a b).toNat = (a.toNat + b.toNat) % 4294967296 := BitVec.toNat_add a b
theorem nSum_nat (s : St) (k w : BitVec 32) : nSum s.e.toNat s.f.toNat s.g.toNat s.h.toNat k.toNat w.toNat = (roundS s k w).toNat := by
  unfold nSum roundS
  rw [rot3_nat _ _ _ _ (by omega) (by omega) (by omega)]
  simp only [wadd_nat]
  show (s.h.toNat + (mixT s.e 6 11 25).toNat + (wxor s.g (wand s.e (wxor s.f s.g))).toNat + k.toNat + w.toNat) % 4294967296 = _
  omega
theorem nTop_nat (s : St) (k w : BitVec 32) : nTop s.a.toNat s.b.toNat s.c.toNat (roundS s k w).toNat = (roundA s k w).toNat := by
  unfold nTop roundA
  rw [rot3_nat _ _ _ _ (by omega) (by omega) (by omega)]
  simp only [wadd_nat]
  show ((roundS s k w).toNat + (mixT s.a 2 13 22).toNat + (wor (wand s.a s.c) (wand s.b (wor s.a s.c))).toNat) % 4294967296 = _
  omega
theorem nWord_nat (w0 w1 w9 w14 : BitVec 32) : nWord w0.toNat w1.toNat w9.toNat w14.toNat = (wadd (wadd w0 w9) (wadd (mixP w14 17 19 10) (mixP w1 7 18 3))).toNat := by
  unfold nWord
  rw [rot2_nat _ _ _ _ (by omega) (by omega), rot2_nat _ _ _ _ (by omega) (by omega)]
  simp only [wadd_nat]
  show (w0.toNat + w9.toNat + ((mixP w14 17 19 10).toNat + (mixP w1 7 18 3).toNat)) % 4294967296 = _
  omega

/-- Words as one number. -/
def pk (l : List (BitVec 32)) : Nat := l.foldl (fun n w => n * 4294967296 + w.toNat) 0
theorem pk_from (l : List (BitVec 32)) : ∀ n, l.foldl (fun n w => n * 4294967296 + w.toNat) n = n * 2 ^ (32 * l.length) + pk l := by
  unfold pk
  induction l with
  | nil => intro n; simp
  | cons w l ih =>
    intro n
    simp only [List.foldl_cons, List.length_cons]
    rw [ih, ih (0 * 4294967296 + w.toNat), show 32 * (l.length + 1) = 32 * l.length + 32 by omega, Nat.pow_add, show (2 : Nat) ^ 32 = 4294967296 from rfl]
    rw [Nat.add_mul, Nat.mul_assoc, Nat.zero_mul, Nat.zero_add, Nat.mul_comm 4294967296, Nat.add_assoc]
theorem pk_append (l m : List (BitVec 32)) : pk (l ++ m) = pk l * 2 ^ (32 * m.length) + pk m := by
  rw [pk, List.foldl_append, pk_from]; rfl
theorem pk_one (w : BitVec 32) : pk [w] = w.toNat := by simp [pk]
theorem pk_lt (l : List (BitVec 32)) : pk l < 2 ^ (32 * l.length) := by
  induction l with
  | nil => decide
  | cons w l ih =>
    rw [show w :: l = [w] ++ l from rfl, pk_append, pk_one, List.length_append, List.length_singleton, show 32 * (1 + l.length) = 32 + 32 * l.length by omega, Nat.pow_add]
    have := w.isLt
    calc w.toNat * 2 ^ (32 * l.length) + pk l < w.toNat * 2 ^ (32 * l.length) + 2 ^ (32 * l.length) := by omega
      _ = (w.toNat + 1) * 2 ^ (32 * l.length) := by rw [Nat.add_mul, Nat.one_mul]
      _ ≤ 2 ^ 32 * 2 ^ (32 * l.length) := Nat.mul_le_mul_right _ this
theorem pk_mod (a b : List (BitVec 32)) : pk (a ++ b) % 2 ^ (32 * b.length) = pk b := by
  rw [pk_append, Nat.mul_comm, Nat.mul_add_mod, Nat.mod_eq_of_lt (pk_lt _)]
theorem pk_at (a b : List (BitVec 32)) (x : BitVec 32) : nAt (pk (a ++ x :: b)) (32 * b.length) = x.toNat := by
  show (pk (a ++ x :: b)) >>> (32 * b.length) % 4294967296 = _
  rw [Nat.shiftRight_eq_div_pow, show a ++ x :: b = (a ++ [x]) ++ b by simp, pk_append, Nat.mul_comm, Nat.mul_add_div (Nat.two_pow_pos _), Nat.div_eq_of_lt (pk_lt b), Nat.add_zero, pk_append, pk_one, List.length_singleton]
  have := x.isLt
  omega
theorem pk_nAt (l : List (BitVec 32)) (n i : Nat) (hl : l.length = n) (hi : i < n) : nAt (pk l) (32 * (n - 1 - i)) = (l.getD i 0#32).toNat := by
  have h : l = l.take i ++ l.getD i 0#32 :: l.drop (i + 1) := by
    rw [List.getD_eq_getElem?_getD, List.getElem?_eq_getElem (by omega), Option.getD_some, ← List.drop_eq_getElem_cons, List.take_append_drop]
  have := pk_at (l.take i) (l.drop (i + 1)) (l.getD i 0#32)
  rw [← h, List.length_drop, hl, show n - (i + 1) = n - 1 - i by omega] at this
  exact this
/-- The next sixteen words. -/
def winS (l : List (BitVec 32)) : List (BitVec 32) := l.drop 1 ++ [wadd (wadd (l.getD 0 0#32) (l.getD 9 0#32)) (wadd (mixP (l.getD 14 0#32) 17 19 10) (mixP (l.getD 1 0#32) 7 18 3))]
theorem winS_length (l : List (BitVec 32)) (h : l.length = 16) : (winS l).length = 16 := by simp [winS, h]

theorem pk_next (l : List (BitVec 32)) (h : l.length = 16) : Nat.add (Nat.mul (Nat.mod (pk l) 3121748550315992231381597229793166305748598142664971150859156959625371738819765620120306103063491971159826931121406622895447975679288285306290176) 4294967296) (nWord (nAt (pk l) 480) (nAt (pk l) 448) (nAt (pk l) 192) (nAt (pk l) 32)) = pk (winS l) := by
  have e0 := pk_nAt l 16 0 h (by omega)
  have e1 := pk_nAt l 16 1 h (by omega)
  have e9 := pk_nAt l 16 9 h (by omega)
  have e14 := pk_nAt l 16 14 h (by omega)
  rw [show 32 * (16 - 1 - 0) = 480 from rfl] at e0
  rw [show 32 * (16 - 1 - 1) = 448 from rfl] at e1
  rw [show 32 * (16 - 1 - 9) = 192 from rfl] at e9
  rw [show 32 * (16 - 1 - 14) = 32 from rfl] at e14
  rw [e0, e1, e9, e14, nWord_nat, winS, pk_append, pk_one, List.length_singleton]
  have hd : l = l.take 1 ++ l.drop 1 := (List.take_append_drop 1 l).symm
  have hm : Nat.mod (pk l) 3121748550315992231381597229793166305748598142664971150859156959625371738819765620120306103063491971159826931121406622895447975679288285306290176 = pk (l.drop 1) := by
    show pk l % 3121748550315992231381597229793166305748598142664971150859156959625371738819765620120306103063491971159826931121406622895447975679288285306290176 = _
    rw [show (3121748550315992231381597229793166305748598142664971150859156959625371738819765620120306103063491971159826931121406622895447975679288285306290176 : Nat) = 2 ^ (32 * (l.drop 1).length) from by rw [List.length_drop, h]; decide +kernel]
    have := pk_mod (l.take 1) (l.drop 1)
    rwa [← hd] at this
  rw [hm]
  rfl
theorem rnds_cons (k : BitVec 32) (ks : List Nat) (s : St) (l : List (BitVec 32)) (h : l.length = 16) :
    rnds (k.toNat :: ks) s.a.toNat s.b.toNat s.c.toNat s.d.toNat s.e.toNat s.f.toNat s.g.toNat s.h.toNat (pk l) =
    rnds ks (round s k (l.getD 0 0#32)).a.toNat (round s k (l.getD 0 0#32)).b.toNat (round s k (l.getD 0 0#32)).c.toNat (round s k (l.getD 0 0#32)).d.toNat (round s k (l.getD 0 0#32)).e.toNat (round s k (l.getD 0 0#32)).f.toNat (round s k (l.getD 0 0#32)).g.toNat (round s k (l.getD 0 0#32)).h.toNat (pk (winS l)) := by
  show body k.toNat (rnds ks) _ _ _ _ _ _ _ _ _ = _
  unfold body
  simp only [frc_eq]
  rw [pk_next l h]
  have e0 := pk_nAt l 16 0 h (by omega)
  rw [show 32 * (16 - 1 - 0) = 480 from rfl] at e0
  rw [e0, nSum_nat, nTop_nat]
  have hd : Nat.mod (Nat.add s.d.toNat (roundS s k (l.getD 0 0#32)).toNat) 4294967296 = (wadd s.d (roundS s k (l.getD 0 0#32))).toNat := (wadd_nat _ _).symm
  rw [hd]
  rfl

/-- The window behind t turns. -/
def winT (bs : List UInt8) : Nat → List (BitVec 32)
  | 0 => (wordsL bs 64).take 16
  | t + 1 => winS (winT bs t)
theorem winT_length (bs : List UInt8) : ∀ t, (winT bs t).length = 16
  | 0 => by simp [winT, wordsL_length]
  | t + 1 => winS_length _ (winT_length bs t)
theorem winT_word (bs : List UInt8) : ∀ t i, i < 16 → t + i < 64 → (winT bs t).getD i 0#32 = (wordsL bs 64).getD (t + i) 0#32
  | 0, i, hi, _ => by
    rw [winT, List.getD_eq_getElem?_getD, List.getElem?_take, if_pos hi, ← List.getD_eq_getElem?_getD, Nat.zero_add]
  | t + 1, i, hi, h => by
    have hl := winT_length bs t
    have ih := winT_word bs t
    rw [winT, winS]
    by_cases h15 : i < 15
    · rw [List.getD_eq_getElem?_getD, List.getElem?_append_left (by simp [hl]; omega), List.getElem?_drop, ← List.getD_eq_getElem?_getD, ih (1 + i) (by omega) (by omega)]
      congr 1; omega
    · obtain rfl : i = 15 := by omega
      rw [List.getD_eq_getElem?_getD, List.getElem?_append_right (by simp [hl]), List.length_drop, hl, show 15 - (16 - 1) = 0 from rfl, List.getElem?_cons_zero, Option.getD_some]
      rw [ih 0 (by omega) (by omega), ih 9 (by omega) (by omega), ih 14 (by omega) (by omega), ih 1 (by omega) (by omega)]
      rw [wordsL_last bs (t + 1 + 15) (t + 1 + 15 + 1) (by omega) (by omega), wordsL_at bs _ (by omega), wordAt, if_neg (by omega)]
      rw [show t + 1 + 15 - 2 = t + 14 by omega, show t + 1 + 15 - 7 = t + 9 by omega, show t + 1 + 15 - 15 = t + 1 by omega, show t + 1 + 15 - 16 = t + 0 by omega]
      rw [← wordsL_last bs (t + 14) (t + 1 + 15) (by omega) (by omega), ← wordsL_last bs (t + 9) (t + 1 + 15) (by omega) (by omega), ← wordsL_last bs (t + 1) (t + 1 + 15) (by omega) (by omega), ← wordsL_last bs (t + 0) (t + 1 + 15) (by omega) (by omega)]
      generalize (wordsL bs 64).getD (t + 0) 0#32 = w0
      generalize (wordsL bs 64).getD (t + 9) 0#32 = w9
      generalize mixP ((wordsL bs 64).getD (t + 14) 0#32) 17 19 10 = m14
      generalize mixP ((wordsL bs 64).getD (t + 1) 0#32) 7 18 3 = m1
      unfold wadd
      ac_rfl
theorem rnds_nil (u : St) (W : Nat) : rnds [] u.a.toNat u.b.toNat u.c.toNat u.d.toNat u.e.toNat u.f.toNat u.g.toNat u.h.toNat W = pk u.list := by
  simp only [St.list, pk, List.foldl_cons, List.foldl_nil, Nat.zero_mul, Nat.zero_add]
  rfl
theorem rnds_all (win : Nat → List (BitVec 32)) (ks ws : List (BitVec 32)) (hk : ks.length = 64) (h1 : ∀ t, win (t + 1) = winS (win t)) (h2 : ∀ t, (win t).length = 16) (h3 : ∀ t, t < 64 → (win t).getD 0 0#32 = ws.getD t 0#32) (s : St) : ∀ n t u, t + n = 64 → refRounds ks ws s t = u →
    rnds ((ks.drop t).map BitVec.toNat) u.a.toNat u.b.toNat u.c.toNat u.d.toNat u.e.toNat u.f.toNat u.g.toNat u.h.toNat (pk (win t)) =
    pk (refRounds ks ws s 64).list
  | 0, t, u, h, hu => by
    obtain rfl : t = 64 := by omega
    rw [List.drop_of_length_le (by omega), List.map_nil, rnds_nil, hu]
  | n + 1, t, u, h, hu => by
    have hd : ks.drop t = ks.getD t 0#32 :: ks.drop (t + 1) := by
      rw [List.drop_eq_getElem_cons (by omega), List.getD_eq_getElem?_getD, List.getElem?_eq_getElem (by omega), Option.getD_some]
    rw [hd, List.map_cons, rnds_cons _ _ _ _ (h2 t), h3 t (by omega), ← h1]
    exact rnds_all win ks ws hk h1 h2 h3 s n (t + 1) _ (by omega) (by rw [refRounds, hu])
theorem nAt_list (s : St) (i : Nat) (hi : i < 8) : nAt (pk s.list) (32 * (7 - i)) = (s.get i).toNat := by
  rw [pk_nAt s.list 8 i rfl hi, list_get s i hi]
theorem pk_eight (a b c d e f g h : BitVec 32) : Nat.add (Nat.mul (Nat.add (Nat.mul (Nat.add (Nat.mul (Nat.add (Nat.mul (Nat.add (Nat.mul (Nat.add (Nat.mul (Nat.add (Nat.mul a.toNat 4294967296) b.toNat) 4294967296) c.toNat) 4294967296) d.toNat) 4294967296) e.toNat) 4294967296) f.toNat) 4294967296) g.toNat) 4294967296) h.toNat = pk [a, b, c, d, e, f, g, h] := by
  simp only [pk, List.foldl_cons, List.foldl_nil, Nat.zero_mul, Nat.zero_add]
  rfl
theorem blkN_eq (s : St) (bs : List UInt8) : blkN (pk s.list) (pk (winT bs 0)) = pk (blockS s bs).list := by
  unfold blkN
  simp only [frc_eq]
  have e0 := nAt_list s 0 (by omega)
  have e1 := nAt_list s 1 (by omega)
  have e2 := nAt_list s 2 (by omega)
  have e3 := nAt_list s 3 (by omega)
  have e4 := nAt_list s 4 (by omega)
  have e5 := nAt_list s 5 (by omega)
  have e6 := nAt_list s 6 (by omega)
  have e7 := nAt_list s 7 (by omega)
  simp only [Nat.reduceMul, Nat.reduceSub] at e0 e1 e2 e3 e4 e5 e6 e7
  rw [e0, e1, e2, e3, e4, e5, e6, e7]
  have hr := rnds_all (winT bs) constL (wordsL bs 64) rfl (fun _ => rfl) (winT_length bs) (fun t ht => by rw [winT_word bs t 0 (by omega) (by omega), Nat.add_zero]) s 64 0 s rfl rfl
  rw [List.drop_zero, kL_eq] at hr
  have hr : rnds kL (s.get 0).toNat (s.get 1).toNat (s.get 2).toNat (s.get 3).toNat (s.get 4).toNat (s.get 5).toNat (s.get 6).toNat (s.get 7).toNat (pk (winT bs 0)) = pk (refRounds constL (wordsL bs 64) s 64).list := hr
  rw [hr, ← refBlock_eq]
  generalize refRounds constL (wordsL bs 64) s 64 = u
  have f0 := nAt_list u 0 (by omega)
  have f1 := nAt_list u 1 (by omega)
  have f2 := nAt_list u 2 (by omega)
  have f3 := nAt_list u 3 (by omega)
  have f4 := nAt_list u 4 (by omega)
  have f5 := nAt_list u 5 (by omega)
  have f6 := nAt_list u 6 (by omega)
  have f7 := nAt_list u 7 (by omega)
  simp only [Nat.reduceMul, Nat.reduceSub] at f0 f1 f2 f3 f4 f5 f6 f7
  rw [f0, f1, f2, f3, f4, f5, f6, f7]
  have hp : ∀ i, Nat.mod (Nat.add (s.get i).toNat (u.get i).toNat) 4294967296 = (wadd (u.get i) (s.get i)).toNat := fun i => by rw [wadd_comm]; exact (wadd_nat _ _).symm
  rw [hp, hp, hp, hp, hp, hp, hp, hp]
  exact pk_eight _ _ _ _ _ _ _ _
end Go.Proofs.Ytcfkapoppmpehaa

/-
  Bytes as numbers, and the digest of bytes by numbers.
-/
import Derived.Test.YtcfkapoppmpehaaKn
namespace Go.Proofs.Ytcfkapoppmpehaa

/-- Bytes as one number. -/
def pkB (l : List UInt8) : Nat := l.foldl (fun n b => n * 256 + b.toNat) 0
theorem pkB_from (l : List UInt8) : ∀ n, l.foldl (fun n b => n * 256 + b.toNat) n = n * 2 ^ (8 * l.length) + pkB l := by
  unfold pkB
  induction l with
  | nil => intro n; simp
  | cons w l ih =>
    intro n
    simp only [List.foldl_cons, List.length_cons]
    rw [ih, ih (0 * 256 + w.toNat), show 8 * (l.length + 1) = 8 * l.length + 8 by omega, Nat.pow_add, show (2 : Nat) ^ 8 = 256 from rfl]
    rw [Nat.add_mul, Nat.mul_assoc, Nat.zero_mul, Nat.zero_add, Nat.mul_comm 256, Nat.add_assoc]
theorem pkB_append (l m : List UInt8) : pkB (l ++ m) = pkB l * 2 ^ (8 * m.length) + pkB m := by
  rw [pkB, List.foldl_append, pkB_from]; rfl
theorem pkB_one (w : UInt8) : pkB [w] = w.toNat := by simp [pkB]
theorem pkB_lt (l : List UInt8) : pkB l < 2 ^ (8 * l.length) := by
  induction l with
  | nil => decide
  | cons w l ih =>
    rw [show w :: l = [w] ++ l from rfl, pkB_append, pkB_one, List.length_append, List.length_singleton, show 8 * (1 + l.length) = 8 + 8 * l.length by omega, Nat.pow_add]
    have := w.toNat_lt
    calc w.toNat * 2 ^ (8 * l.length) + pkB l < w.toNat * 2 ^ (8 * l.length) + 2 ^ (8 * l.length) := by omega
      _ = (w.toNat + 1) * 2 ^ (8 * l.length) := by rw [Nat.add_mul, Nat.one_mul]
      _ ≤ 2 ^ 8 * 2 ^ (8 * l.length) := Nat.mul_le_mul_right _ this
theorem pkB_mod (a b : List UInt8) : pkB (a ++ b) % 2 ^ (8 * b.length) = pkB b := by
  rw [pkB_append, Nat.mul_comm, Nat.mul_add_mod, Nat.mod_eq_of_lt (pkB_lt _)]
theorem pkB_div (a b : List UInt8) : pkB (a ++ b) / 2 ^ (8 * b.length) = pkB a := by
  rw [pkB_append, Nat.mul_comm, Nat.mul_add_div (Nat.two_pow_pos _), Nat.div_eq_of_lt (pkB_lt _), Nat.add_zero]
theorem pkB_four (b0 b1 b2 b3 : UInt8) : pkB [b0, b1, b2, b3] = (word4 b0 b1 b2 b3).toNat := by
  have h0 := b0.toNat_lt
  have h1 := b1.toNat_lt
  have h2 := b2.toNat_lt
  have h3 := b3.toNat_lt
  simp only [pkB, List.foldl_cons, List.foldl_nil, word4, BitVec.toNat_ofNat]
  omega
/-- The word of four bytes. -/
def wordOf (bs : List UInt8) (i : Nat) : BitVec 32 := word4 (bs.getD (4 * i) 0) (bs.getD (4 * i + 1) 0) (bs.getD (4 * i + 2) 0) (bs.getD (4 * i + 3) 0)
theorem take_four (bs : List UInt8) (n : Nat) (h : 4 * n + 4 ≤ bs.length) : bs.take (4 * (n + 1)) = bs.take (4 * n) ++ [bs.getD (4 * n) 0, bs.getD (4 * n + 1) 0, bs.getD (4 * n + 2) 0, bs.getD (4 * n + 3) 0] := by
  have hg : ∀ j, j < bs.length → bs[j]?.toList = [bs.getD j 0] := fun j hj => by simp [hj]
  rw [show 4 * (n + 1) = 4 * n + 1 + 1 + 1 + 1 by omega, List.take_add_one, List.take_add_one, List.take_add_one, List.take_add_one]
  rw [hg _ (by omega), hg _ (by omega), hg _ (by omega), hg _ (by omega)]
  simp
theorem pk_words (bs : List UInt8) : ∀ n, 4 * n ≤ bs.length → pk ((List.range n).map (wordOf bs)) = pkB (bs.take (4 * n))
  | 0, _ => by simp [pk, pkB]
  | n + 1, h => by
    rw [List.range_succ, List.map_append, pk_append, pk_words bs n (by omega), take_four bs n (by omega), pkB_append, pkB_four]
    rw [List.map_singleton, pk_one]
    rfl
theorem winT_zero (bs : List UInt8) : winT bs 0 = (List.range 16).map (wordOf bs) := by
  refine List.ext_getElem (by simp [winT_length]) fun i h1 h2 => ?_
  have hi : i < 16 := by simpa using h2
  have := winT_word bs 0 i hi (by omega)
  rw [Nat.zero_add, wordsL_last bs i (i + 1) (by omega) (by omega), wordsL_at bs i (by omega), wordAt, if_pos hi] at this
  rw [List.getD_eq_getElem?_getD, List.getElem?_eq_getElem h1, Option.getD_some] at this
  rw [this]
  simp [wordOf]
theorem blk_bytes (s : St) (bs : List UInt8) (h : bs.length = 64) : pk (blockS s bs).list = blkN (pk s.list) (pkB bs) := by
  rw [← blkN_eq, winT_zero, pk_words bs 16 (by omega), List.take_of_length_le (by omega)]
theorem digest_word (σ : St) (i : Nat) (h : i < 8) : wordOf (digestB σ) i = σ.get i := by
  have hd : ∀ j, j < 32 → (digestB σ).getD j 0 = dByte σ j := fun j hj => by simp [digestB, hj]
  unfold wordOf
  rw [hd _ (by omega), hd _ (by omega), hd _ (by omega), hd _ (by omega)]
  unfold word4 dByte
  rw [show 4 * i / 4 = i by omega, show (4 * i + 1) / 4 = i by omega, show (4 * i + 2) / 4 = i by omega, show (4 * i + 3) / 4 = i by omega]
  rw [show 4 * i % 4 = 0 by omega, show (4 * i + 1) % 4 = 1 by omega, show (4 * i + 2) % 4 = 2 by omega, show (4 * i + 3) % 4 = 3 by omega]
  simp only [UInt8.toNat_ofNat']
  apply BitVec.eq_of_toNat_eq
  rw [BitVec.toNat_ofNat]
  have := (σ.get i).isLt
  generalize (σ.get i).toNat = x at *
  omega
theorem pkB_digest (σ : St) : pkB (digestB σ) = pk σ.list := by
  have h := pk_words (digestB σ) 8 (by rw [digestB_length]; omega)
  rw [List.take_of_length_le (by rw [digestB_length]; omega)] at h
  rw [← h]
  congr 1
  refine List.ext_getElem rfl fun i h1 h2 => ?_
  have hi : i < 8 := by simpa using h1
  rw [List.getElem_map, List.getElem_range, digest_word σ i hi, ← list_get σ i hi, List.getD_eq_getElem?_getD, List.getElem?_eq_getElem h2, Option.getD_some]

def ivN : Nat := 47962653771679561900652889051773562940742041696833059450490514104358170316057
theorem ivN_eq : pk startS.list = ivN := by decide +kernel
def p512 : Nat := 13407807929942597099574024998205846127479365820592393377723561443721764030073546976801874298166903427690031858186486050853753882811946569946433649006084096
set_option exponentiation.threshold 600 in
theorem p512_eq : p512 = 2 ^ 512 := by decide +kernel
/-- The digest of all blocks, by numbers. -/
noncomputable def hashN (all : Nat) (n : Nat) (l : List Nat) : Nat → Nat :=
  List.rec (fun S => S) (fun i _ rec S => frc (blkN S (Nat.mod (Nat.shiftRight all (512 * (n - 1 - i))) p512)) rec) l
set_option exponentiation.threshold 600 in
theorem chunk_num (all : List UInt8) (n i : Nat) (hl : all.length = 64 * n) (hi : i < n) : (pkB all >>> (512 * (n - 1 - i))) % p512 = pkB ((all.drop (64 * i)).take 64) := by
  have h1 : all = all.take (64 * i) ++ ((all.drop (64 * i)).take 64 ++ (all.drop (64 * i)).drop 64) := by rw [List.take_append_drop, List.take_append_drop]
  have h2 : ((all.drop (64 * i)).drop 64).length = 64 * (n - 1 - i) := by simp [hl]; omega
  have h3 : ((all.drop (64 * i)).take 64).length = 64 := by simp [hl]; omega
  rw [Nat.shiftRight_eq_div_pow]
  conv => lhs; rw [h1]
  rw [← List.append_assoc, show 512 * (n - 1 - i) = 8 * ((all.drop (64 * i)).drop 64).length by rw [h2]; omega, pkB_div]
  have := pkB_mod (all.take (64 * i)) ((all.drop (64 * i)).take 64)
  rw [h3] at this
  rw [p512_eq]
  exact this
theorem hashN_eq (all : List UInt8) (n : Nat) (hl : all.length = 64 * n) : ∀ m i, i + m = n → hashN (pkB all) n ((List.range m).map (i + ·)) (pk (hashTo all i).list) = pk (hashTo all n).list
  | 0, i, h => by
    obtain rfl : i = n := by omega
    rfl
  | m + 1, i, h => by
    rw [List.range_succ_eq_map, List.map_cons, List.map_map]
    show frc (blkN (pk (hashTo all i).list) ((pkB all >>> (512 * (n - 1 - (i + 0)))) % p512)) (hashN (pkB all) n _) = _
    rw [frc_eq, Nat.add_zero, chunk_num all n i hl (by omega)]
    have h3 : ((all.drop (64 * i)).take 64).length = 64 := by simp [hl]; omega
    rw [← blk_bytes _ _ h3]
    have ih := hashN_eq all n hl m (i + 1) (by omega)
    rw [show ((i + ·) ∘ Nat.succ : Nat → Nat) = (i + 1 + ·) from funext fun x => by simp; omega]
    exact ih
theorem sha_num (bs : List UInt8) (n : Nat) (h : (padL bs).length = 64 * n) : pkB (shaB bs) = hashN (pkB (padL bs)) n (List.range n) ivN := by
  have := hashN_eq (padL bs) n h n 0 (by omega)
  rw [show (0 + · : Nat → Nat) = id from funext fun x => by simp, List.map_id] at this
  rw [shaB, h, Nat.mul_div_cancel_left _ (by omega), pkB_digest, ← this, ← ivN_eq]
  rfl
end Go.Proofs.Ytcfkapoppmpehaa

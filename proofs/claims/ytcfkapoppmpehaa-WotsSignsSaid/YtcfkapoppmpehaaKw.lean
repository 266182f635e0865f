/-
  One-time signatures as plain Lean, by bytes and by numbers; two keys that the kernel computes.
-/
import Derived.Test.YtcfkapoppmpehaaKb
namespace Go.Proofs.Ytcfkapoppmpehaa

def stepW (x : List UInt8) (c n : Nat) : List UInt8 := shaB ([67, UInt8.ofNat c, UInt8.ofNat n] ++ x)
def startW (seed : List UInt8) (c : Nat) : List UInt8 := shaB ([83, UInt8.ofNat c] ++ seed)
/-- k steps from a place on. -/
def walkW (x : List UInt8) (c f : Nat) : Nat → List UInt8
  | 0 => x
  | k + 1 => stepW (walkW x c f k) c (f + k)
def endW (seed : List UInt8) (c : Nat) : List UInt8 := walkW (startW seed c) c 0 15
def keyOf (ends : List (List UInt8)) : List UInt8 := shaB ([75] ++ ends.flatten)
def keyW (seed : List UInt8) : List UInt8 := keyOf ((List.range 67).map (endW seed))
theorem stepW_length (x : List UInt8) (c n : Nat) : (stepW x c n).length = 32 := shaB_length _
theorem startW_length (x : List UInt8) (c : Nat) : (startW x c).length = 32 := shaB_length _
theorem walkW_length (x : List UInt8) (c f k : Nat) (h : x.length = 32) : (walkW x c f k).length = 32 := by
  cases k with
  | zero => exact h
  | succ k => exact stepW_length _ _ _
theorem endW_length (seed : List UInt8) (c : Nat) : (endW seed c).length = 32 := walkW_length _ _ _ _ (startW_length _ _)
theorem keyOf_length (l : List (List UInt8)) : (keyOf l).length = 32 := shaB_length _
theorem walkW_front (x : List UInt8) (c f k : Nat) : walkW x c f (k + 1) = walkW (stepW x c f) c (f + 1) k := by
  induction k with
  | zero => rfl
  | succ k ih => rw [walkW, ih, walkW]; congr 1; omega
theorem walkW_add (x : List UInt8) (c f j k : Nat) : walkW x c f (j + k) = walkW (walkW x c f j) c (f + j) k := by
  induction k with
  | zero => rfl
  | succ k ih => rw [← Nat.add_assoc, walkW, ih, walkW]; congr 1; omega

/-! By numbers. -/
noncomputable def oneN (all : Nat) : Nat := hashN all 1 (List.range 1) ivN
noncomputable def stepN (x c n : Nat) : Nat := oneN (Nat.add (Nat.add (Nat.mul (Nat.add (Nat.mul (Nat.add 17152 c) 256) n) 799167628880894011233688890827050574271641124522232614619944181664095165137859998750798362384253944616915694367080095461234681773897801038410285056) (Nat.mul x 6901746346790563787434755862277025452451108972170386555162524223799296)) 3450873173395281893717377931138512726225554486085193277581262111899928)
noncomputable def startN (x c : Nat) : Nat := oneN (Nat.add (Nat.add (Nat.mul (Nat.add 21248 c) 204586912993508866875824356051724947013540127877691549342705710506008362275292159680204380770369009821930417757972504438076078534117837065833032974336) (Nat.mul x 1766847064778384329583297500742918515827483896875618958121606201292619776)) 883423532389192164791648750371459257913741948437809479060803100646310160)
noncomputable def walkN (c : Nat) (l : List Nat) : Nat → Nat := List.rec (fun x => x) (fun n _ rec x => frc (stepN x c n) rec) l
noncomputable def endN (S c : Nat) : Nat := frc (startN S c) (walkN c (List.range 15))
noncomputable def endsN (S : Nat) (l : List Nat) : Nat → Nat := List.rec (fun E => E) (fun c _ rec E => frc (endN S c) fun e => frc (Nat.add (Nat.mul E 115792089237316195423570985008687907853269984665640564039457584007913129639936) e) rec) l
noncomputable def keyN (S : Nat) : Nat := frc (endsN S (List.range 67) 75) fun E => hashN (Nat.add (Nat.mul E 452312848583266388373324160190187140051835877600158453279131187530910662656) 226156424291633194186662080095093570025917938800079226639565593765455348488) 34 (List.range 34) ivN

theorem pad_num (bs : List UInt8) (n : Nat) (t : List UInt8) (h : bs.length = n) (ht : (128 :: List.replicate (fillN n) 0) ++ be64 (8 * n) = t) : pkB (padL bs) = pkB bs * 2 ^ (8 * t.length) + pkB t := by
  rw [← pkB_append, ← ht, ← h, padL, List.append_assoc]
theorem pow_232 : (2 : Nat) ^ 232 = 6901746346790563787434755862277025452451108972170386555162524223799296 := by decide +kernel
theorem pow_240 : (2 : Nat) ^ 240 = 1766847064778384329583297500742918515827483896875618958121606201292619776 := by decide +kernel
theorem pow_248 : (2 : Nat) ^ 248 = 452312848583266388373324160190187140051835877600158453279131187530910662656 := by decide +kernel
theorem pow_256 : (2 : Nat) ^ 256 = 115792089237316195423570985008687907853269984665640564039457584007913129639936 := by decide +kernel
theorem stepN_eq (x : List UInt8) (c n : Nat) (hx : x.length = 32) (hc : c < 256) (hn : n < 256) : pkB (stepW x c n) = stepN (pkB x) c n := by
  have hl : ([67, UInt8.ofNat c, UInt8.ofNat n] ++ x).length = 35 := by simp [hx]
  have hp := pad_num _ 35 ((128 :: List.replicate 20 0) ++ be64 280) hl rfl
  rw [stepW, sha_num _ 1 (by rw [padL_length, hl]; rfl), hp, pkB_append, hx]
  have h3 : pkB [67, UInt8.ofNat c, UInt8.ofNat n] = (17152 + c) * 256 + n := by
    simp only [pkB, List.foldl_cons, List.foldl_nil, UInt8.toNat_ofNat']
    rw [Nat.mod_eq_of_lt (show c < 2 ^ 8 from hc), Nat.mod_eq_of_lt (show n < 2 ^ 8 from hn)]
    show (((0 * 256 + 67) * 256 + c) * 256 + n) = _
    omega
  have ht : pkB ((128 :: List.replicate 20 0) ++ be64 280) = 3450873173395281893717377931138512726225554486085193277581262111899928 := by decide +kernel
  have hlt : ((128 :: List.replicate 20 0) ++ be64 280 : List UInt8).length = 29 := by decide +kernel
  rw [h3, ht, hlt, show 8 * 29 = 232 from rfl, show 8 * 32 = 256 from rfl, pow_232, pow_256, Nat.add_mul, Nat.mul_assoc]
  rfl
theorem startN_eq (x : List UInt8) (c : Nat) (hx : x.length = 32) (hc : c < 256) : pkB (startW x c) = startN (pkB x) c := by
  have hl : ([83, UInt8.ofNat c] ++ x).length = 34 := by simp [hx]
  have hp := pad_num _ 34 ((128 :: List.replicate 21 0) ++ be64 272) hl rfl
  rw [startW, sha_num _ 1 (by rw [padL_length, hl]; rfl), hp, pkB_append, hx]
  have h3 : pkB [83, UInt8.ofNat c] = 21248 + c := by
    simp only [pkB, List.foldl_cons, List.foldl_nil, UInt8.toNat_ofNat']
    rw [Nat.mod_eq_of_lt (show c < 2 ^ 8 from hc)]
    show ((0 * 256 + 83) * 256 + c) = _
    omega
  have ht : pkB ((128 :: List.replicate 21 0) ++ be64 272) = 883423532389192164791648750371459257913741948437809479060803100646310160 := by decide +kernel
  have hlt : ((128 :: List.replicate 21 0) ++ be64 272 : List UInt8).length = 30 := by decide +kernel
  rw [h3, ht, hlt, show 8 * 30 = 240 from rfl, show 8 * 32 = 256 from rfl, pow_240, pow_256, Nat.add_mul, Nat.mul_assoc]
  rfl
theorem walkN_eq (c : Nat) (hc : c < 256) : ∀ k f x, x.length = 32 → f + k ≤ 15 → pkB (walkW x c f k) = walkN c ((List.range k).map (f + ·)) (pkB x)
  | 0, _, _, _, _ => rfl
  | k + 1, f, x, hx, h => by
    rw [walkW_front, List.range_succ_eq_map, List.map_cons, List.map_map, walkN_eq c hc k (f + 1) _ (stepW_length _ _ _) (by omega)]
    show _ = frc (stepN (pkB x) c (f + 0)) (walkN c _)
    rw [frc_eq, show f + 0 = f from rfl, ← stepN_eq x c f hx hc (by omega)]
    rw [show ((f + ·) ∘ Nat.succ : Nat → Nat) = (f + 1 + ·) from funext fun x => by simp; omega]
theorem endN_eq (seed : List UInt8) (c : Nat) (hs : seed.length = 32) (hc : c < 256) : pkB (endW seed c) = endN (pkB seed) c := by
  rw [endW, walkN_eq c hc 15 0 _ (startW_length _ _) (by omega), startN_eq seed c hs hc, endN, frc_eq]
  rw [show (0 + · : Nat → Nat) = id from funext fun x => by simp, List.map_id]
theorem endsN_eq (seed : List UInt8) (hs : seed.length = 32) : ∀ (l : List Nat) (p : List UInt8), (∀ c ∈ l, c < 256) → pkB (p ++ (l.map (endW seed)).flatten) = endsN (pkB seed) l (pkB p)
  | [], p, _ => by simp; rfl
  | c :: l, p, h => by
    rw [List.map_cons, List.flatten_cons, ← List.append_assoc, endsN_eq seed hs l _ (fun c' hc' => h c' (List.mem_cons_of_mem _ hc')), pkB_append, endW_length, endN_eq seed c hs (h c (List.mem_cons_self ..)), show 8 * 32 = 256 from rfl, pow_256]
    show _ = frc (endN (pkB seed) c) fun e => frc (Nat.add (Nat.mul (pkB p) 115792089237316195423570985008687907853269984665640564039457584007913129639936) e) (endsN (pkB seed) l)
    rw [frc_eq, frc_eq]
    rfl
theorem flatten_length32 (l : List (List UInt8)) (h : ∀ x ∈ l, x.length = 32) : l.flatten.length = 32 * l.length := by
  induction l with
  | nil => rfl
  | cons a l ih => rw [List.flatten_cons, List.length_append, ih (fun x hx => h x (List.mem_cons_of_mem _ hx)), h a (List.mem_cons_self ..), List.length_cons]; omega
theorem keyN_eq (seed : List UInt8) (hs : seed.length = 32) : pkB (keyW seed) = keyN (pkB seed) := by
  have hf : ((List.range 67).map (endW seed)).flatten.length = 2144 := by
    rw [flatten_length32 _ (fun x hx => by obtain ⟨c, _, rfl⟩ := List.mem_map.1 hx; exact endW_length _ _)]; simp
  have hl : ([75] ++ ((List.range 67).map (endW seed)).flatten).length = 2145 := by rw [List.length_append, hf]; rfl
  have hp := pad_num _ 2145 ((128 :: List.replicate 22 0) ++ be64 17160) hl rfl
  have ht : pkB ((128 :: List.replicate 22 0) ++ be64 17160) = 226156424291633194186662080095093570025917938800079226639565593765455348488 := by decide +kernel
  have hlt : ((128 :: List.replicate 22 0) ++ be64 17160 : List UInt8).length = 31 := by decide +kernel
  rw [keyW, keyOf, sha_num _ 34 (by rw [padL_length, hl]; rfl), hp, endsN_eq seed hs _ _ (fun c hc => by have := List.mem_range.1 hc; omega), ht, hlt, show 8 * 31 = 248 from rfl, pow_248, keyN, frc_eq]
  rfl
end Go.Proofs.Ytcfkapoppmpehaa

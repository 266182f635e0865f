/-
  What calls of the definition's Turn, Push, Pick, Most and Number give.
-/
import Derived.Test.YtcfkapoppmpehaaRefp
import Derived.Test.YtcfkapoppmpehaaRef
namespace Go.Proofs.Ytcfkapoppmpehaa
open Go.RowKit

theorem mod_two (x : BitVec 32) : ((x.toNat : Int) / 2 + (x.toNat : Int) % 2 * 2147483648) = ((wror x 1).toNat : Int) := by
  have := wror_one x; omega

set_option maxHeartbeats 400000 in
theorem rturn_same (x : BitVec 32) (n : Nat) (hn : n < 32) (w : World) :
    Calls Try.prog 96 #[wv x, .int .i64 n] w fun e w' => e = .returned (wv (wror x n)) ∧ w = w' := by
  go_enter Try.func96, Try.ntmps96
  go_wp2_with fail
  go_loop [0, 1] (fun y m => ∃ k : Nat, k ≤ n ∧ m = .int .i64 ((n - k : Nat) : Int) ∧ y = wv (wror x k)) (fun _ m => (intOf m).toNat)
  case atStart => exact ⟨0, by omega, rfl, by rw [wror_zero]⟩
  case round =>
    obtain ⟨k, hk, rfl, rfl⟩ := hrel
    by_cases hlt : k < n
    · have hg : decide ((0 : Int) < ((n - k : Nat) : Int)) = true := by simp; omega
      have hpos : (0 : Int) < ((n - k : Nat) : Int) := by omega
      have Hst := Lib.hid (wror_step x k (by omega))
      have Hm := Lib.hid (show ((n - k : Nat) : Int) - 1 = ((n - (k + 1) : Nat) : Int) by omega)
      have hb0 : (0 : Int) ≤ ((n - k : Nat) : Int) := by omega
      have hb1 : ((n - k : Nat) : Int) ≤ 32 := by omega
      generalize hy : wror x k = y at *
      have Hy := Lib.hid hy
      clear hy
      have hyl := y.isLt
      generalize ((n - k : Nat) : Int) = m at *
      go_wp2_with fail
      go_round
      case rel => exact ⟨k + 1, by omega, by rw [← Hm.out], by rw [← Hst.out]; show Value.int _ _ = Value.int _ _; rw [mod_two]⟩
      case measure => simp [intOf]; omega
    · obtain rfl : k = n := by omega
      have hz : ((k - k : Nat) : Int) = 0 := by omega
      rw [hz]
      clear hz
      go_wp2_with fail
      go_ret
      exact ⟨rfl, rfl⟩
theorem rturn_any (x : BitVec 32) (n : Nat) (hn : n < 32) (w : World) :
    Calls Try.prog 96 #[wv x, .int .i64 n] w fun e w' => e = .returned (wv (wror x n)) ∧ Below w.heap.size w w' :=
  (rturn_same x n hn w).mono fun _ _ ⟨h, h'⟩ => ⟨h, h' ▸ Below.refl _ _⟩

theorem div_two (x : BitVec 32) (k : Nat) : ((wshr x k).toNat : Int) / 2 = ((wshr x (k + 1)).toNat : Int) := by
  have := wshr_step x k; omega
set_option maxHeartbeats 400000 in
theorem rpush_same (x : BitVec 32) (n : Nat) (hn : n < 32) (w : World) :
    Calls Try.prog 108 #[wv x, .int .i64 n] w fun e w' => e = .returned (wv (wshr x n)) ∧ w = w' := by
  go_enter Try.func108, Try.ntmps108
  go_wp2_with fail
  go_loop [0, 1] (fun y m => ∃ k : Nat, k ≤ n ∧ m = .int .i64 ((n - k : Nat) : Int) ∧ y = wv (wshr x k)) (fun _ m => (intOf m).toNat)
  case atStart => exact ⟨0, by omega, rfl, by rw [wshr_zero]⟩
  case round =>
    obtain ⟨k, hk, rfl, rfl⟩ := hrel
    by_cases hlt : k < n
    · have hg : decide ((0 : Int) < ((n - k : Nat) : Int)) = true := by simp; omega
      have hpos : (0 : Int) < ((n - k : Nat) : Int) := by omega
      have Hst := Lib.hid (div_two x k)
      have Hm := Lib.hid (show ((n - k : Nat) : Int) - 1 = ((n - (k + 1) : Nat) : Int) by omega)
      have hb0 : (0 : Int) ≤ ((n - k : Nat) : Int) := by omega
      have hb1 : ((n - k : Nat) : Int) ≤ 32 := by omega
      generalize hy : wshr x k = y at *
      have Hy := Lib.hid hy
      clear hy
      have hyl := y.isLt
      generalize ((n - k : Nat) : Int) = m at *
      go_wp2_with fail
      go_round
      case rel => exact ⟨k + 1, by omega, by rw [← Hm.out], by rw [Hst.out]⟩
      case measure => simp [intOf]; omega
    · obtain rfl : k = n := by omega
      have hz : ((k - k : Nat) : Int) = 0 := by omega
      rw [hz]
      clear hz
      go_wp2_with fail
      go_ret
      exact ⟨rfl, rfl⟩
theorem rpush_any (x : BitVec 32) (n : Nat) (hn : n < 32) (w : World) :
    Calls Try.prog 108 #[wv x, .int .i64 n] w fun e w' => e = .returned (wv (wshr x n)) ∧ Below w.heap.size w w' :=
  (rpush_same x n hn w).mono fun _ _ ⟨h, h'⟩ => ⟨h, h' ▸ Below.refl _ _⟩

@[go_sem] theorem bits_not32 (a : BitVec 32) : bits BinOp.xor IntKind.u32 IntKind.u32.max a.toNat = ((wnot a).toNat : Int) := by
  have h : IntKind.u32.max = ((BitVec.allOnes 32).toNat : Int) := by decide
  rw [h, bits_xor32]
  congr 2
theorem most_same (a b c : BitVec 32) (w : World) : Calls Try.prog 98 #[wv a, wv b, wv c] w fun e w' => e = .returned (wv (wMost a b c)) ∧ w = w' := by
  unfold wMost
  go_enter Try.func98, Try.ntmps98
  go_wp2
  go_ret
  exact ⟨rfl, rfl⟩
theorem pick_same (a b c : BitVec 32) (w : World) : Calls Try.prog 97 #[wv a, wv b, wv c] w fun e w' => e = .returned (wv (wPick a b c)) ∧ w = w' := by
  unfold wPick
  go_enter Try.func97, Try.ntmps97
  go_wp2
  go_ret
  exact ⟨rfl, rfl⟩
theorem most_any (a b c : BitVec 32) (w : World) : Calls Try.prog 98 #[wv a, wv b, wv c] w fun e w' => e = .returned (wv (wMost a b c)) ∧ Below w.heap.size w w' :=
  (most_same a b c w).mono fun _ _ ⟨h, h'⟩ => ⟨h, h' ▸ Below.refl _ _⟩
theorem pick_any (a b c : BitVec 32) (w : World) : Calls Try.prog 97 #[wv a, wv b, wv c] w fun e w' => e = .returned (wv (wPick a b c)) ∧ Below w.heap.size w w' :=
  (pick_same a b c w).mono fun _ _ ⟨h, h'⟩ => ⟨h, h' ▸ Below.refl _ _⟩

/-- The number whose bytes these are. -/
def numB (l : List UInt8) : Nat := l.foldl (fun a b => 256 * a + b.toNat) 0
theorem numB_snoc (l : List UInt8) (b : UInt8) : numB (l ++ [b]) = 256 * numB l + b.toNat := by simp [numB]
theorem foldB_lt : ∀ (l : List UInt8) (a : Nat), l.foldl (fun a b => 256 * a + b.toNat) a < (a + 1) * 256 ^ l.length
  | [], a => by simp
  | b :: l, a => by
    have h := foldB_lt l (256 * a + b.toNat)
    have hb := b.toNat_lt
    rw [List.foldl_cons, List.length_cons, Nat.pow_succ, Nat.mul_comm (256 ^ l.length) 256, ← Nat.mul_assoc]
    refine Nat.lt_of_lt_of_le h (Nat.mul_le_mul_right _ (by omega))
theorem numB_lt (l : List UInt8) : numB l < 256 ^ l.length := by
  have := foldB_lt l 0
  simpa [numB] using this
theorem take_snoc (l : List UInt8) (n : Nat) (h : l.length = n + 1) : l = l.take n ++ [l.getD n 0] := by
  have : l.take (n + 1) = l.take n ++ [l.getD n 0] := by simp [h]
  rw [← this, List.take_of_length_le (by omega)]
theorem RdB.take {w : World} {a : Option Addr} {n c : Nat} {bs : List UInt8} (h : RdB w (.slice a n c) bs) (m : Nat) (hm : m ≤ bs.length) : RdB w (.slice a m c) (bs.take m) := by
  obtain ⟨a0, c0, hv, hc, hr⟩ := h
  cases hv
  refine ⟨a, c, by rw [List.length_take, Nat.min_eq_left hm], by simp; omega, fun h0 => ?_⟩
  have hl : (bs.take m).length = m := by simp; omega
  obtain ⟨b, o, rfl, hrr⟩ := hr (by omega)
  refine ⟨b, o, rfl, fun i hi => ?_⟩
  rw [hrr i (by omega), List.getD_eq_getElem?_getD, List.getD_eq_getElem?_getD, List.getElem?_take, if_pos (by omega)]
theorem RdB.mono' {w w' : World} {v : Value} {bs : List UInt8} (h : RdB w v bs) (hb : Below w.heap.size w w') : RdB w' v bs := h.mono hb
theorem number_any : ∀ (n : Nat) (v : Value) (bs : List UInt8) (w : World), bs.length = n → n ≤ 8 → RdB w v bs →
    Calls Try.prog 107 #[v] w fun e w' => e = .returned (.int .u64 (numB bs : Nat)) ∧ Below w.heap.size w w'
  | 0, v, bs, w, hl, _, hv => by
    obtain ⟨a, cap, rfl, hc, _⟩ := hv
    have hb : bs = [] := List.length_eq_zero_iff.1 hl
    subst hb
    go_enter Try.func107, Try.ntmps107
    go_wp2
    go_ret
    exact ⟨rfl, Below.refl _ _⟩
  | n + 1, v, bs, w, hl, h8, hv => by
    have IH := Lib.hid (number_any n)
    have hv0 := hv
    obtain ⟨a, cap, rfl, hc, hr⟩ := hv
    obtain ⟨b, o, rfl, hcell⟩ := hr (by omega)
    have hlast := hcell n (by omega)
    have hs := take_snoc bs n hl
    have htl : (bs.take n).length = n := by simp; omega
    have hrd := hv0.take n (by omega)
    have hnum : numB bs = 256 * numB (bs.take n) + (bs.getD n 0).toNat := by rw [← numB_snoc, ← hs]
    have hnl := numB_lt (bs.take n)
    have hp : 256 ^ n ≤ 256 ^ 7 := Nat.pow_le_pow_right (by omega) (by omega)
    rw [htl] at hnl
    rw [hl] at hv0 ⊢
    clear hs hr hcell
    have e0 := gro_cell hlast
    have Hrd := Lib.hid (fun p => hrd.mono (below_gro w p))
    have hx : numB (bs.take n) < 72057594037927936 := Nat.lt_of_lt_of_le hnl hp
    have Hnum := Lib.hid hnum
    have Htl := Lib.hid htl
    rw [hl] at hc
    clear hnum htl hnl hp hlast hrd hv0
    generalize bs.take n = l at *
    generalize bs.getD n 0 = y at *
    have hy := y.toNat_lt
    have HC := Lib.hid (fun w' (hw : RdB w' (.slice (some ⟨b, o, none⟩) n cap) l) => IH.out _ l w' Htl.out (by omega) hw)
    clear IH
    generalize numB l = N at *
    clear Htl
    have hl' := Lib.hid hl
    clear hl
    go_enter Try.func107, Try.ntmps107
    go_wp2_with fail
    refine wp_region_qgro rfl (by kernel_rfl) ?_
    have h0 : (0 : Int) ≤ (n : Int) := by omega
    have h1 : (n : Int) ≤ (cap : Int) := by omega
    have h2 : (n : Int) < (n : Int) + 1 := by omega
    repeat go_big_quiet_step ((go_at_call 107; exact gro_call (HC.out _ (Hrd.out _))))
    refine wpQuiet_nil ?_
    rintro _ ⟨p, rfl⟩
    go_wp2
    go_ret
    exact ⟨ret_val (by rw [Hnum.out]; rfl), below_gro w p⟩
end Go.Proofs.Ytcfkapoppmpehaa

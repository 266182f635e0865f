/-
  What a call of the definition's Digits gives, at cubes.
-/
import Derived.Test.YtcfkapoppmpehaaRootA
namespace Go.Proofs.Ytcfkapoppmpehaa
open Go.RowKit

theorem cube_ints (hi x lo p : Nat) (hc1 : hi * x < 1125899906842624) : (hi : Int) * (x : Int) + ((lo * x / 18446744073709551616 : Nat) : Int) = ((hi * x + lo * x / 18446744073709551616 : Nat) : Int) ∧
    (hi : Int) * (x : Int) < 1125899906842624 ∧ (0 : Int) ≤ (hi : Int) * (x : Int) ∧ ((p : Int) * 4294967296) = ((p * 4294967296 : Nat) : Int) := by
  refine ⟨by rw [Int.natCast_add, Int.natCast_mul], ?_, ?_, by omega⟩
  · rw [← Int.natCast_mul]; omega
  · rw [← Int.natCast_mul]; omega
set_option maxHeartbeats 1000000 in
theorem digits_cube (p : Nat) (hp : p < 512) (w : World) :
    Calls Try.prog 54 #[.int .u64 p, .bool true] w fun e w' => e = .returned (wv (rootW p true)) ∧ w = w' := by
  go_enter Try.func54, Try.ntmps54
  go_wp2_with fail
  go_loop [5, 6] (fun r b => ∃ j : Nat, j ≤ 37 ∧ r = .int .u64 (rootTo p true j : Nat) ∧ b = .int .u64 (bitOf j : Nat)) (fun _ b => (intOf b).toNat)
  case atStart => exact ⟨0, by omega, rfl, rfl⟩
  case round =>
    obtain ⟨j, hj, rfl, rfl⟩ := hrel
    by_cases hlt : j < 37
    · have hpos := bitOf_pos j hlt
      have hble := bitOf_le j
      have hb := root_bounds p true j hlt
      have Hn := Lib.hid (show ((bitOf j : Nat) : Int) / 2 = ((bitOf (j + 1) : Nat) : Int) from by rw [← bitOf_next]; rfl)
      have Hst := Lib.hid (show rootTo p true (j + 1) = if fits p (rootTo p true j + bitOf j) true = true then rootTo p true j + bitOf j else rootTo p true j from rfl)
      have Hwd := Lib.hid (cube_words p (rootTo p true j + bitOf j))
      have HM := Lib.hid (mul64_same (rootTo p true j + bitOf j) (rootTo p true j + bitOf j) (by omega) (by omega) w)
      have hh := sq_hi _ hb
      have hll := Nat.mod_lt ((rootTo p true j + bitOf j) * (rootTo p true j + bitOf j)) (show 0 < 18446744073709551616 by omega)
      have Hx := Lib.hid (show ((rootTo p true j : Nat) : Int) + ((bitOf j : Nat) : Int) = ((rootTo p true j + bitOf j : Nat) : Int) from (Int.natCast_add _ _).symm)
      have hg : decide ((0 : Int) < ((bitOf j : Nat) : Int)) = true := decide_eq_true (by omega)
      generalize hf : fits p (rootTo p true j + bitOf j) true = f at *
      have hsum : ((rootTo p true j : Nat) : Int) + ((bitOf j : Nat) : Int) < 274877906944 := by omega
      generalize hb2 : bitOf (j + 1) = b2 at *
      have Hb2 := Lib.hid hb2
      clear hb2
      generalize hb0 : bitOf j = b at *
      generalize hr2 : rootTo p true (j + 1) = r2 at *
      have Hr2 := Lib.hid hr2
      clear hr2
      generalize rootTo p true j = r at *
      generalize r + b = x at *
      generalize x * x / 18446744073709551616 = hi at *
      generalize x * x % 18446744073709551616 = lo at *
      clear hf hb0
      obtain ⟨hc1, hc2⟩ := cube_hi hi x lo hb hh hll
      have hlx := Nat.mod_lt (lo * x) (show 0 < 18446744073709551616 by omega)
      have HM2 := Lib.hid (mul64_same lo x hll (by omega) w)
      obtain ⟨Hm0, hm1, hm0, Hsh0⟩ := cube_ints hi x lo p hc1
      have Hm := Lib.hid Hm0
      have Hsh := Lib.hid Hsh0
      clear Hm0 Hsh0
      go_wp2_with fail
      rw [Hx.out]
      refine HM.out.mono ?_
      rintro e w' ⟨rfl, rfl⟩
      clear hsum
      go_wp2_with fail
      refine HM2.out.mono ?_
      rintro e w' ⟨rfl, rfl⟩
      generalize lo * x / 18446744073709551616 = cy at *
      generalize lo * x % 18446744073709551616 = l2 at *
      clear HM HM2 hll
      go_upto_region 11 with fail
      rw [Hm.out, Hsh.out]
      clear hm0 hm1
      clear hc1 hc2 hlx hh
      obtain ⟨h2, hh2⟩ : ∃ n, hi * x + cy = n := ⟨_, rfl⟩
      obtain ⟨m2, hm2⟩ : ∃ n, p * 4294967296 = n := ⟨_, rfl⟩
      rw [hh2, hm2] at Hwd
      rw [hh2, hm2]
      clear hh2 hm2
      rcases cmp3 _ _ _ f Hwd.out with ⟨hf, c1⟩ | ⟨hf, c1, c2, c3⟩ | ⟨hf, c1, c2, c3⟩ | ⟨hf, c1, c2⟩
      all_goals
        rw [hf] at Hst
        try have c1i := Int.not_lt.1 (of_decide_eq_false c1)
        try have c1j := of_decide_eq_true c1
        go_wp2_with fail
        go_round
        case rel => exact ⟨j + 1, by omega, by rw [Hr2.out, Hst.out]; rfl, by rw [Hb2.out, ← Hn.out]⟩
        case measure => simp [intOf]; omega
    · obtain rfl : j = 37 := by omega
      have hz := bitOf_end
      rw [hz]
      clear hz
      have hrw : Hid (∀ n : Nat, wv (BitVec.ofNat 32 n) = .int .u32 ((n : Int) % 4294967296)) := Lib.hid fun n => by show Value.int _ _ = _; rw [BitVec.toNat_ofNat]; rfl
      have HR := Lib.hid (show rootW p true = BitVec.ofNat 32 (rootTo p true 37) from rfl)
      generalize rootTo p true 37 = r at *
      go_wp2_with fail
      go_ret
      exact ⟨ret_val (by rw [HR.out, hrw.out]; rfl), rfl⟩
end Go.Proofs.Ytcfkapoppmpehaa

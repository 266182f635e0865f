/-
  What a call of the definition's Prime gives.
-/
import Derived.Test.YtcfkapoppmpehaaRootA
namespace Go.Proofs.Ytcfkapoppmpehaa
open Go.RowKit

theorem cnt_lt (n : Nat) (h2 : 2 ≤ n) (hp : isP n = true) (m : Nat) (h : n < m) : cnt n < cnt m := by
  have := cnt_mono (n + 1) (m - (n + 1))
  rw [show n + 1 + (m - (n + 1)) = m by omega, cnt, if_pos ⟨h2, hp⟩] at this
  omega
set_option maxHeartbeats 1000000 in
theorem prime_any (k : Nat) (hk : k < 64) (w : World) :
    Calls Try.prog 55 #[.int .i64 k] w fun e w' => e = .returned (.int .u64 (pr k : Nat)) ∧ w = w' := by
  obtain ⟨hp2, hp311, hpp, hpc⟩ := pr_facts k hk
  have hcp : ∀ n, 2 ≤ n → isP n = true → n < pr k → cnt n < k := fun n h1 h2 h3 => by have := cnt_lt n h1 h2 _ h3; omega
  replace hcp := Lib.hid hcp
  replace hpp := Lib.hid hpp
  replace hpc := Lib.hid hpc
  obtain ⟨P, hP⟩ : ∃ n, pr k = n := ⟨_, rfl⟩
  rw [hP] at hp2 hp311 hpp hpc hcp ⊢
  replace hP := Lib.hid hP
  go_enter Try.func55, Try.ntmps55
  go_wp2_with fail
  go_loop [0, 3] (fun a b => ∃ n : Nat, 2 ≤ n ∧ n ≤ P ∧ a = .int .i64 (k - cnt n : Nat) ∧ b = .int .u64 n) (fun _ b => P - (intOf b).toNat)
  case atStart => exact ⟨2, by omega, hp2, by rw [show cnt 2 = 0 from rfl]; rfl, rfl⟩
  case round =>
    obtain ⟨n, hn2, hnp, rfl, rfl⟩ := hrel
    go_wp2_with fail
    go_loop [4, 5] (fun a b => ∃ d : Nat, 2 ≤ d ∧ (∀ e, 2 ≤ e → e < d → e * e ≤ n) ∧ a = .int .i64 (dv n d : Nat) ∧ b = .int .u64 d) (fun _ b => 400 - (intOf b).toNat)
    case atStart => exact ⟨2, by omega, fun e h1 h2 => by omega, by rw [dv_two]; rfl, rfl⟩
    case round =>
      obtain ⟨d, hd2, hall, rfl, rfl⟩ := hrel
      have hd : d ≤ 18 := by
        rcases Nat.lt_or_ge 18 d with h | h
        · have := hall 18 (by omega) h; omega
        · exact h
      have hdd : d * d ≤ 324 := by have := Nat.mul_le_mul hd hd; omega
      have Hdd := Lib.hid (Int.natCast_mul d d).symm
      by_cases hle : d * d ≤ n
      · have hg : decide ((d : Int) * (d : Int) ≤ (n : Int)) = true := decide_eq_true (by rw [← Int.natCast_mul]; omega)
        have hdl := dv_le n d
        by_cases hz : n % d = 0
        · have hst := Lib.hid (dv_step n d hd2)
          replace hall := Lib.hid hall
          replace hle := Lib.hid hle
          have hgz : ((n : Int) % (d : Int) == 0) = true := by rw [← Int.natCast_emod, hz]; rfl
          replace hz := Lib.hid hz
          go_wp2_with fail
          refine ⟨⟨d + 1, by omega, fun e h1 h2 => ?_, by rw [hst.out, if_pos hz.out]; rfl, rfl⟩, by simp [intOf]; omega⟩
          rcases Nat.lt_or_ge e d with h | h
          · exact hall.out e h1 h
          · have : e = d := by omega
            subst this; exact hle.out
        · have hst := Lib.hid (dv_step n d hd2)
          replace hall := Lib.hid hall
          replace hle := Lib.hid hle
          have hgz : ((n : Int) % (d : Int) == 0) = false := by rw [← Int.natCast_emod, beq_eq_false_iff_ne]; omega
          replace hz := Lib.hid hz
          go_wp2_with fail
          refine ⟨⟨d + 1, by omega, fun e h1 h2 => ?_, by rw [hst.out, if_neg hz.out]; rfl, rfl⟩, by simp [intOf]; omega⟩
          rcases Nat.lt_or_ge e d with h | h
          · exact hall.out e h1 h
          · have : e = d := by omega
            subst this; exact hle.out
      · have hg : decide ((d : Int) * (d : Int) ≤ (n : Int)) = false := decide_eq_false (by rw [← Int.natCast_mul]; omega)
        have hdv := dv_isP n d (by omega) (by omega) hall
        have hcs : cnt (n + 1) = cnt n + if 2 ≤ n ∧ isP n = true then 1 else 0 := rfl
        have hkc : n < P → isP n = true → cnt n < k := fun h1 h2 => hcp.out n hn2 h2 h1
        by_cases hi : isP n = true
        · rw [hi] at hdv
          have hgd : dv n d = 0 := by have := of_decide_eq_false hdv; omega
          rw [if_pos ⟨hn2, hi⟩] at hcs
          replace hall := Lib.hid hall
          by_cases hlt : n < P
          · have hk1 := hkc hlt hi
            replace hcs := Lib.hid hcs
            have hgk : ((((k - cnt n : Nat) : Int)) == 0) = false := by rw [beq_eq_false_iff_ne]; omega
            clear hdv hkc
            go_wp2_with fail
            all_goals try (exfalso; omega)
            refine ⟨⟨n + 1, by omega, by omega, ?_, rfl⟩, by simp [intOf]; omega⟩
            rw [hcs.out]
            congr 1
            omega
          · obtain rfl : n = P := by omega
            replace hcs := Lib.hid hcs
            have hgk : ((((k - cnt n : Nat) : Int)) == 0) = true := by rw [hpc.out]; simp
            clear hdv hkc
            go_wp2_with fail
            all_goals try (exfalso; omega)
            go_ret
            exact ⟨ret_val rfl, rfl⟩
        · rw [Bool.not_eq_true] at hi
          rw [hi] at hdv
          have hgd : 0 < dv n d := of_decide_eq_true hdv
          rw [if_neg (by rw [hi]; simp)] at hcs
          replace hall := Lib.hid hall
          have hnp2 : n < P := by
            rcases Nat.lt_or_ge n P with h | h
            · exact h
            · obtain rfl : n = P := by omega
              have := hpp.out
              rw [hi] at this; cases this
          replace hcs := Lib.hid hcs
          clear hdv hkc
          go_wp2_with fail
          all_goals try (exfalso; omega)
          refine ⟨⟨n + 1, by omega, by omega, ?_, rfl⟩, by simp [intOf]; omega⟩
          rw [hcs.out]
          rfl
end Go.Proofs.Ytcfkapoppmpehaa

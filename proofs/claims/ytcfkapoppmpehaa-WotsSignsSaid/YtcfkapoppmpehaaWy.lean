/-
  What a seed signs leads to its key; the self-test of the laws of layer 6.
-/
import Derived.Test.YtcfkapoppmpehaaWx
import Derived.Test.YtcfkapoppmpehaaKk
namespace Go.Proofs.Ytcfkapoppmpehaa
open Go.RowKit Go.Shelf

theorem recP_sign (x m : List UInt8) (hm : m.length = 32) (i : Nat) (hi : i < 67) : recP m (signW x m) i = endW x i := by
  have hd := digN_at m hm i
  have e : (signW x m).getD i [] = walkW (startW x i) i 0 ((digN m).getD i 0) := by simp [signW, hi, sigW]
  rw [recP, e, endW]
  have h := walkW_add (startW x i) i 0 ((digN m).getD i 0) (15 - (digN m).getD i 0)
  rw [Nat.zero_add] at h
  rw [← h]
  congr 1
  omega
theorem recW_sign (x m : List UInt8) (hm : m.length = 32) : recW m (signW x m) = keyW x := by
  rw [recW, keyW]
  congr 1
  exact List.map_congr_left fun i hi => recP_sign x m hm i (List.mem_range.1 hi)
def two32 : List UInt8 := 2 :: List.replicate 31 0
def three32 : List UInt8 := 3 :: List.replicate 31 0
@[go_sem] theorem build24_two (w : World) : (Instr.build 24 #[(0, .int .u8 2)]).run Try.prog w = .ok (bagg two32) w := run_build w 24 _ _ (by kernel_rfl)
@[go_sem] theorem build24_three (w : World) : (Instr.build 24 #[(0, .int .u8 3)]).run Try.prog w = .ok (bagg three32) w := run_build w 24 _ _ (by kernel_rfl)
theorem dig_zero : digN z32 = List.replicate 64 0 ++ [3, 12, 0] := by kernel_rfl
theorem keys_differ : decide (keyW one32 = keyW three32) = false := decide_eq_false keys_unlike

set_option maxRecDepth 100000 in
set_option maxHeartbeats 1000000 in
theorem wakes06 (w : World) :
    Calls Try.prog 58 #[] w fun e w' => e = .returned (.bool true) ∧ Below w.heap.size w w' := by
  have hB := build24_zero
  have HDg := Lib.hid (digits_any z32 rfl)
  have HS := Lib.hid (sign67_any one32 two32 rfl rfl)
  have HK1 := Lib.hid (key70_any one32 rfl)
  have HK3 := Lib.hid (key70_any three32 rfl)
  have hs67 := signW_length one32 two32
  have HV1 := Lib.hid (fun sv w h => verify_ok (keyW one32) two32 (keyOf_length _) rfl sv (signW one32 two32) hs67 w h)
  have HV3 := Lib.hid (fun sv w h => verify_ok (keyW three32) two32 (keyOf_length _) rfl sv (signW one32 two32) hs67 w h)
  rw [recW_sign one32 two32 rfl] at HV1 HV3
  rw [keys_differ] at HV3
  rw [show decide (keyW one32 = keyW one32) = true from decide_eq_true rfl] at HV1
  rw [dig_zero] at HDg
  generalize keyW one32 = k1 at *
  generalize keyW three32 = k3 at *
  generalize signW one32 two32 = sg at *
  go_enter Try.func58, Try.ntmps58
  go_wp2_with fail
  refine (HDg.out w).mono ?_
  rintro e w1 ⟨v, rfl, hod, hb1⟩
  obtain ⟨da, dc, rfl, hdc, hdr⟩ := hod.rd
  obtain ⟨db, d0, rfl, hcell⟩ := hdr (by simp)
  have c0 : w1.cell? ⟨db, d0, none⟩ = some (.int .i64 0) := hcell 0 (by simp)
  have c64 : w1.cell? ⟨db, d0 + 64, none⟩ = some (.int .i64 3) := hcell 64 (by simp)
  have c65 : w1.cell? ⟨db, d0 + 65, none⟩ = some (.int .i64 12) := hcell 65 (by simp)
  have c66 : w1.cell? ⟨db, d0 + 66, none⟩ = some (.int .i64 0) := hcell 66 (by simp)
  clear hcell hdr hod HDg
  rw [show (List.replicate 64 0 ++ [3, 12, 0] : List Nat).length = 67 from rfl] at hdc ⊢
  dsimp only
  go_wp2_with fail
  refine (show Calls Try.prog 67 #[bagg one32, bagg two32] w1 _ from (HS.out w1).mono ?_)
  rintro e w2 ⟨v2, rfl, hos, hb2⟩
  have hrs := hos.rd
  obtain ⟨sa, sc, rfl, hsc, hrest⟩ := hrs
  have hrs : RdI w2 (.slice sa sg.length sc) sg := ⟨sa, sc, rfl, hsc, hrest⟩
  rw [hs67] at hrs ⊢
  have hbw2 := hb1.trans (hb2.mono hb1.size)
  clear hrest hos hb2 hsc c0 c64 c65 c66 hb1 HS
  replace hs67 := Lib.hid hs67
  dsimp only
  go_wp2_with fail
  refine (show Calls Try.prog 70 #[bagg one32] w2 _ from (HK1.out w2).mono ?_)
  rintro e w3 ⟨rfl, hb3⟩
  have hr3 := hrs.mono hb3
  have hbw3 := hbw2.trans (hb3.mono hbw2.size)
  clear hrs hbw2 hb3 HK1
  dsimp only
  go_wp2_with fail
  refine (show Calls Try.prog 73 #[bagg k1, bagg two32, _] w3 _ from (HV1.out _ w3 hr3).mono ?_)
  rintro e w4 ⟨rfl, hb4⟩
  have hr4 := hr3.mono hb4
  have hbw4 := hbw3.trans (hb4.mono hbw3.size)
  clear hr3 hbw3 hb4 HV1
  dsimp only
  go_wp2_with fail
  refine (show Calls Try.prog 70 #[bagg three32] w4 _ from (HK3.out w4).mono ?_)
  rintro e w5 ⟨rfl, hb5⟩
  have hr5 := hr4.mono hb5
  have hbw5 := hbw4.trans (hb5.mono hbw4.size)
  clear hr4 hbw4 hb5 HK3
  dsimp only
  go_wp2_with fail
  refine (show Calls Try.prog 73 #[bagg k3, bagg two32, _] w5 _ from (HV3.out _ w5 hr5).mono ?_)
  rintro e w6 ⟨rfl, hb6⟩
  have hbw6 := hbw5.trans (hb6.mono hbw5.size)
  clear hr5 hbw5 hb6 HV3
  dsimp only
  go_wp2_with fail
  go_ret
  exact ⟨ret_val rfl, hbw6⟩
end Go.Proofs.Ytcfkapoppmpehaa

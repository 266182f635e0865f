/-
  WotsChains: starts, steps and walks of chains: the walk.
-/
import Derived.Test.YtcfkapoppmpehaaL19
import Derived.Test.YtcfkapoppmpehaaOpb
import Derived.Deep.DeepCutAuto
namespace Go.Proofs.Ytcfkapoppmpehaa
open Go.RowKit Go.Shelf

def zero82 : Array Value := (zero24.toList ++ [Value.int .i64 0, Value.int .i64 0, Value.int .i64 0]).toArray
theorem start_two (x : List UInt8) (hx : x.length = 32) (c : Int) : ∃ (a : List UInt8) (e : Int), a.length = 32 ∧ (∀ w, Calls Try.prog 61 #[bagg x, .int .i64 c] w fun e' w' => e' = .returned (.tuple #[bagg a, .int .i64 e]) ∧ Below w.heap.size w w') ∧
    (((0 ≤ c ∧ c < 67) ∧ a = startW x c.toNat ∧ e = 0) ∨ (¬ (0 ≤ c ∧ c < 67) ∧ a = z32 ∧ e = 2)) := by
  by_cases h : 0 ≤ c ∧ c < 67
  · obtain ⟨n, rfl⟩ := Int.eq_ofNat_of_zero_le h.1
    exact ⟨startW x n, 0, startW_length _ _, fun w => start61_any x hx n (by omega) w, .inl ⟨h, rfl, rfl⟩⟩
  · exact ⟨z32, 2, rfl, fun w => start61_err x c h w, .inr ⟨h, rfl, rfl⟩⟩
theorem step_two (x : List UInt8) (hx : x.length = 32) (c f : Int) : ∃ (a : List UInt8) (e : Int), a.length = 32 ∧ (∀ w, Calls Try.prog 62 #[bagg x, .int .i64 c, .int .i64 f] w fun e' w' => e' = .returned (.tuple #[bagg a, .int .i64 e]) ∧ Below w.heap.size w w') ∧
    (((0 ≤ c ∧ c < 67 ∧ 0 ≤ f ∧ f < 15) ∧ a = stepW x c.toNat f.toNat ∧ e = 0) ∨ (¬ (0 ≤ c ∧ c < 67 ∧ 0 ≤ f ∧ f < 15) ∧ a = z32 ∧ e = 2)) := by
  by_cases h : 0 ≤ c ∧ c < 67 ∧ 0 ≤ f ∧ f < 15
  · obtain ⟨n, rfl⟩ := Int.eq_ofNat_of_zero_le h.1
    obtain ⟨m, rfl⟩ := Int.eq_ofNat_of_zero_le h.2.2.1
    exact ⟨stepW x n m, 0, stepW_length _ _ _, fun w => step62_any x hx n m (by omega) (by omega) w, .inl ⟨h, rfl, rfl⟩⟩
  · exact ⟨z32, 2, rfl, fun w => step62_err x c f h w, .inr ⟨h, rfl, rfl⟩⟩
theorem chain_two (x : List UInt8) (hx : x.length = 32) (c f t : Int) : ∃ (a : List UInt8) (e : Int), a.length = 32 ∧ (∀ w, Calls Try.prog 63 #[bagg x, .int .i64 c, .int .i64 f, .int .i64 t] w fun e' w' => e' = .returned (.tuple #[bagg a, .int .i64 e]) ∧ Below w.heap.size w w') ∧
    (((0 ≤ c ∧ c < 67 ∧ 0 ≤ f ∧ f ≤ t ∧ t ≤ 15) ∧ a = walkW x c.toNat f.toNat (t.toNat - f.toNat) ∧ e = 0) ∨ (¬ (0 ≤ c ∧ c < 67 ∧ 0 ≤ f ∧ f ≤ t ∧ t ≤ 15) ∧ a = z32 ∧ e = 2)) := by
  by_cases h : 0 ≤ c ∧ c < 67 ∧ 0 ≤ f ∧ f ≤ t ∧ t ≤ 15
  · obtain ⟨n, rfl⟩ := Int.eq_ofNat_of_zero_le h.1
    obtain ⟨m, rfl⟩ := Int.eq_ofNat_of_zero_le h.2.2.1
    obtain ⟨l, rfl⟩ := Int.eq_ofNat_of_zero_le (show 0 ≤ t by omega)
    exact ⟨walkW x n m (l - m), 0, walkW_length _ _ _ _ hx, fun w => chain63_any x hx n m l (by omega) (by omega) (by omega) w, .inl ⟨h, rfl, rfl⟩⟩
  · exact ⟨z32, 2, rfl, fun w => chain63_err x c f t h w, .inr ⟨h, rfl, rfl⟩⟩

/-- A walk that lies in a box. -/
def BoxW (X : Nat) (x : List UInt8) (ch fr tt : Int) (w : World) : Prop :=
  w.rangeAt X 0 (x.map bv) ∧ w.cell? ⟨X, 32, none⟩ = some (.int .i64 ch) ∧ w.cell? ⟨X, 33, none⟩ = some (.int .i64 fr) ∧ w.cell? ⟨X, 34, none⟩ = some (.int .i64 tt)
theorem BoxW.mono {X : Nat} {x : List UInt8} {ch fr tt : Int} {w w' : World} (h : BoxW X x ch fr tt w) (hb : Below w.heap.size w w') : BoxW X x ch fr tt w' :=
  have hl := block_lt_of_cell h.2.1
  ⟨fun j u hu => (hb.cell (p := ⟨X, 0 + j, none⟩) hl).trans (h.1 j u hu), (hb.cell (p := ⟨X, 32, none⟩) hl).trans h.2.1, (hb.cell (p := ⟨X, 33, none⟩) hl).trans h.2.2.1, (hb.cell (p := ⟨X, 34, none⟩) hl).trans h.2.2.2⟩

set_option maxRecDepth 100000 in
set_option maxHeartbeats 2000000 in
theorem wotsChains_any (v : Value) (ts : List Wk6) (w : World) (hv : RdRows 35 Wk6.row Wk6.good w v ts) :
    Calls Try.prog 14 #[v] w fun e w' => e = .returned (.bool true) ∧ Below w.heap.size w w' := by
  obtain ⟨ad, cap, rfl, hc, hlm, hgood, hr⟩ := hv
  go_enter Try.func14, Try.ntmps14
  go_wp2_with fail
  refine (wakes06 w).mono ?_
  rintro e w3 ⟨rfl, hb3⟩
  dsimp only
  go_wp2_with fail
  go_loopw [16] (fun i wr => ∃ k : Nat, k ≤ 20 ∧ k ≤ ts.length ∧ i = .int .i64 k ∧ Below w.heap.size w wr) (fun i _ => 21 - (intOf i).toNat)
  case atStart => exact ⟨0, by omega, by omega, rfl, hb3⟩
  case round =>
    clear hb3
    obtain ⟨k, hk, hkl, rfl, hbr⟩ := hrel
    by_cases hlt : k < ts.length
    · obtain ⟨bk, o, rfl, hrange⟩ := hr (by omega)
      have hg : decide ((k : Int) < (ts.length : Int)) = true := decide_eq_true (by omega)
      have hrow := hrange k hlt
      have hgc := hgood k hlt
      generalize ts.getD k default = c at *
      obtain ⟨x, ch, fr, tt⟩ := c
      simp only [Wk6.good] at hgc
      have hx : x.length = 32 := hgc
      simp only [Wk6.row] at hrow
      have hrl : (x.map bv ++ [Value.int .i64 ch, .int .i64 fr, .int .i64 tt]).length = 35 := by simp [hx]
      have hltb : bk < w.heap.size := block_lt_of_cell (hrow 0 _ (by simp [hx]; rfl))
      have hrw : wr.rangeAt bk (o + k * 35) (x.map bv ++ [Value.int .i64 ch, .int .i64 fr, .int .i64 tt]) := fun j u hu => by
        rw [hbr.cell (by show bk < _; exact hltb)]; exact hrow j u hu
      have hone : ((x.map bv ++ [Value.int .i64 ch, .int .i64 fr, .int .i64 tt]).toArray).all (·.oneCell') = true := by simp [Value.oneCell']
      generalize hrowdef : x.map bv ++ [Value.int .i64 ch, .int .i64 fr, .int .i64 tt] = row at *
      have hri : (Try.prog.info? 82).map (·.size) = some row.toArray.size := by rw [List.size_toArray, hrl]; kernel_rfl
      have hrs : zero82.size = row.toArray.size := by show _ = row.length; rw [hrl]; rfl
      clear hrange hrow hr hgood hgc
      replace hrowdef := Lib.hid hrowdef
      go_upto_region 6 with (first
        | (refine wpList_load_mid rfl 82 (.tmp 19) rfl bk (o + k * 35) rfl row (.struct (Try.prog.fieldsOf 82)) hrw (by kernel_rfl) rfl (by rw [hrl]; kernel_rfl) ?_)
        | (refine wpList_store_new rfl 82 (.tmp 4) (.tmp 20) rfl _ _ row.toArray rfl rfl hri hrs hone ?_))
      have hX : (wr.alloc (Obj.cells row.toArray 82)).heap[wr.heap.size]? = some (.cells row.toArray 82 (0, 0)) := heap_alloc_new wr _
      have hbw := hbr.alloc hbr.size (Obj.cells row.toArray 82)
      generalize wr.alloc (Obj.cells row.toArray 82) = w4 at *
      generalize wr.heap.size = X at *
      clear hrw hri hrs hone hbr
      have c32 : w4.cell? ⟨X, 32, none⟩ = some (.int .i64 ch) := by rw [cell_of_row _ _ _ _ _ _ hX, ← hrowdef.out]; simp [hx]
      have c33 : w4.cell? ⟨X, 33, none⟩ = some (.int .i64 fr) := by rw [cell_of_row _ _ _ _ _ _ hX, ← hrowdef.out]; simp [hx]
      have c34 : w4.cell? ⟨X, 34, none⟩ = some (.int .i64 tt) := by rw [cell_of_row _ _ _ _ _ _ hX, ← hrowdef.out]; simp [hx]
      have r0 : w4.rangeAt X 0 (x.map bv) := fun j u hu => by
        rw [Nat.zero_add, cell_of_row _ _ _ _ _ _ hX, ← hrowdef.out]
        have := (List.getElem?_eq_some_iff.1 hu).1
        simp only [List.getElem?_toArray]
        rw [List.getElem?_append_left this, hu]
      have hBX : BoxW X x ch fr tt w4 := ⟨r0, c32, c33, c34⟩
      clear hX hrl hrowdef c32 c33 c34 r0
      by_cases h20 : k = 20
      · subst h20
        have h20 : (((20 : Nat) : Int) == 20) = true := by decide
        go_wp2_with fail
        go_ret
        exact ⟨ret_val rfl, hbw⟩
      · have h20 : ((k : Int) == 20) = false := by simp; omega
        have hk20 : k < 20 := by omega
        go_upto_region 7 with fail
        obtain ⟨ra, ra_e, hra, ra_call, ra_case⟩ := start_two x hx ch
        replace ra_call := Lib.hid ra_call
        replace ra_case := Lib.hid ra_case
        obtain ⟨r0, c32, c33, c34⟩ := hBX
        go_wp2_with (refine wpList_load_mid rfl 24 (.tmp 24) rfl X 0 rfl (x.map bv) (.array 32 5) r0 (by kernel_rfl) rfl (by rw [List.length_map, hx]; kernel_rfl) ?_)
        refine (ra_call.out w4).mono ?_
        rintro e w5 ⟨rfl, hb5⟩
        have hBX : BoxW X x ch fr tt w5 := BoxW.mono ⟨r0, c32, c33, c34⟩ hb5
        replace hbw := hbw.trans (hb5.mono hbw.size)
        clear r0 c32 c33 c34 hb5 ra_call
        dsimp only
        go_upto_region 8 with (refine wpList_store_new rfl 24 (.tmp 5) (.tmp 29) rfl _ _ (ra.map bv).toArray rfl rfl (id_info ra hra) (id_size ra hra).symm (id_one ra) ?_)
        have hRA : (w5.alloc (Obj.cells (ra.map bv).toArray 24)).heap[w5.heap.size]? = some (.cells (ra.map bv).toArray 24 (0, 0)) := heap_alloc_new w5 _
        have hb6 : Below w5.heap.size w5 (w5.alloc (Obj.cells (ra.map bv).toArray 24)) := (Below.refl _ _).alloc (Nat.le_refl _) _
        replace hBX := hBX.mono hb6
        replace hbw := hbw.trans (hb6.mono hbw.size)
        generalize w5.alloc (Obj.cells (ra.map bv).toArray 24) = w6 at *
        generalize w5.heap.size = RAb at *
        clear hb6
        obtain ⟨rb, rb_e, hrb, rb_call, rb_case⟩ := step_two x hx ch fr
        replace rb_call := Lib.hid rb_call
        replace rb_case := Lib.hid rb_case
        obtain ⟨r0, c32, c33, c34⟩ := hBX
        go_wp2_with (refine wpList_load_mid rfl 24 (.tmp 32) rfl X 0 rfl (x.map bv) (.array 32 5) r0 (by kernel_rfl) rfl (by rw [List.length_map, hx]; kernel_rfl) ?_)
        refine (rb_call.out w6).mono ?_
        rintro e w7 ⟨rfl, hb7⟩
        have hBX : BoxW X x ch fr tt w7 := BoxW.mono ⟨r0, c32, c33, c34⟩ hb7
        replace hRA := (hb7.block _ (Array.getElem?_eq_some_iff.1 hRA).1).trans hRA
        replace hbw := hbw.trans (hb7.mono hbw.size)
        clear r0 c32 c33 c34 hb7 rb_call
        dsimp only
        go_upto_region 9 with (refine wpList_store_new rfl 24 (.tmp 7) (.tmp 39) rfl _ _ (rb.map bv).toArray rfl rfl (id_info rb hrb) (id_size rb hrb).symm (id_one rb) ?_)
        have hRB : (w7.alloc (Obj.cells (rb.map bv).toArray 24)).heap[w7.heap.size]? = some (.cells (rb.map bv).toArray 24 (0, 0)) := heap_alloc_new w7 _
        have hb8 : Below w7.heap.size w7 (w7.alloc (Obj.cells (rb.map bv).toArray 24)) := (Below.refl _ _).alloc (Nat.le_refl _) _
        replace hBX := hBX.mono hb8
        replace hRA := (hb8.block _ (Array.getElem?_eq_some_iff.1 hRA).1).trans hRA
        replace hbw := hbw.trans (hb8.mono hbw.size)
        generalize w7.alloc (Obj.cells (rb.map bv).toArray 24) = w8 at *
        generalize w7.heap.size = RBb at *
        clear hb8
        obtain ⟨rc, rc_e, hrc, rc_call, rc_case⟩ := chain_two x hx ch fr tt
        replace rc_call := Lib.hid rc_call
        replace rc_case := Lib.hid rc_case
        obtain ⟨r0, c32, c33, c34⟩ := hBX
        go_wp2_with (refine wpList_load_mid rfl 24 (.tmp 42) rfl X 0 rfl (x.map bv) (.array 32 5) r0 (by kernel_rfl) rfl (by rw [List.length_map, hx]; kernel_rfl) ?_)
        refine (rc_call.out w8).mono ?_
        rintro e w9 ⟨rfl, hb9⟩
        have hBX : BoxW X x ch fr tt w9 := BoxW.mono ⟨r0, c32, c33, c34⟩ hb9
        replace hRA := (hb9.block _ (Array.getElem?_eq_some_iff.1 hRA).1).trans hRA
        replace hRB := (hb9.block _ (Array.getElem?_eq_some_iff.1 hRB).1).trans hRB
        replace hbw := hbw.trans (hb9.mono hbw.size)
        clear r0 c32 c33 c34 hb9 rc_call
        dsimp only
        go_upto_region 10 with (refine wpList_store_new rfl 24 (.tmp 9) (.tmp 51) rfl _ _ (rc.map bv).toArray rfl rfl (id_info rc hrc) (id_size rc hrc).symm (id_one rc) ?_)
        have hRC : (w9.alloc (Obj.cells (rc.map bv).toArray 24)).heap[w9.heap.size]? = some (.cells (rc.map bv).toArray 24 (0, 0)) := heap_alloc_new w9 _
        have hb10 : Below w9.heap.size w9 (w9.alloc (Obj.cells (rc.map bv).toArray 24)) := (Below.refl _ _).alloc (Nat.le_refl _) _
        replace hBX := hBX.mono hb10
        replace hRA := (hb10.block _ (Array.getElem?_eq_some_iff.1 hRA).1).trans hRA
        replace hRB := (hb10.block _ (Array.getElem?_eq_some_iff.1 hRB).1).trans hRB
        replace hbw := hbw.trans (hb10.mono hbw.size)
        generalize w9.alloc (Obj.cells (rc.map bv).toArray 24) = w10 at *
        generalize w9.heap.size = RCb at *
        clear hb10
        go_cut [11] (fun s11 wx => ∃ b : Bool, s11 = .bool b ∧ b = decide (0 ≤ ch ∧ ch < 67) ∧ wx = w10)
        case first =>
          obtain ⟨r0, c32, c33, c34⟩ := hBX
          by_cases q2 : 0 ≤ ch
          · have gq2 : decide (0 ≤ ch) = true := decide_eq_true q2
            by_cases q1 : ch < 67
            · have gq1 : decide (ch < 67) = true := decide_eq_true q1
              go_wp2_with fail
              go_meet
              exact ⟨_, rfl, (decide_eq_true (p := 0 ≤ ch ∧ ch < 67) (by omega)).symm, rfl⟩
            · have gq1 : decide (ch < 67) = false := decide_eq_false q1
              go_wp2_with fail
              go_meet
              exact ⟨_, rfl, (decide_eq_false (p := 0 ≤ ch ∧ ch < 67) (by omega)).symm, rfl⟩
          · have gq2 : decide (0 ≤ ch) = false := decide_eq_false q2
            go_wp2_with fail
            go_meet
            exact ⟨_, rfl, (decide_eq_false (p := 0 ≤ ch ∧ ch < 67) (by omega)).symm, rfl⟩
        case rest =>
          obtain ⟨bc, rfl, hbc, rfl⟩ := hcut
          replace hbc := Lib.hid hbc
          go_upto_if 61 with fail
          go_cut [] (fun wx => Below wc.heap.size wc wx)
          case first =>
            by_cases hP : 0 ≤ ch ∧ ch < 67
            · obtain rfl := hbc.out.trans (decide_eq_true hP)
              rcases ra_case.out with ⟨-, hra, rfl⟩ | ⟨hn, -, -⟩
              · obtain ⟨cn, hcn⟩ := Int.eq_ofNat_of_zero_le hP.1
                subst hcn
                rw [Int.toNat_natCast] at hra
                have HL := Lib.hid (fun w => start64_any x hx cn (by omega) w)
                rw [← hra] at HL
                clear hra
                have rR := Lib.hid (range_gro hra hRA)
                have rX := Lib.hid (fun p => (hBX.mono (below_gro wc p)).1)
                have e32 := gro_cell hBX.2.1
                have e33 := gro_cell hBX.2.2.1
                have e34 := gro_cell hBX.2.2.2
                have hEq := Lib.hid (equal_self _ hra)
                go_wp2_with fail
                refine wp_region_qgro rfl (by kernel_rfl) ?_
                iterate 3 go_big_quiet_step (fail)
                refine wpQuiet_load_midg (by kernel_rfl) 24 (.tmp 5) rfl RAb 0 rfl (ra.map bv) (.array 32 5) (by rintro _ ⟨p, rfl⟩; exact rR.out p) (by kernel_rfl) rfl (by rw [List.length_map, hra]; kernel_rfl) ?_
                simp only [Act.put, List.setIfInBounds_toArray, List.set_cons_succ, List.set_cons_zero]
                go_big_quiet_step (fail)
                refine wpQuiet_load_midg (by kernel_rfl) 24 (.tmp 66) rfl X 0 rfl (x.map bv) (.array 32 5) (by rintro _ ⟨p, rfl⟩; exact rX.out p) (by kernel_rfl) rfl (by rw [List.length_map, hx]; kernel_rfl) ?_
                simp only [Act.put, List.setIfInBounds_toArray, List.set_cons_succ, List.set_cons_zero]
                go_big_quiet_step (fail)
                go_big_quiet_step (fail)
                go_big_quiet_step ((go_at_call 64; exact gro_call (HL.out _)))
                refine wpQuiet_neqr (by kernel_rfl) 24 24 (.tmp 65) (.tmp 70) rfl (by kernel_rfl) _ _ true rfl rfl hEq.out ?_
                simp only [Act.put, List.setIfInBounds_toArray, List.set_cons_succ, List.set_cons_zero]
                repeat go_big_quiet_step (fail)
                refine wpQuiet_nil ?_
                rintro _ ⟨p, rfl⟩
                simp only [Exit.then]
                go_wp2_with fail
                go_meet
                exact below_gro wc p
              · exact absurd hP hn
            · obtain rfl := hbc.out.trans (decide_eq_false hP)
              rcases ra_case.out with ⟨hn, -, -⟩ | ⟨-, hra, rfl⟩
              · exact absurd hn hP
              · have hEq := Lib.hid (equal_self z32 rfl)
                have hB := build24_zero
                subst hra
                go_wp2_with (first
                  | (refine wpList_load_rowg (by kernel_rfl) 24 (.tmp 5) rfl RAb rfl 24 _ (0, 0) (.array 32 5) hRA (by kernel_rfl) rfl (id_info z32 rfl) ?_)
                  | (refine wpList_neqr (by kernel_rfl) 24 24 (.tmp 76) (.tmp 77) rfl (by kernel_rfl) _ _ true rfl rfl hEq.out ?_))
                go_meet
                exact Below.refl _ _
          case rest =>
            replace hBX := hBX.mono hcut
            replace hRB := (hcut.block _ (Array.getElem?_eq_some_iff.1 hRB).1).trans hRB
            replace hRC := (hcut.block _ (Array.getElem?_eq_some_iff.1 hRC).1).trans hRC
            replace hbw := hbw.trans (hcut.mono hbw.size)
            clear hcut
            go_upto_region 16 with fail
            go_cut [90] (fun s90 wx => ∃ b : Bool, s90 = .bool b ∧ b = decide (0 ≤ ch ∧ ch < 67 ∧ 0 ≤ fr ∧ fr < 15) ∧ wx = wc)
            case first =>
              obtain ⟨r0, c32, c33, c34⟩ := hBX
              by_cases hC : 0 ≤ ch ∧ ch < 67
              · obtain rfl := hbc.out.trans (decide_eq_true hC)
                by_cases q2 : 0 ≤ fr
                · have gq2 : decide (0 ≤ fr) = true := decide_eq_true q2
                  by_cases q1 : fr < 15
                  · have gq1 : decide (fr < 15) = true := decide_eq_true q1
                    go_wp2_with fail
                    go_meet
                    exact ⟨_, rfl, (decide_eq_true (p := 0 ≤ ch ∧ ch < 67 ∧ 0 ≤ fr ∧ fr < 15) (by omega)).symm, rfl⟩
                  · have gq1 : decide (fr < 15) = false := decide_eq_false q1
                    go_wp2_with fail
                    go_meet
                    exact ⟨_, rfl, (decide_eq_false (p := 0 ≤ ch ∧ ch < 67 ∧ 0 ≤ fr ∧ fr < 15) (by omega)).symm, rfl⟩
                · have gq2 : decide (0 ≤ fr) = false := decide_eq_false q2
                  go_wp2_with fail
                  go_meet
                  exact ⟨_, rfl, (decide_eq_false (p := 0 ≤ ch ∧ ch < 67 ∧ 0 ≤ fr ∧ fr < 15) (by omega)).symm, rfl⟩
              · obtain rfl := hbc.out.trans (decide_eq_false hC)
                go_wp2_with fail
                go_meet
                exact ⟨_, rfl, (decide_eq_false (p := 0 ≤ ch ∧ ch < 67 ∧ 0 ≤ fr ∧ fr < 15) (by omega)).symm, rfl⟩
            case rest =>
              obtain ⟨bb, rfl, hbb, rfl⟩ := hcut
              replace hbb := Lib.hid hbb
              go_upto_if 90 with fail
              go_cut [] (fun wx => Below wc.heap.size wc wx)
              case first =>
                by_cases hP : 0 ≤ ch ∧ ch < 67 ∧ 0 ≤ fr ∧ fr < 15
                · obtain rfl := hbb.out.trans (decide_eq_true hP)
                  rcases rb_case.out with ⟨-, hra, rfl⟩ | ⟨hn, -, -⟩
                  · obtain ⟨cn, hcn⟩ := Int.eq_ofNat_of_zero_le hP.1
                    obtain ⟨fn, hfn⟩ := Int.eq_ofNat_of_zero_le hP.2.2.1
                    subst hcn hfn
                    rw [Int.toNat_natCast, Int.toNat_natCast] at hra
                    have HL := Lib.hid (fun w => step65_any x hx cn fn (by omega) (by omega) w)
                    rw [← hra] at HL
                    clear hra
                    have rR := Lib.hid (range_gro hrb hRB)
                    have rX := Lib.hid (fun p => (hBX.mono (below_gro wc p)).1)
                    have e32 := gro_cell hBX.2.1
                    have e33 := gro_cell hBX.2.2.1
                    have e34 := gro_cell hBX.2.2.2
                    have hEq := Lib.hid (equal_self _ hrb)
                    go_wp2_with fail
                    refine wp_region_qgro rfl (by kernel_rfl) ?_
                    iterate 3 go_big_quiet_step (fail)
                    refine wpQuiet_load_midg (by kernel_rfl) 24 (.tmp 7) rfl RBb 0 rfl (rb.map bv) (.array 32 5) (by rintro _ ⟨p, rfl⟩; exact rR.out p) (by kernel_rfl) rfl (by rw [List.length_map, hrb]; kernel_rfl) ?_
                    simp only [Act.put, List.setIfInBounds_toArray, List.set_cons_succ, List.set_cons_zero]
                    go_big_quiet_step (fail)
                    refine wpQuiet_load_midg (by kernel_rfl) 24 (.tmp 95) rfl X 0 rfl (x.map bv) (.array 32 5) (by rintro _ ⟨p, rfl⟩; exact rX.out p) (by kernel_rfl) rfl (by rw [List.length_map, hx]; kernel_rfl) ?_
                    simp only [Act.put, List.setIfInBounds_toArray, List.set_cons_succ, List.set_cons_zero]
                    go_big_quiet_step (fail)
                    go_big_quiet_step (fail)
                    go_big_quiet_step (fail)
                    go_big_quiet_step (fail)
                    go_big_quiet_step ((go_at_call 65; exact gro_call (HL.out _)))
                    refine wpQuiet_neqr (by kernel_rfl) 24 24 (.tmp 94) (.tmp 101) rfl (by kernel_rfl) _ _ true rfl rfl hEq.out ?_
                    simp only [Act.put, List.setIfInBounds_toArray, List.set_cons_succ, List.set_cons_zero]
                    repeat go_big_quiet_step (fail)
                    refine wpQuiet_nil ?_
                    rintro _ ⟨p, rfl⟩
                    simp only [Exit.then]
                    go_wp2_with fail
                    go_meet
                    exact below_gro wc p
                  · exact absurd hP hn
                · obtain rfl := hbb.out.trans (decide_eq_false hP)
                  rcases rb_case.out with ⟨hn, -, -⟩ | ⟨-, hra, rfl⟩
                  · exact absurd hn hP
                  · have hEq := Lib.hid (equal_self z32 rfl)
                    have hB := build24_zero
                    subst hra
                    go_wp2_with (first
                      | (refine wpList_load_rowg (by kernel_rfl) 24 (.tmp 7) rfl RBb rfl 24 _ (0, 0) (.array 32 5) hRB (by kernel_rfl) rfl (id_info z32 rfl) ?_)
                      | (refine wpList_neqr (by kernel_rfl) 24 24 (.tmp 107) (.tmp 108) rfl (by kernel_rfl) _ _ true rfl rfl hEq.out ?_))
                    go_meet
                    exact Below.refl _ _
              case rest =>
                replace hBX := hBX.mono hcut
                replace hRC := (hcut.block _ (Array.getElem?_eq_some_iff.1 hRC).1).trans hRC
                replace hbw := hbw.trans (hcut.mono hbw.size)
                clear hcut
                go_upto_region 21 with fail
                go_cut [128] (fun s128 wx => ∃ b : Bool, s128 = .bool b ∧ b = decide (0 ≤ ch ∧ ch < 67 ∧ 0 ≤ fr ∧ fr ≤ tt ∧ tt ≤ 15) ∧ wx = wc)
                case first =>
                  obtain ⟨r0, c32, c33, c34⟩ := hBX
                  by_cases hC : 0 ≤ ch ∧ ch < 67
                  · obtain rfl := hbc.out.trans (decide_eq_true hC)
                    by_cases q3 : 0 ≤ fr
                    · have gq3 : decide (0 ≤ fr) = true := decide_eq_true q3
                      by_cases q2 : fr ≤ tt
                      · have gq2 : decide (fr ≤ tt) = true := decide_eq_true q2
                        by_cases q1 : tt ≤ 15
                        · have gq1 : decide (tt ≤ 15) = true := decide_eq_true q1
                          go_wp2_with fail
                          go_meet
                          exact ⟨_, rfl, (decide_eq_true (p := 0 ≤ ch ∧ ch < 67 ∧ 0 ≤ fr ∧ fr ≤ tt ∧ tt ≤ 15) (by omega)).symm, rfl⟩
                        · have gq1 : decide (tt ≤ 15) = false := decide_eq_false q1
                          go_wp2_with fail
                          go_meet
                          exact ⟨_, rfl, (decide_eq_false (p := 0 ≤ ch ∧ ch < 67 ∧ 0 ≤ fr ∧ fr ≤ tt ∧ tt ≤ 15) (by omega)).symm, rfl⟩
                      · have gq2 : decide (fr ≤ tt) = false := decide_eq_false q2
                        go_wp2_with fail
                        go_meet
                        exact ⟨_, rfl, (decide_eq_false (p := 0 ≤ ch ∧ ch < 67 ∧ 0 ≤ fr ∧ fr ≤ tt ∧ tt ≤ 15) (by omega)).symm, rfl⟩
                    · have gq3 : decide (0 ≤ fr) = false := decide_eq_false q3
                      go_wp2_with fail
                      go_meet
                      exact ⟨_, rfl, (decide_eq_false (p := 0 ≤ ch ∧ ch < 67 ∧ 0 ≤ fr ∧ fr ≤ tt ∧ tt ≤ 15) (by omega)).symm, rfl⟩
                  · obtain rfl := hbc.out.trans (decide_eq_false hC)
                    go_wp2_with fail
                    go_meet
                    exact ⟨_, rfl, (decide_eq_false (p := 0 ≤ ch ∧ ch < 67 ∧ 0 ≤ fr ∧ fr ≤ tt ∧ tt ≤ 15) (by omega)).symm, rfl⟩
                case rest =>
                  obtain ⟨bt, rfl, hbt, rfl⟩ := hcut
                  replace hbt := Lib.hid hbt
                  go_upto_if 128 with fail
                  by_cases hP : 0 ≤ ch ∧ ch < 67 ∧ 0 ≤ fr ∧ fr ≤ tt ∧ tt ≤ 15
                  · obtain rfl := hbt.out.trans (decide_eq_true hP)
                    rcases rc_case.out with ⟨-, hra, rfl⟩ | ⟨hn, -, -⟩
                    · obtain ⟨cn, hcn⟩ := Int.eq_ofNat_of_zero_le hP.1
                      obtain ⟨fn, hfn⟩ := Int.eq_ofNat_of_zero_le hP.2.2.1
                      obtain ⟨tn, htn⟩ := Int.eq_ofNat_of_zero_le (show 0 ≤ tt by omega)
                      subst hcn hfn htn
                      rw [Int.toNat_natCast, Int.toNat_natCast, Int.toNat_natCast] at hra
                      have HL := Lib.hid (fun w => walk66_any x hx cn fn tn (by omega) (by omega) (by omega) w)
                      rw [← hra] at HL
                      clear hra
                      have rR := Lib.hid (range_gro hrc hRC)
                      have rX := Lib.hid (fun p => (hBX.mono (below_gro wc p)).1)
                      have e32 := gro_cell hBX.2.1
                      have e33 := gro_cell hBX.2.2.1
                      have e34 := gro_cell hBX.2.2.2
                      have hEq := Lib.hid (equal_self _ hrc)
                      go_wp2_with fail
                      refine wp_region_qgro rfl (by kernel_rfl) ?_
                      iterate 3 go_big_quiet_step (fail)
                      refine wpQuiet_load_midg (by kernel_rfl) 24 (.tmp 9) rfl RCb 0 rfl (rc.map bv) (.array 32 5) (by rintro _ ⟨p, rfl⟩; exact rR.out p) (by kernel_rfl) rfl (by rw [List.length_map, hrc]; kernel_rfl) ?_
                      simp only [Act.put, List.setIfInBounds_toArray, List.set_cons_succ, List.set_cons_zero]
                      go_big_quiet_step (fail)
                      refine wpQuiet_load_midg (by kernel_rfl) 24 (.tmp 133) rfl X 0 rfl (x.map bv) (.array 32 5) (by rintro _ ⟨p, rfl⟩; exact rX.out p) (by kernel_rfl) rfl (by rw [List.length_map, hx]; kernel_rfl) ?_
                      simp only [Act.put, List.setIfInBounds_toArray, List.set_cons_succ, List.set_cons_zero]
                      go_big_quiet_step (fail)
                      go_big_quiet_step (fail)
                      go_big_quiet_step (fail)
                      go_big_quiet_step (fail)
                      go_big_quiet_step (fail)
                      go_big_quiet_step (fail)
                      go_big_quiet_step ((go_at_call 66; exact gro_call (HL.out _)))
                      refine wpQuiet_neqr (by kernel_rfl) 24 24 (.tmp 132) (.tmp 141) rfl (by kernel_rfl) _ _ true rfl rfl hEq.out ?_
                      simp only [Act.put, List.setIfInBounds_toArray, List.set_cons_succ, List.set_cons_zero]
                      repeat go_big_quiet_step (fail)
                      refine wpQuiet_nil ?_
                      rintro _ ⟨p, rfl⟩
                      simp only [Exit.then]
                      go_wp2_with fail
                      go_roundw
                      case rel => exact ⟨k + 1, by omega, by omega, by go_num, hbw.trans ((below_gro wc p).mono hbw.size)⟩
                      case measure => simp [intOf]; omega
                    · exact absurd hP hn
                  · obtain rfl := hbt.out.trans (decide_eq_false hP)
                    rcases rc_case.out with ⟨hn, -, -⟩ | ⟨-, hra, rfl⟩
                    · exact absurd hn hP
                    · have hEq := Lib.hid (equal_self z32 rfl)
                      have hB := build24_zero
                      subst hra
                      go_wp2_with (first
                        | (refine wpList_load_rowg (by kernel_rfl) 24 (.tmp 9) rfl RCb rfl 24 _ (0, 0) (.array 32 5) hRC (by kernel_rfl) rfl (id_info z32 rfl) ?_)
                        | (refine wpList_neqr (by kernel_rfl) 24 24 (.tmp 147) (.tmp 148) rfl (by kernel_rfl) _ _ true rfl rfl hEq.out ?_))
                      go_roundw
                      case rel => exact ⟨k + 1, by omega, by omega, by go_num, hbw⟩
                      case measure => simp [intOf]; omega
    · obtain rfl : k = ts.length := by omega
      have hg : decide (((ts.length : Nat) : Int) < (ts.length : Int)) = false := decide_eq_false (by omega)
      clear hr hgood
      go_wp2_with fail
      go_ret
      exact ⟨ret_val rfl, hbr⟩
end Go.Proofs.Ytcfkapoppmpehaa

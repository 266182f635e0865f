/-
  MerkleBack: a signature's bytes lead back to it, and bytes that do lead to one: the walk.
-/
import Derived.Test.YtcfkapoppmpehaaSgl
import Derived.Test.YtcfkapoppmpehaaOps
import Derived.Deep.DeepCutAuto
namespace Go.Proofs.Ytcfkapoppmpehaa
open Go.RowKit

theorem encode_any (v : Value) (leaf : Int) (cs ps : List (List UInt8)) (w : World) (hv : RdS w v leaf cs ps) :
    Calls Try.prog 37 #[v] w fun e w' => ∃ y k, e = .returned (.tuple #[y, .int .i64 k]) ∧ ((okS leaf cs ps ∧ k = 0 ∧ RdB w' y (bytS leaf.toNat cs ps)) ∨ (¬ okS leaf cs ps ∧ k = 2 ∧ y = .slice none 0 0)) ∧ Below w.heap.size w w' := by
  by_cases h : okS leaf cs ps
  · obtain ⟨h0, h1, h2, h3⟩ := id h
    obtain ⟨n, rfl⟩ := Int.eq_ofNat_of_zero_le h0
    exact (encode_ok v n (by omega) cs ps w hv h2 h3).mono fun e w' ⟨y, he, hr, hb⟩ => ⟨y, 0, he, .inl ⟨h, rfl, hr⟩, hb⟩
  · exact (encode_err v leaf cs ps w hv h).mono fun e w' ⟨he, hb⟩ => ⟨_, 2, he, .inr ⟨h, rfl, rfl⟩, hb⟩
/-- What Decode answers to the bytes of a signature. -/
theorem decode_back (leaf : Int) (cs ps : List (List UInt8)) (h : okS leaf cs ps) (h1 : ∀ i, i < cs.length → (cs.getD i []).length = 32) (h2 : ∀ i, i < ps.length → (ps.getD i []).length = 32) (y : Value) (w : World) (hy : RdB w y (bytS leaf.toNat cs ps)) :
    Calls Try.prog 42 #[y] w fun e w' => ∃ v', e = .returned (.tuple #[v', .int .i64 0]) ∧ RdS w' v' leaf cs ps ∧ Below w.heap.size w w' := by
  obtain ⟨h0, h8, hc, hp⟩ := h
  obtain ⟨n, rfl⟩ := Int.eq_ofNat_of_zero_le h0
  rw [Int.toNat_natCast] at hy
  have hl : (bytS n cs ps).length = 2241 := by
    rw [bytS, List.length_append, List.length_append, flatten_len32 cs (fun x hx => by obtain ⟨j, hj, rfl⟩ := List.getElem_of_mem hx; have := h1 j hj; simpa [hj] using this), flatten_len32 ps (fun x hx => by obtain ⟨j, hj, rfl⟩ := List.getElem_of_mem hx; have := h2 j hj; simpa [hj] using this), hc, hp]
    simp
  have := decode_ok y _ w hy hl (by rw [bytS_get0 n cs ps (by omega)]; omega)
  rw [bytS_get0 n cs ps (by omega), bytS_chunks hc hp h1 h2, List.take_append_of_le_length (by omega), List.take_of_length_le (by omega), show 67 = cs.length from hc.symm, List.drop_left] at this
  exact this
theorem bytS_len {leaf : Int} {cs ps : List (List UInt8)} (h : okS leaf cs ps) (h1 : ∀ i, i < cs.length → (cs.getD i []).length = 32) (h2 : ∀ i, i < ps.length → (ps.getD i []).length = 32) : (bytS leaf.toNat cs ps).length = 2241 := by
  obtain ⟨h0, h8, hc, hp⟩ := h
  rw [bytS, List.length_append, List.length_append, flatten_len32 cs (fun x hx => by obtain ⟨j, hj, rfl⟩ := List.getElem_of_mem hx; have := h1 j hj; simpa [hj] using this), flatten_len32 ps (fun x hx => by obtain ⟨j, hj, rfl⟩ := List.getElem_of_mem hx; have := h2 j hj; simpa [hj] using this), hc, hp]
  simp
/-- 'int(uint(z) % 2241)'. -/
theorem at_2241 (z : Int) : ∃ (k : Nat) (zz : Int), k < 2241 ∧ (∀ w, (convert 3 43 (.int .i64 z)).run Try.prog w = .ok (.int .u64 zz) w) ∧ zz.tmod 2241 = k := by
  have h3 : Try.prog.underlying 3 = some (.int .i64) := by kernel_rfl
  have h43 : Try.prog.underlying 43 = some (.int .u64) := by kernel_rfl
  refine ⟨(IntKind.u64.wrap z % 2241).toNat, IntKind.u64.wrap z, by omega, fun w => ?_, ?_⟩
  · simp [convert, run_underlying h3, run_underlying h43, Conv.intToInt]
  · have h0 : 0 ≤ IntKind.u64.wrap z := by rw [IntKind.wrap_u64]; omega
    rw [Int.tmod_eq_emod_of_nonneg h0]; omega
theorem conv_4333 (k : Nat) (hk : k < 2241) (w : World) : (convert 43 3 (.int .u64 k)).run Try.prog w = .ok (.int .i64 k) w := by
  have h3 : Try.prog.underlying 3 = some (.int .i64) := by kernel_rfl
  have h43 : Try.prog.underlying 43 = some (.int .u64) := by kernel_rfl
  have e : (IntKind.i64.wrap (k : Int)) = (k : Int) := IntWalk.i64_in _ (by omega)
  simp [convert, run_underlying h3, run_underlying h43, Conv.intToInt, e]

set_option maxRecDepth 100000 in
set_option maxHeartbeats 8000000 in
theorem merkleBack_any (v : Value) (leaf : Int) (cs ps : List (List UInt8)) (u : Value) (bs : List UInt8) (z : Int) (w : World) (hv : RdS w v leaf cs ps) (hu : RdB w u bs) :
    Calls Try.prog 8 #[v, u, .int .i64 z] w fun e w' => e = .returned (.bool true) ∧ Below w.heap.size w w' := by
  have hv0 := hv
  obtain ⟨cv, pv, rfl, ⟨ca, cc, rfl, -, -, -⟩, ⟨pa, pc, rfl, -, -, -⟩⟩ := hv0
  have hu0 := hu
  obtain ⟨ua, uc, rfl, huc, -⟩ := hu0
  generalize cs.length = cn at *
  generalize ps.length = pn at *
  go_enter Try.func8, Try.ntmps8
  go_upto_region 1 with fail
  have hb1 : Below w.heap.size w (w.alloc (Obj.cells #[.int .i64 leaf, .slice ca cn cc, .slice pa pn pc] 49)) := (Below.refl _ _).alloc (Nat.le_refl _) _
  have hB0 : (w.alloc (Obj.cells #[.int .i64 leaf, .slice ca cn cc, .slice pa pn pc] 49)).heap[w.heap.size]? = some (.cells #[.int .i64 leaf, .slice ca cn cc, .slice pa pn pc] 49 (0, 0)) := heap_alloc_new w _
  change Code.wp _ _ _ _ (w.alloc (Obj.cells #[.int .i64 leaf, .slice ca cn cc, .slice pa pn pc] 49))
  generalize w.alloc (Obj.cells #[.int .i64 leaf, .slice ca cn cc, .slice pa pn pc] 49) = w1 at *
  go_wp2_with fail
  refine (wakes08 w1).mono ?_
  rintro e w2 ⟨rfl, hb2⟩
  replace hB0 := (hb2.block _ (Array.getElem?_eq_some_iff.1 hB0).1).trans hB0
  replace hb1 := hb1.trans (hb2.mono hb1.size)
  replace hv := hv.mono hb1
  replace hu := hu.mono hb1
  clear hb2
  dsimp only
  go_wp2_with (refine wpList_load_row rfl 49 (.tmp 3) rfl w.heap.size rfl 49 _ (0, 0) (.struct (Try.prog.fieldsOf 49)) hB0 (by kernel_rfl) rfl (by kernel_rfl) ?_)
  refine (signed36_any _ leaf cs ps w2 hv).mono ?_
  rintro e w3 ⟨v7, rfl, h7, hb3⟩
  replace hu := hu.mono hb3
  replace hb1 := hb1.trans (hb3.mono hb1.size)
  clear hb3 hv hB0
  have hq1 : (cs.take 70).length < 65536 := by simp; omega
  have hq2 : (ps.take 5).length < 65536 := by simp; omega
  generalize cs.take 70 = c70 at *
  generalize ps.take 5 = p5 at *
  have h70 := h7
  obtain ⟨cv7, pv7, rfl, hc7, hp7⟩ := h70
  have L1 := Lib.hid hc7.lens
  have L2 := Lib.hid hp7.lens
  obtain ⟨ca7, cc7, rfl, -, -, -⟩ := hc7
  obtain ⟨pa7, pc7, rfl, -, -, -⟩ := hp7
  have HE := Lib.hid (fun w h => encode_any (.agg #[.int .i64 leaf, .slice ca7 c70.length cc7, .slice pa7 p5.length pc7]) leaf c70 p5 w h)
  have HS := Lib.hid (fun v' w h h' => same41_any v' (.agg #[.int .i64 leaf, .slice ca7 c70.length cc7, .slice pa7 p5.length pc7]) leaf leaf c70 p5 c70 p5 w h' h hq1 hq2)
  generalize hc70 : c70.length = n70 at *
  generalize hp5 : p5.length = m5 at *
  dsimp only
  go_upto_region 4 with (refine wpList_store_new rfl 49 (.tmp 7) (.tmp 19) rfl _ _ #[.int .i64 leaf, .slice ca7 n70 cc7, .slice pa7 m5 pc7] rfl rfl (by kernel_rfl) rfl (by simp [Value.oneCell']) ?_)
  have hB7 : (w3.alloc (Obj.cells #[.int .i64 leaf, .slice ca7 n70 cc7, .slice pa7 m5 pc7] 49)).heap[w3.heap.size]? = some (.cells #[.int .i64 leaf, .slice ca7 n70 cc7, .slice pa7 m5 pc7] 49 (0, 0)) := heap_alloc_new w3 _
  have hb4 : Below w3.heap.size w3 (w3.alloc (Obj.cells #[.int .i64 leaf, .slice ca7 n70 cc7, .slice pa7 m5 pc7] 49)) := (Below.refl _ _).alloc (Nat.le_refl _) _
  replace h7 := h7.mono hb4
  replace hu := hu.mono hb4
  replace hb1 := hb1.trans (hb4.mono hb1.size)
  generalize w3.alloc (Obj.cells #[.int .i64 leaf, .slice ca7 n70 cc7, .slice pa7 m5 pc7] 49) = w4 at *
  generalize w3.heap.size = S at *
  clear hb4
  go_wp2_with (refine wpList_load_row rfl 49 (.tmp 7) rfl S rfl 49 _ (0, 0) (.struct (Try.prog.fieldsOf 49)) hB7 (by kernel_rfl) rfl (by kernel_rfl) ?_)
  refine (HE.out w4 h7).mono ?_
  rintro e w5 ⟨y, ke, rfl, hcase, hb5⟩
  replace hB7 := (hb5.block _ (Array.getElem?_eq_some_iff.1 hB7).1).trans hB7
  replace h7 := h7.mono hb5
  replace hu := hu.mono hb5
  replace hb1 := hb1.trans (hb5.mono hb1.size)
  clear hb5 HE
  dsimp only
  go_upto_if 26 with fail
  go_cut [] (fun wx => Below w5.heap.size w5 wx)
  case first =>
    rcases hcase with ⟨hok, rfl, hy⟩ | ⟨hno, rfl, rfl⟩
    · obtain ⟨k, zz, hk, hz1, hz2⟩ := at_2241 z
      have hz3 := conv_4333 k hk
      have hlen := bytS_len hok (by rw [hc70]; exact L1.out) (by rw [hp5]; exact L2.out)
      have HD := Lib.hid (fun y w h => decode_back leaf c70 p5 hok (by rw [hc70]; exact L1.out) (by rw [hp5]; exact L2.out) y w h)
      have HS' : Hid (∀ v' w, RdS w (.agg #[.int .i64 leaf, .slice ca7 n70 cc7, .slice pa7 m5 pc7]) leaf c70 p5 → RdS w v' leaf c70 p5 → Calls Try.prog 41 #[v', .agg #[.int .i64 leaf, .slice ca7 n70 cc7, .slice pa7 m5 pc7]] w fun e w' => e = .returned (.bool true) ∧ Below w.heap.size w w') := Lib.hid (fun v' w h h' => by simpa using HS.out v' w h h')
      generalize bytS leaf.toNat c70 p5 = Y at *
      have hy0 := hy
      obtain ⟨ya, yc, hye, hyc, -⟩ := hy0
      rw [hlen] at hye hyc
      subst hye
      clear hlen hu hb1 HS
      go_wp2_with fail
      refine (HD.out _ w5 hy).mono ?_
      rintro e w6 ⟨v10, rfl, h10, hb6⟩
      have h10' := h10
      obtain ⟨cv10, pv10, rfl, ⟨ca10, cc10, rfl, -, -, -⟩, ⟨pa10, pc10, rfl, -, -, -⟩⟩ := h10'
      replace hB7 := (hb6.block _ (Array.getElem?_eq_some_iff.1 hB7).1).trans hB7
      replace h7 := h7.mono hb6
      rw [hc70, hp5] at h10 ⊢
      have hbm := hb6
      clear hb6 HD hy
      dsimp only
      go_upto_region 7 with (refine wpList_store_new rfl 49 (.tmp 10) (.tmp 30) rfl _ _ #[.int .i64 leaf, .slice ca10 n70 cc10, .slice pa10 m5 pc10] rfl rfl (by kernel_rfl) rfl (by simp [Value.oneCell']) ?_)
      have hB10 : (w6.alloc (Obj.cells #[.int .i64 leaf, .slice ca10 n70 cc10, .slice pa10 m5 pc10] 49)).heap[w6.heap.size]? = some (.cells #[.int .i64 leaf, .slice ca10 n70 cc10, .slice pa10 m5 pc10] 49 (0, 0)) := heap_alloc_new w6 _
      have hb7 : Below w6.heap.size w6 (w6.alloc (Obj.cells #[.int .i64 leaf, .slice ca10 n70 cc10, .slice pa10 m5 pc10] 49)) := (Below.refl _ _).alloc (Nat.le_refl _) _
      replace hB7 := (hb7.block _ (Array.getElem?_eq_some_iff.1 hB7).1).trans hB7
      replace h7 := h7.mono hb7
      replace h10 := h10.mono hb7
      replace hbm := hbm.trans (hb7.mono hbm.size)
      generalize w6.alloc (Obj.cells #[.int .i64 leaf, .slice ca10 n70 cc10, .slice pa10 m5 pc10] 49) = w7 at *
      generalize w6.heap.size = T at *
      clear hb7
      go_wp2_with (first
        | (refine wpList_load_rowg (by kernel_rfl) 49 (.tmp 10) rfl T rfl 49 _ (0, 0) (.struct (Try.prog.fieldsOf 49)) hB10 (by kernel_rfl) rfl (by kernel_rfl) ?_)
        | (refine wpList_load_rowg (by kernel_rfl) 49 (.tmp 7) rfl S rfl 49 _ (0, 0) (.struct (Try.prog.fieldsOf 49)) hB7 (by kernel_rfl) rfl (by kernel_rfl) ?_))
      refine (HS'.out _ w7 h7 h10).mono ?_
      rintro e w8 ⟨rfl, hb8⟩
      replace hbm := hbm.trans (hb8.mono hbm.size)
      clear hb8 hB7 hB10 h7 h10
      dsimp only
      have hkc : k ≤ yc := by omega
      go_wp2_with (refine wpList_slice_head rfl (.tmp 41) (.tmp 48) rfl ya 2241 yc k hkc rfl rfl ?_)
      refine (decode_short ya k yc hk w8).mono ?_
      rintro e w9 ⟨rfl, hb9⟩
      replace hbm := hbm.trans (hb9.mono hbm.size)
      dsimp only
      go_upto_region 10 with (refine wpList_store_new rfl 49 (.tmp 12) (.tmp 51) rfl _ _ zero49 rfl rfl (by kernel_rfl) rfl (by kernel_rfl) ?_)
      go_wp2_with fail
      go_meet
      exact hbm.alloc hbm.size _
    · go_wp2_with fail
      go_meet
      exact Below.refl _ _
  case rest =>
    replace hu := hu.mono hcut
    replace hb1 := hb1.trans (hcut.mono hb1.size)
    clear hcut hcase HS h7 hB7 L1 L2 hq1 hq2
    have hut := hu.takeN 2300
    have hql : (bs.take 2300).length = min bs.length 2300 := by simp [Nat.min_comm]
    obtain ⟨q, hq⟩ : ∃ q, q = (bs.take 2300).length := ⟨_, rfl⟩
    have hmin : (if 2300 < (bs.length : Int) then 2300 else (bs.length : Int)) = (q : Int) := by rw [hq, hql]; omega
    have hq' : q ≤ uc := by rw [hq, hql]; omega
    rw [← hq] at hut
    have Hq := Lib.hid hq
    clear hq hql hu huc
    generalize bs.take 2300 = bq at *
    generalize bs.length = bn at *
    go_upto_region 13 with (refine wpList_slice_head rfl (.tmp 55) (.tmp 58) rfl ua bn uc q hq' rfl rfl ?_)
    by_cases hgood : bq.length = 2241 ∧ (bq.getD 0 0).toNat < 8
    · obtain ⟨hg1, hg2⟩ := hgood
      have HD := Lib.hid (fun y w h => decode_ok y bq w h hg1 hg2)
      have HE := Lib.hid (fun v w h => encode_ok v (bq.getD 0 0).toNat hg2 ((chunksS bq 70).take 67) ((chunksS bq 70).drop 67) w h (by rw [List.length_take, chunksS_length]; rfl) (by rw [List.length_drop, chunksS_length]))
      rw [bytS_back hg1] at HE
      have HQ : Hid (∀ (v u : Value) w, RdB w v bq → RdB w u bq → Calls Try.prog 39 #[v, u] w fun e w' => e = .returned (.bool true) ∧ w = w') := Lib.hid (fun v u w h1 h2 => by
        have := beq_any v u bq bq w h1 h2
        rwa [decide_eq_true rfl] at this)
      generalize (chunksS bq 70).take 67 = k67 at *
      generalize (chunksS bq 70).drop 67 = k3 at *
      generalize ((bq.getD 0 0).toNat : Int) = x at *
      clear hg1 hg2 Hq
      go_wp2_with fail
      refine (HD.out _ wc hut).mono ?_
      rintro e w6 ⟨v10, rfl, h10, hb6⟩
      have h10' := h10
      obtain ⟨cv10, pv10, rfl, ⟨ca10, cc10, rfl, -, -, -⟩, ⟨pa10, pc10, rfl, -, -, -⟩⟩ := h10'
      replace hut := hut.mono hb6
      replace hb1 := hb1.trans (hb6.mono hb1.size)
      generalize k67.length = n67 at *
      generalize k3.length = n3 at *
      clear hb6 HD
      dsimp only
      go_upto_region 16 with (refine wpList_store_new rfl 49 (.tmp 14) (.tmp 63) rfl _ _ #[.int .i64 x, .slice ca10 n67 cc10, .slice pa10 n3 pc10] rfl rfl (by kernel_rfl) rfl (by simp [Value.oneCell']) ?_)
      have hB10 : (w6.alloc (Obj.cells #[.int .i64 x, .slice ca10 n67 cc10, .slice pa10 n3 pc10] 49)).heap[w6.heap.size]? = some (.cells #[.int .i64 x, .slice ca10 n67 cc10, .slice pa10 n3 pc10] 49 (0, 0)) := heap_alloc_new w6 _
      have hb7 : Below w6.heap.size w6 (w6.alloc (Obj.cells #[.int .i64 x, .slice ca10 n67 cc10, .slice pa10 n3 pc10] 49)) := (Below.refl _ _).alloc (Nat.le_refl _) _
      replace h10 := h10.mono hb7
      replace hut := hut.mono hb7
      replace hb1 := hb1.trans (hb7.mono hb1.size)
      generalize w6.alloc (Obj.cells #[.int .i64 x, .slice ca10 n67 cc10, .slice pa10 n3 pc10] 49) = w7 at *
      generalize w6.heap.size = T at *
      clear hb7
      go_wp2_with (refine wpList_load_row rfl 49 (.tmp 14) rfl T rfl 49 _ (0, 0) (.struct (Try.prog.fieldsOf 49)) hB10 (by kernel_rfl) rfl (by kernel_rfl) ?_)
      refine (HE.out _ w7 h10).mono ?_
      rintro e w8 ⟨y8, rfl, hy8, hb8⟩
      replace hut := hut.mono hb8
      replace hb1 := hb1.trans (hb8.mono hb1.size)
      dsimp only
      go_wp2_with fail
      refine (HQ.out y8 _ w8 hy8 hut).mono ?_
      rintro e w9 ⟨rfl, rfl⟩
      dsimp only
      go_wp2_with fail
      go_ret
      exact ⟨ret_val rfl, hb1⟩
    · have HD := Lib.hid (fun y w h => decode_bad y bq w h hgood)
      have hne : ((if bq.length < 2241 then (7 : Int) else 2) != 0) = true := by split <;> rfl
      generalize (if bq.length < 2241 then (7 : Int) else 2) = ee at *
      clear hgood
      have hbz := build49z
      go_wp2_with fail
      refine (HD.out _ wc hut).mono ?_
      rintro e w6 ⟨rfl, hb6⟩
      replace hb1 := hb1.trans (hb6.mono hb1.size)
      clear hb6 HD hut
      dsimp only
      go_upto_region 15 with (refine wpList_store_new rfl 49 (.tmp 14) (.tmp 63) rfl _ _ zero49 rfl rfl (by kernel_rfl) rfl (by kernel_rfl) ?_)
      have hB10 : (w6.alloc (Obj.cells zero49 49)).heap[w6.heap.size]? = some (.cells zero49 49 (0, 0)) := heap_alloc_new w6 _
      replace hb1 := hb1.alloc hb1.size (Obj.cells zero49 49)
      generalize w6.alloc (Obj.cells zero49 49) = w7 at *
      generalize w6.heap.size = T at *
      go_wp2_with (refine wpList_load_row rfl 49 (.tmp 14) rfl T rfl 49 _ (0, 0) (.struct (Try.prog.fieldsOf 49)) hB10 (by kernel_rfl) rfl (by kernel_rfl) ?_)
      refine (same_zero w7).mono ?_
      rintro e w8 ⟨rfl, hb8⟩
      replace hb1 := hb1.trans (hb8.mono hb1.size)
      dsimp only
      go_wp2_with fail
      go_ret
      exact ⟨ret_val rfl, hb1⟩
end Go.Proofs.Ytcfkapoppmpehaa

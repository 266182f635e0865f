/-
  MerkleBytes: what signatures encode to, what bytes decode to: the walk.
-/
import Derived.Test.YtcfkapoppmpehaaL08
namespace Go.Proofs.Ytcfkapoppmpehaa
open Go.RowKit

theorem Stays.rdB (bs : List UInt8) : Stays fun v w => RdB w v bs := fun _ _ _ hb h => h.mono hb
theorem Stays.rdS (l : Int) (xs ps : List (List UInt8)) : Stays fun v w => RdS w v l xs ps := fun _ _ _ hb h => h.mono hb
theorem right_ok (v : Value) (leaf : Int) (cs ps : List (List UInt8)) (w : World) (hv : RdS w v leaf cs ps) (h : okS leaf cs ps) :
    Calls Try.prog 38 #[v] w fun e w' => e = .returned (.bool true) ∧ Below w.heap.size w w' := by
  have := right38_any v leaf cs ps w hv
  rwa [decide_eq_true h] at this
theorem right_no (v : Value) (leaf : Int) (cs ps : List (List UInt8)) (w : World) (hv : RdS w v leaf cs ps) (h : ¬ okS leaf cs ps) :
    Calls Try.prog 38 #[v] w fun e w' => e = .returned (.bool false) ∧ Below w.heap.size w w' := by
  have := right38_any v leaf cs ps w hv
  rwa [decide_eq_false h] at this
theorem beq_self (v u : Value) (bs : List UInt8) (w : World) (hv : RdB w v bs) (hu : RdB w u bs) :
    Calls Try.prog 39 #[v, u] w fun e w' => e = .returned (.bool true) ∧ Below w.heap.size w w' := by
  have := beq_any v u bs bs w hv hu
  rw [decide_eq_true rfl] at this
  exact this.mono fun e w' ⟨he, hw⟩ => ⟨he, hw ▸ Below.refl _ _⟩
theorem same41_self (v u : Value) (leaf : Int) (cs ps : List (List UInt8)) (w : World) (hv : RdS w v leaf cs ps) (hu : RdS w u leaf cs ps) (hl : cs.length < 65536) (hl2 : ps.length < 65536) :
    Calls Try.prog 41 #[v, u] w fun e w' => e = .returned (.bool true) ∧ Below w.heap.size w w' := by
  have := same41_any v u leaf leaf cs ps cs ps w hv hu hl hl2
  simpa using this

set_option maxRecDepth 100000 in
set_option maxHeartbeats 16000000 in
theorem merkleBytes_any (v : Value) (ts : List Sg8) (u : Value) (us : List Bs8) (w : World) (hv : RdRows 3 Sg8.row Sg8.good w v ts) (hu : RdRows 1 Bs8.row Bs8.good w u us) :
    Calls Try.prog 7 #[v, u] w fun e w' => e = .returned (.bool true) ∧ Below w.heap.size w w' := by
  obtain ⟨va, vc, rfl, -, -, hvg, hvr⟩ := hv
  obtain ⟨ua, uc, rfl, -, -, hug, hur⟩ := hu
  replace hvg := Lib.hid hvg
  replace hvr := Lib.hid hvr
  replace hug := Lib.hid hug
  replace hur := Lib.hid hur
  go_enter Try.func7, Try.ntmps7
  go_wp2_with fail
  refine (wakes08 w).mono ?_
  rintro e w2 ⟨rfl, hb2⟩
  dsimp only
  go_wp2_with fail
  go_loopw [19] (fun i wr => ∃ k : Nat, k ≤ 6 ∧ k ≤ ts.length ∧ i = .int .i64 k ∧ Below w.heap.size w wr) (fun i _ => 7 - (intOf i).toNat)
  case atStart => exact ⟨0, by omega, by omega, rfl, hb2⟩
  case round =>
    clear hb2
    obtain ⟨k, hk, hkl, rfl, hbr⟩ := hrel
    by_cases hlt : k < ts.length
    · obtain ⟨bk, o, rfl, hrange⟩ := hvr.out (by omega)
      have hg : decide ((k : Int) < (ts.length : Int)) = true := decide_eq_true (by omega)
      have hrow := hrange k hlt
      have hgc := hvg.out k hlt
      generalize ts.getD k default = c at *
      obtain ⟨leaf, cv, pv, cs, ps⟩ := c
      have hrs0 : RdS w (.agg #[.int .i64 leaf, cv, pv]) leaf cs ps := ⟨cv, pv, rfl, hgc.1, hgc.2⟩
      obtain ⟨⟨ca, cc, hcv, -⟩, ⟨pa, pc, hpv, -⟩⟩ := hgc
      simp only at hcv hpv
      subst hcv hpv
      simp only [Sg8.row] at hrow
      generalize cs.length = cn at *
      generalize ps.length = pn at *
      have hltb : bk < w.heap.size := block_lt_of_cell (hrow 0 _ rfl)
      have hrw : wr.rangeAt bk (o + k * 3) [.int .i64 leaf, .slice ca cn cc, .slice pa pn pc] := fun j u hu => by
        rw [hbr.cell (by show bk < _; exact hltb)]; exact hrow j u hu
      have h6 := hrs0.mono hbr
      clear hrange hrow hrs0
      go_upto_region 6 with (first
        | (refine wpList_load_mid rfl 49 (.tmp 22) rfl bk (o + k * 3) rfl [.int .i64 leaf, .slice ca cn cc, .slice pa pn pc] (.struct (Try.prog.fieldsOf 49)) hrw (by kernel_rfl) rfl (by kernel_rfl) ?_)
        | (refine wpList_store_new rfl 49 (.tmp 6) (.tmp 23) rfl _ _ #[.int .i64 leaf, .slice ca cn cc, .slice pa pn pc] rfl rfl (by kernel_rfl) rfl (by simp [Value.oneCell']) ?_))
      have hB6 : (wr.alloc (Obj.cells #[.int .i64 leaf, .slice ca cn cc, .slice pa pn pc] 49)).heap[wr.heap.size]? = some (.cells #[.int .i64 leaf, .slice ca cn cc, .slice pa pn pc] 49 (0, 0)) := heap_alloc_new wr _
      have hbx : Below wr.heap.size wr (wr.alloc (Obj.cells #[.int .i64 leaf, .slice ca cn cc, .slice pa pn pc] 49)) := (Below.refl _ _).alloc (Nat.le_refl _) _
      replace h6 := h6.mono hbx
      replace hbr := hbr.trans (hbx.mono hbr.size)
      generalize wr.alloc (Obj.cells #[.int .i64 leaf, .slice ca cn cc, .slice pa pn pc] 49) = w3 at *
      generalize wr.heap.size = S6 at *
      clear hrw hbx
      by_cases hk6 : k = 6
      · subst hk6
        have hk6 : (((6 : Nat) : Int) == 6) = true := by decide
        clear h6 hB6
        go_wp2_with fail
        go_loopw [62] (fun i wx => ∃ k : Nat, k ≤ 8 ∧ k ≤ us.length ∧ i = .int .i64 k ∧ Below w.heap.size w wx) (fun i _ => 9 - (intOf i).toNat)
        case atStart => exact ⟨0, by omega, by omega, rfl, hbr⟩
        case round =>
          clear hbr hg hlt
          obtain ⟨k, hk, hkl, rfl, hbr⟩ := hrel
          by_cases hlt : k < us.length
          · obtain ⟨bk, o, rfl, hrange⟩ := hur.out (by omega)
            have hg : decide ((k : Int) < (us.length : Int)) = true := decide_eq_true (by omega)
            have hrow := hrange k hlt
            have hgc := hug.out k hlt
            generalize us.getD k default = c at *
            obtain ⟨dv, bs⟩ := c
            have hub := hgc.1.mono hbr
            clear hgc
            simp only [Bs8.row, Nat.mul_one] at hrow
            have hc0 : w.cell? ⟨bk, o + k, none⟩ = some dv := hrow 0 _ rfl
            have hcx := (hbr.cell (p := ⟨bk, o + k, none⟩) (block_lt_of_cell hc0)).trans hc0
            clear hrange hrow hc0
            have hub0 := hub
            obtain ⟨da, dc, hdv, hdc, -⟩ := hub0
            simp only at hdv hub hdc
            subst hdv
            by_cases h8 : k = 8
            · subst h8
              have h8 : (((8 : Nat) : Int) == 8) = true := by decide
              clear hub
              go_wp2_with fail
              go_ret
              exact ⟨ret_val rfl, hbr⟩
            · have h8' : ((k : Int) == 8) = false := by simp; omega
              have hkl8 : k < 8 := by omega
              go_upto_region 19 with fail
              iterate 4 go_step
              obtain ⟨w4, hw4, hbl4, hb4, -⟩ := allocs_named wr [.cells #[] 5]
              change wpList _ _ _ _ _ (List.foldl World.alloc wr [.cells #[] 5])
              rw [hw4]
              have hG : w4.heap[wr.heap.size]? = some (.cells #[] 5 (0, 0)) := hbl4 0
              have hs4 : wr.heap.size ≤ w4.heap.size := hb4.size
              replace hub := (hub.mono hb4).takeN 2300
              replace hbr := hbr.trans (hb4.mono hbr.size)
              clear hbl4 hw4 hb4 hcx
              have hql : (bs.take 2300).length = min bs.length 2300 := by simp [Nat.min_comm]
              obtain ⟨q, hq⟩ : ∃ q, q = (bs.take 2300).length := ⟨_, rfl⟩
              have hmin : (if 2300 < (bs.length : Int) then 2300 else (bs.length : Int)) = (q : Int) := by rw [hq, hql]; omega
              have hq' : q ≤ dc := by rw [hq, hql]; omega
              have hsm : (bs.take 2300).length ≤ 100000 := by rw [hql]; omega
              rw [← hq] at hub
              clear hql
              generalize bs.take 2300 = bq at *
              generalize bs.length = bn at *
              replace hq := Lib.hid hq
              replace hsm := Lib.hid hsm
              go_wp2_with (first
                | (refine wpList_slice_head rfl (.tmp 70) (.tmp 73) rfl da bn dc q hq' rfl rfl ?_)
                | (refine wpList_fresh_bytes rfl (.tmp 69) (.tmp 74) rfl wr.heap.size wr.heap.size rfl hG (Nat.le_refl _) hs4 _ bq rfl hub hsm.out ?_))
              intro v5 w5 hown hb5
              replace hbr := hbr.trans (hb5.mono hbr.size)
              have hb := hown.rd
              clear hown hub hG hb5 hs4 hq' hmin hsm hdc
              have hb0 := hb
              obtain ⟨ga, gc, rfl, hgc, hgr⟩ := hb0
              rw [← hq.out] at hgc
              have hq2 := hq.out
              rw [← hq2]
              rw [← hq2] at hb
              clear hq2
              by_cases hgood : bq.length = 2241 ∧ (bq.getD 0 0).toNat < 8
              · obtain ⟨hg1, hg2⟩ := hgood
                obtain rfl : q = 2241 := by rw [hq.out, hg1]
                obtain ⟨gb, go, rfl, hcell⟩ := hgr (by omega)
                have hx0 := hcell 0 (by omega)
                rw [Nat.add_zero] at hx0
                have HD := Lib.hid (fun y w h => decode_ok y bq w h hg1 hg2)
                have HB := Lib.hid (fun v w h => bytes40_any v (bq.getD 0 0).toNat ((chunksS bq 70).take 67) ((chunksS bq 70).drop 67) w h (by rw [List.length_take, chunksS_length]; omega) (by rw [List.length_drop, chunksS_length]; omega))
                have HO := Lib.hid (fun v w h => right_ok v ((bq.getD 0 0).toNat : Int) ((chunksS bq 70).take 67) ((chunksS bq 70).drop 67) w h ⟨by omega, by omega, by rw [List.length_take, chunksS_length]; rfl, by rw [List.length_drop, chunksS_length]⟩)
                rw [bytS_back hg1] at HB
                generalize (chunksS bq 70).take 67 = k67 at *
                generalize (chunksS bq 70).drop 67 = k3 at *
                generalize hxd : bq.getD 0 0 = xb at *
                have hge : decide ((8 : Int) ≤ (xb.toNat : Int)) = false := decide_eq_false (by omega)
                clear hg1 hgr hcell hxd
                go_wp2_with fail
                refine (HD.out _ w5 hb).mono ?_
                rintro e w6 ⟨v10, rfl, h10, hb6⟩
                have h10' := h10
                obtain ⟨cv10, pv10, rfl, ⟨ca10, cc10, rfl, -, -, -⟩, ⟨pa10, pc10, rfl, -, -, -⟩⟩ := h10'
                replace hb := hb.mono hb6
                replace hx0 := (hb6.cell (p := ⟨gb, go, none⟩) (block_lt_of_cell hx0)).trans hx0
                replace hbr := hbr.trans (hb6.mono hbr.size)
                generalize k67.length = n67 at *
                generalize k3.length = n3 at *
                clear hb6 HD
                dsimp only
                go_upto_region 23 with (refine wpList_store_new rfl 49 (.tmp 13) (.tmp 79) rfl _ _ #[.int .i64 (xb.toNat : Int), .slice ca10 n67 cc10, .slice pa10 n3 pc10] rfl rfl (by kernel_rfl) rfl (by simp [Value.oneCell']) ?_)
                have hB10 : (w6.alloc (Obj.cells #[.int .i64 (xb.toNat : Int), .slice ca10 n67 cc10, .slice pa10 n3 pc10] 49)).heap[w6.heap.size]? = some (.cells #[.int .i64 (xb.toNat : Int), .slice ca10 n67 cc10, .slice pa10 n3 pc10] 49 (0, 0)) := heap_alloc_new w6 _
                have hb7 : Below w6.heap.size w6 (w6.alloc (Obj.cells #[.int .i64 (xb.toNat : Int), .slice ca10 n67 cc10, .slice pa10 n3 pc10] 49)) := (Below.refl _ _).alloc (Nat.le_refl _) _
                replace h10 := h10.mono hb7
                replace hb := hb.mono hb7
                replace hx0 := (hb7.cell (p := ⟨gb, go, none⟩) (block_lt_of_cell hx0)).trans hx0
                replace hbr := hbr.trans (hb7.mono hbr.size)
                generalize w6.alloc (Obj.cells #[.int .i64 (xb.toNat : Int), .slice ca10 n67 cc10, .slice pa10 n3 pc10] 49) = w7 at *
                generalize w6.heap.size = T at *
                clear hb7
                go_wp2_with (refine wpList_load_rowg (by kernel_rfl) 49 (.tmp 13) rfl T rfl 49 _ (0, 0) (.struct (Try.prog.fieldsOf 49)) hB10 (by kernel_rfl) rfl (by kernel_rfl) ?_)
                refine (HO.out _ w7 h10).mono ?_
                rintro e w8 ⟨rfl, hb8⟩
                replace hB10 := (hb8.block _ (Array.getElem?_eq_some_iff.1 hB10).1).trans hB10
                replace h10 := h10.mono hb8
                replace hb := hb.mono hb8
                replace hbr := hbr.trans (hb8.mono hbr.size)
                clear hb8 hx0
                dsimp only
                go_wp2_with (refine wpList_load_rowg (by kernel_rfl) 49 (.tmp 13) rfl T rfl 49 _ (0, 0) (.struct (Try.prog.fieldsOf 49)) hB10 (by kernel_rfl) rfl (by kernel_rfl) ?_)
                refine (HB.out _ w8 h10).mono ?_
                rintro e w9 ⟨y9, rfl, hy9, hb9⟩
                replace hb := hb.mono hb9
                replace hbr := hbr.trans (hb9.mono hbr.size)
                dsimp only
                go_wp2_with fail
                refine (beq_self _ _ bq w9 hy9 hb).mono ?_
                rintro e w10 ⟨rfl, hb10⟩
                replace hbr := hbr.trans (hb10.mono hbr.size)
                dsimp only
                go_wp2_with fail
                go_roundw
                case rel => exact ⟨k + 1, by omega, by omega, by go_num, hbr⟩
                case measure => simp [intOf]; omega
              · have HD := Lib.hid (fun y w h => decode_bad y bq w h hgood)
                rw [← hq.out] at HD
                have hbz := build49z
                go_wp2_with fail
                refine (HD.out _ w5 hb).mono ?_
                rintro e w6 ⟨rfl, hb6⟩
                replace hb := hb.mono hb6
                replace hbr := hbr.trans (hb6.mono hbr.size)
                clear hb6 HD hgr
                dsimp only
                go_upto_region 23 with (refine wpList_store_new rfl 49 (.tmp 13) (.tmp 79) rfl _ _ zero49 rfl rfl (by kernel_rfl) rfl (by kernel_rfl) ?_)
                have hB10 : (w6.alloc (Obj.cells zero49 49)).heap[w6.heap.size]? = some (.cells zero49 49 (0, 0)) := heap_alloc_new w6 _
                replace hb := hb.mono ((Below.refl _ _).alloc (Nat.le_refl _) (Obj.cells zero49 49))
                replace hbr := hbr.alloc hbr.size (Obj.cells zero49 49)
                generalize w6.alloc (Obj.cells zero49 49) = w7 at *
                generalize w6.heap.size = T at *
                by_cases hs : q < 2241
                · have d1 : decide ((q : Int) < 2241) = true := decide_eq_true (by omega)
                  rw [if_pos hs]
                  go_wp2_with (refine wpList_load_rowg (by kernel_rfl) 49 (.tmp 13) rfl T rfl 49 _ (0, 0) (.struct (Try.prog.fieldsOf 49)) hB10 (by kernel_rfl) rfl (by kernel_rfl) ?_)
                  refine (same_zero w7).mono ?_
                  rintro e w8 ⟨rfl, hb8⟩
                  replace hbr := hbr.trans (hb8.mono hbr.size)
                  dsimp only
                  go_wp2_with fail
                  go_roundw
                  case rel => exact ⟨k + 1, by omega, by omega, by go_num, hbr⟩
                  case measure => simp [intOf]; omega
                · have d1 : decide ((q : Int) < 2241) = false := decide_eq_false (by omega)
                  rw [if_neg hs]
                  by_cases hl : 2241 < q
                  · have d2 : decide ((2241 : Int) < (q : Int)) = true := decide_eq_true (by omega)
                    go_wp2_with (refine wpList_load_rowg (by kernel_rfl) 49 (.tmp 13) rfl T rfl 49 _ (0, 0) (.struct (Try.prog.fieldsOf 49)) hB10 (by kernel_rfl) rfl (by kernel_rfl) ?_)
                    refine (same_zero w7).mono ?_
                    rintro e w8 ⟨rfl, hb8⟩
                    replace hbr := hbr.trans (hb8.mono hbr.size)
                    dsimp only
                    go_wp2_with fail
                    go_roundw
                    case rel => exact ⟨k + 1, by omega, by omega, by go_num, hbr⟩
                    case measure => simp [intOf]; omega
                  · have hq3 : q = 2241 := by omega
                    subst hq3
                    have d2 : decide ((2241 : Int) < ((2241 : Nat) : Int)) = false := by decide
                    have hlen : bq.length = 2241 := hq.out.symm
                    obtain ⟨_, _, hve, _, hrr⟩ := hb
                    rw [hlen] at hve
                    cases hve
                    obtain ⟨gb, go, rfl, hcell⟩ := hrr (by omega)
                    have hx0 := hcell 0 (by omega)
                    rw [Nat.add_zero] at hx0
                    generalize hxd : bq.getD 0 0 = xb at *
                    have hge : decide ((8 : Int) ≤ (xb.toNat : Int)) = true := decide_eq_true (by omega)
                    clear hgood hcell hrr hlen hxd
                    go_wp2_with (refine wpList_load_rowg (by kernel_rfl) 49 (.tmp 13) rfl T rfl 49 _ (0, 0) (.struct (Try.prog.fieldsOf 49)) hB10 (by kernel_rfl) rfl (by kernel_rfl) ?_)
                    refine (same_zero w7).mono ?_
                    rintro e w8 ⟨rfl, hb8⟩
                    replace hbr := hbr.trans (hb8.mono hbr.size)
                    dsimp only
                    go_wp2_with fail
                    go_roundw
                    case rel => exact ⟨k + 1, by omega, by omega, by go_num, hbr⟩
                    case measure => simp [intOf]; omega
          · have hg : decide ((k : Int) < (us.length : Int)) = false := decide_eq_false (by omega)
            go_wp2_with fail
            go_ret
            exact ⟨ret_val rfl, hbr⟩
      · have hk6' : ((k : Int) == 6) = false := by simp; omega
        have hklt : k < 6 := by omega
        go_upto_region 7 with fail
        go_wp2_with (refine wpList_load_row rfl 49 (.tmp 6) rfl S6 rfl 49 _ (0, 0) (.struct (Try.prog.fieldsOf 49)) hB6 (by kernel_rfl) rfl (by kernel_rfl) ?_)
        refine (signed36_any _ leaf cs ps w3 h6).mono ?_
        rintro e w4 ⟨v7, rfl, h7, hb4⟩
        have HC := Lib.hid (fun w h => signed36_any (.agg #[.int .i64 leaf, .slice ca cn cc, .slice pa pn pc]) leaf cs ps w h)
        replace hB6 := (hb4.block _ (Array.getElem?_eq_some_iff.1 hB6).1).trans hB6
        replace h6 := h6.mono hb4
        replace hbr := hbr.trans (hb4.mono hbr.size)
        clear hb4
        have hq1 : (cs.take 70).length < 65536 := by simp; omega
        have hq2 : (ps.take 5).length < 65536 := by simp; omega
        generalize cs.take 70 = c70 at *
        generalize ps.take 5 = p5 at *
        have h70 := h7
        obtain ⟨cv7, pv7, rfl, hc7, hp7⟩ := h70
        obtain ⟨ca7, cc7, rfl, -, -, -⟩ := hc7
        obtain ⟨pa7, pc7, rfl, -, -, -⟩ := hp7
        have HE := Lib.hid (fun w h => encode_any (.agg #[.int .i64 leaf, .slice ca7 c70.length cc7, .slice pa7 p5.length pc7]) leaf c70 p5 w h)
        have HS := Lib.hid (fun v' w h h' => same41_self (.agg #[.int .i64 leaf, .slice ca7 c70.length cc7, .slice pa7 p5.length pc7]) v' leaf c70 p5 w h h' hq1 hq2)
        have HO := Lib.hid (fun w h hok => right_ok (.agg #[.int .i64 leaf, .slice ca7 c70.length cc7, .slice pa7 p5.length pc7]) leaf c70 p5 w h hok)
        have HN := Lib.hid (fun w h hok => right_no (.agg #[.int .i64 leaf, .slice ca7 c70.length cc7, .slice pa7 p5.length pc7]) leaf c70 p5 w h hok)
        have HB : okS leaf c70 p5 → Hid (∀ w, RdS w (.agg #[.int .i64 leaf, .slice ca7 c70.length cc7, .slice pa7 p5.length pc7]) leaf c70 p5 → Calls Try.prog 40 #[.agg #[.int .i64 leaf, .slice ca7 c70.length cc7, .slice pa7 p5.length pc7]] w fun e w' => ∃ v', e = .returned v' ∧ RdB w' v' (bytS leaf.toNat c70 p5) ∧ Below w.heap.size w w') := fun hok => Lib.hid (fun w h => by
          obtain ⟨a1, a2, a3, a4⟩ := hok
          obtain ⟨n, rfl⟩ := Int.eq_ofNat_of_zero_le a1
          exact bytes40_any _ n c70 p5 w h (by omega) (by omega))
        replace HB := Lib.hid HB
        generalize hc70 : c70.length = n70 at *
        generalize hp5 : p5.length = m5 at *
        dsimp only
        go_upto_region 8 with (refine wpList_store_new rfl 49 (.tmp 7) (.tmp 27) rfl _ _ #[.int .i64 leaf, .slice ca7 n70 cc7, .slice pa7 m5 pc7] rfl rfl (by kernel_rfl) rfl (by simp [Value.oneCell']) ?_)
        have hB7 : (w4.alloc (Obj.cells #[.int .i64 leaf, .slice ca7 n70 cc7, .slice pa7 m5 pc7] 49)).heap[w4.heap.size]? = some (.cells #[.int .i64 leaf, .slice ca7 n70 cc7, .slice pa7 m5 pc7] 49 (0, 0)) := heap_alloc_new w4 _
        have hb5 : Below w4.heap.size w4 (w4.alloc (Obj.cells #[.int .i64 leaf, .slice ca7 n70 cc7, .slice pa7 m5 pc7] 49)) := (Below.refl _ _).alloc (Nat.le_refl _) _
        replace hB6 := (hb5.block _ (Array.getElem?_eq_some_iff.1 hB6).1).trans hB6
        replace h6 := h6.mono hb5
        replace h7 := h7.mono hb5
        replace hbr := hbr.trans (hb5.mono hbr.size)
        generalize w4.alloc (Obj.cells #[.int .i64 leaf, .slice ca7 n70 cc7, .slice pa7 m5 pc7] 49) = w5 at *
        generalize w4.heap.size = S at *
        clear hb5
        go_wp2_with (refine wpList_load_row rfl 49 (.tmp 7) rfl S rfl 49 _ (0, 0) (.struct (Try.prog.fieldsOf 49)) hB7 (by kernel_rfl) rfl (by kernel_rfl) ?_)
        refine (HE.out w5 h7).mono ?_
        rintro e w6 ⟨y, ke, rfl, hcase, hb6⟩
        replace hB6 := (hb6.block _ (Array.getElem?_eq_some_iff.1 hB6).1).trans hB6
        replace hB7 := (hb6.block _ (Array.getElem?_eq_some_iff.1 hB7).1).trans hB7
        replace h6 := h6.mono hb6
        replace h7 := h7.mono hb6
        replace hbr := hbr.trans (hb6.mono hbr.size)
        clear hb6 HE
        dsimp only
        go_upto_region 9 with fail
        go_wp2_with (refine wpList_load_row rfl 49 (.tmp 7) rfl S rfl 49 _ (0, 0) (.struct (Try.prog.fieldsOf 49)) hB7 (by kernel_rfl) rfl (by kernel_rfl) ?_)
        rcases hcase with ⟨hok, rfl, hy⟩ | ⟨hno, rfl, rfl⟩
        · refine (HO.out w6 h7 hok).mono ?_
          rintro e w7 ⟨rfl, hb7⟩
          replace hB6 := (hb7.block _ (Array.getElem?_eq_some_iff.1 hB6).1).trans hB6
          replace hB7 := (hb7.block _ (Array.getElem?_eq_some_iff.1 hB7).1).trans hB7
          replace h6 := h6.mono hb7
          replace h7 := h7.mono hb7
          replace hy := hy.mono hb7
          replace hbr := hbr.trans (hb7.mono hbr.size)
          have HB' := HB.out hok
          clear hb7 HO HN HB hok
          generalize bytS leaf.toNat c70 p5 = Y at *
          dsimp only
          go_upto_region 12 with fail
          refine wp_region_rels 15 [fun v _ => v = .int .i64 0, fun v _ => v = .bool false, fun v _ => v = .bool false, fun v _ => v = y, fun v _ => v = .agg #[.int .i64 leaf, .slice ca7 n70 cc7, .slice pa7 m5 pc7], fun v u => RdB u v Y, fun v _ => v = .bool true, fun v _ => v = .bool false, fun v _ => v = .bool false, fun v _ => v = .bool false, fun v _ => v = .agg #[.int .i64 leaf, .slice ca7 n70 cc7, .slice pa7 m5 pc7], fun v _ => v = .agg #[.int .i64 leaf, .slice ca cn cc, .slice pa pn pc], fun v u => RdS u v leaf c70 p5, fun v _ => v = .bool true, fun v _ => v = .bool false] rfl (by kernel_rfl) rfl
            ⟨Stays.const _, Stays.const _, Stays.const _, Stays.const _, Stays.const _, Stays.rdB _, Stays.const _, Stays.const _, Stays.const _, Stays.const _, Stays.const _, Stays.const _, Stays.rdS _ _ _, Stays.const _, Stays.const _, trivial⟩
            ⟨?s0, ?s1, ?s2, ?s3, ?s4, ?s5, ?s6, ?s7, ?s8, ?s9, ?s10, ?s11, ?s12, ?s13, ?s14, trivial⟩ ?fin
          case s0 =>
            intro z u hu hd K hK
            simp only [depsR] at hd
            simp only [setAll, dstAt, List.getElem?_toArray, List.getElem?_cons_zero, List.getElem?_cons_succ, Option.bind_some, Act.put, List.setIfInBounds_toArray, List.set_cons_zero, List.set_cons_succ, rAt, List.getD_cons_zero] at hK ⊢
            go_wp2_with fail
            exact hK _ _ rfl (Below.refl _ _)
          case s1 =>
            intro z u hu hd K hK
            simp only [depsR, rAt, List.getD_cons_zero, Region.binds, forall_const, and_true] at hd
            simp only [setAll, dstAt, List.getElem?_toArray, List.getElem?_cons_zero, List.getElem?_cons_succ, Option.bind_some, Act.put, List.setIfInBounds_toArray, List.set_cons_zero, List.set_cons_succ, rAt, List.getD_cons_zero, List.getD_cons_succ] at hK ⊢
            simp only [hd] at hK ⊢
            go_wp2_with fail
            exact hK _ _ rfl (Below.refl _ _)
          case s2 =>
            intro z u hu hd K hK
            simp only [depsR, rAt, List.getD_cons_zero, List.getD_cons_succ, Region.binds, forall_const, and_true] at hd
            simp only [setAll, dstAt, List.getElem?_toArray, List.getElem?_cons_zero, List.getElem?_cons_succ, Option.bind_some, Act.put, List.setIfInBounds_toArray, List.set_cons_zero, List.set_cons_succ, rAt, List.getD_cons_zero, List.getD_cons_succ] at hK ⊢
            simp only [hd] at hK ⊢
            go_wp2_with fail
            exact hK _ _ rfl (Below.refl _ _)
          case s3 =>
            intro z u hu hd K hK
            simp only [depsR, rAt, List.getD_cons_zero, List.getD_cons_succ, Region.binds, forall_const, and_true] at hd
            simp only [setAll, dstAt, List.getElem?_toArray, List.getElem?_cons_zero, List.getElem?_cons_succ, Option.bind_some, Act.put, List.setIfInBounds_toArray, List.set_cons_zero, List.set_cons_succ, rAt, List.getD_cons_zero, List.getD_cons_succ] at hK ⊢
            simp only [hd] at hK ⊢
            go_wp2_with fail
            exact hK _ _ rfl (Below.refl _ _)
          case s4 =>
            intro z u hu hd K hK
            simp only [depsR, rAt, List.getD_cons_zero, List.getD_cons_succ, Region.binds, forall_const, and_true] at hd
            simp only [setAll, dstAt, List.getElem?_toArray, List.getElem?_cons_zero, List.getElem?_cons_succ, Option.bind_some, Act.put, List.setIfInBounds_toArray, List.set_cons_zero, List.set_cons_succ, rAt, List.getD_cons_zero, List.getD_cons_succ] at hK ⊢
            have hXu := (hu.block _ (Array.getElem?_eq_some_iff.1 hB7).1).trans hB7
            simp only [hd] at hK ⊢
            go_wp2_with (refine wpList_load_rowg (by kernel_rfl) 49 (.tmp 7) rfl S rfl 49 _ (0, 0) (.struct (Try.prog.fieldsOf 49)) hXu (by kernel_rfl) rfl (by kernel_rfl) ?_)
            exact hK _ _ rfl (Below.refl _ _)
          case s5 =>
            intro z u hu hd K hK
            simp only [depsR, rAt, List.getD_cons_zero, List.getD_cons_succ, Region.binds, forall_const, and_true] at hd
            simp only [setAll, dstAt, List.getElem?_toArray, List.getElem?_cons_zero, List.getElem?_cons_succ, Option.bind_some, Act.put, List.setIfInBounds_toArray, List.set_cons_zero, List.set_cons_succ, rAt, List.getD_cons_zero, List.getD_cons_succ] at hK ⊢
            simp only [hd] at hK ⊢
            go_wp2_with fail
            refine (HB'.out u (h7.mono hu)).mono ?_
            rintro e u2 ⟨v, rfl, hv, hbz⟩
            dsimp only
            go_wp2_with fail
            exact hK _ _ hv hbz
          case s6 =>
            intro z u hu hd K hK
            simp only [depsR, rAt, List.getD_cons_zero, List.getD_cons_succ, Region.binds, forall_const, and_true] at hd
            simp only [setAll, dstAt, List.getElem?_toArray, List.getElem?_cons_zero, List.getElem?_cons_succ, Option.bind_some, Act.put, List.setIfInBounds_toArray, List.set_cons_zero, List.set_cons_succ, rAt, List.getD_cons_zero, List.getD_cons_succ] at hK ⊢
            obtain ⟨h3, h5, h2⟩ := hd
            simp only [h3, h2] at hK ⊢
            go_wp2_with fail
            refine (beq_self y (z 5) Y u (hy.mono hu) h5).mono ?_
            rintro e u2 ⟨rfl, hbz⟩
            dsimp only
            go_wp2_with fail
            exact hK _ _ rfl hbz
          case s7 =>
            intro z u hu hd K hK
            simp only [depsR, rAt, List.getD_cons_zero, List.getD_cons_succ, Region.binds, forall_const, and_true] at hd
            simp only [setAll, dstAt, List.getElem?_toArray, List.getElem?_cons_zero, List.getElem?_cons_succ, Option.bind_some, Act.put, List.setIfInBounds_toArray, List.set_cons_zero, List.set_cons_succ, rAt, List.getD_cons_zero, List.getD_cons_succ] at hK ⊢
            simp only [hd] at hK ⊢
            go_wp2_with fail
            exact hK _ _ rfl (Below.refl _ _)
          case s8 =>
            intro z u hu hd K hK
            simp only [depsR, rAt, List.getD_cons_zero, List.getD_cons_succ, Region.binds, forall_const, and_true] at hd
            simp only [setAll, dstAt, List.getElem?_toArray, List.getElem?_cons_zero, List.getElem?_cons_succ, Option.bind_some, Act.put, List.setIfInBounds_toArray, List.set_cons_zero, List.set_cons_succ, rAt, List.getD_cons_zero, List.getD_cons_succ] at hK ⊢
            simp only [hd] at hK ⊢
            go_wp2_with fail
            exact hK _ _ rfl (Below.refl _ _)
          case s9 =>
            intro z u hu hd K hK
            simp only [depsR, rAt, List.getD_cons_zero, List.getD_cons_succ, Region.binds, forall_const, and_true] at hd
            simp only [setAll, dstAt, List.getElem?_toArray, List.getElem?_cons_zero, List.getElem?_cons_succ, Option.bind_some, Act.put, List.setIfInBounds_toArray, List.set_cons_zero, List.set_cons_succ, rAt, List.getD_cons_zero, List.getD_cons_succ] at hK ⊢
            simp only [hd] at hK ⊢
            go_wp2_with fail
            exact hK _ _ rfl (Below.refl _ _)
          case s10 =>
            intro z u hu hd K hK
            simp only [depsR, rAt, List.getD_cons_zero, List.getD_cons_succ, Region.binds, forall_const, and_true] at hd
            simp only [setAll, dstAt, List.getElem?_toArray, List.getElem?_cons_zero, List.getElem?_cons_succ, Option.bind_some, Act.put, List.setIfInBounds_toArray, List.set_cons_zero, List.set_cons_succ, rAt, List.getD_cons_zero, List.getD_cons_succ] at hK ⊢
            have hXu := (hu.block _ (Array.getElem?_eq_some_iff.1 hB7).1).trans hB7
            simp only [hd] at hK ⊢
            go_wp2_with (refine wpList_load_rowg (by kernel_rfl) 49 (.tmp 7) rfl S rfl 49 _ (0, 0) (.struct (Try.prog.fieldsOf 49)) hXu (by kernel_rfl) rfl (by kernel_rfl) ?_)
            exact hK _ _ rfl (Below.refl _ _)
          case s11 =>
            intro z u hu hd K hK
            simp only [depsR, rAt, List.getD_cons_zero, List.getD_cons_succ, Region.binds, forall_const, and_true] at hd
            simp only [setAll, dstAt, List.getElem?_toArray, List.getElem?_cons_zero, List.getElem?_cons_succ, Option.bind_some, Act.put, List.setIfInBounds_toArray, List.set_cons_zero, List.set_cons_succ, rAt, List.getD_cons_zero, List.getD_cons_succ] at hK ⊢
            have hXu := (hu.block _ (Array.getElem?_eq_some_iff.1 hB6).1).trans hB6
            simp only [hd] at hK ⊢
            go_wp2_with (refine wpList_load_rowg (by kernel_rfl) 49 (.tmp 6) rfl S6 rfl 49 _ (0, 0) (.struct (Try.prog.fieldsOf 49)) hXu (by kernel_rfl) rfl (by kernel_rfl) ?_)
            exact hK _ _ rfl (Below.refl _ _)
          case s12 =>
            intro z u hu hd K hK
            simp only [depsR, rAt, List.getD_cons_zero, List.getD_cons_succ, Region.binds, forall_const, and_true] at hd
            simp only [setAll, dstAt, List.getElem?_toArray, List.getElem?_cons_zero, List.getElem?_cons_succ, Option.bind_some, Act.put, List.setIfInBounds_toArray, List.set_cons_zero, List.set_cons_succ, rAt, List.getD_cons_zero, List.getD_cons_succ] at hK ⊢
            simp only [hd] at hK ⊢
            go_wp2_with fail
            refine (HC.out u (h6.mono hu)).mono ?_
            rintro e u2 ⟨v, rfl, hv, hbz⟩
            dsimp only
            go_wp2_with fail
            exact hK _ _ hv hbz
          case s13 =>
            intro z u hu hd K hK
            simp only [depsR, rAt, List.getD_cons_zero, List.getD_cons_succ, Region.binds, forall_const, and_true] at hd
            simp only [setAll, dstAt, List.getElem?_toArray, List.getElem?_cons_zero, List.getElem?_cons_succ, Option.bind_some, Act.put, List.setIfInBounds_toArray, List.set_cons_zero, List.set_cons_succ, rAt, List.getD_cons_zero, List.getD_cons_succ] at hK ⊢
            obtain ⟨h10, h12, h9⟩ := hd
            simp only [h10, h9] at hK ⊢
            go_wp2_with fail
            refine (HS.out (z 12) u (h7.mono hu) h12).mono ?_
            rintro e u2 ⟨rfl, hbz⟩
            dsimp only
            go_wp2_with fail
            exact hK _ _ rfl hbz
          case s14 =>
            intro z u hu hd K hK
            simp only [depsR, rAt, List.getD_cons_zero, List.getD_cons_succ, Region.binds, forall_const, and_true] at hd
            simp only [setAll, dstAt, List.getElem?_toArray, List.getElem?_cons_zero, List.getElem?_cons_succ, Option.bind_some, Act.put, List.setIfInBounds_toArray, List.set_cons_zero, List.set_cons_succ, rAt, List.getD_cons_zero, List.getD_cons_succ] at hK ⊢
            simp only [hd] at hK ⊢
            go_wp2_with fail
            exact hK _ _ rfl (Below.refl _ _)
          case fin =>
            intro z u hu hR
            simp only [allR, Nat.zero_add, Nat.reduceAdd, and_true] at hR
            obtain ⟨-, -, -, -, -, -, -, -, -, h9, -, -, -, -, h14⟩ := hR
            simp only [setAll, dstAt, List.getElem?_toArray, List.getElem?_cons_zero, List.getElem?_cons_succ, Option.bind_some, Act.put, List.setIfInBounds_toArray, List.set_cons_zero, List.set_cons_succ, List.drop_succ_cons, List.drop_zero]
            replace hbr := hbr.trans (hu.mono hbr.size)
            rw [h9, h14]
            generalize z 0 = z0, z 1 = z1, z 2 = z2, z 3 = z3, z 4 = z4, z 5 = z5, z 6 = z6, z 7 = z7, z 8 = z8, z 10 = z10, z 11 = z11, z 12 = z12, z 13 = z13 at *
            clear hu h6 h7 hy hB6 hB7 HB' HC HS
            go_wp2_with fail
            go_roundw
            case rel => exact ⟨k + 1, by omega, by omega, by go_num, hbr⟩
            case measure => simp [intOf]; omega
        · refine (HN.out w6 h7 hno).mono ?_
          rintro e w7 ⟨rfl, hb7⟩
          replace hbr := hbr.trans (hb7.mono hbr.size)
          clear hb7 HO HN HB
          dsimp only
          go_wp2_with fail
          go_roundw
          case rel => exact ⟨k + 1, by omega, by omega, by go_num, hbr⟩
          case measure => simp [intOf]; omega
    · have hg : decide ((k : Int) < (ts.length : Int)) = false := decide_eq_false (by omega)
      go_wp2_with fail
      go_loopw [62] (fun i wx => ∃ k : Nat, k ≤ 8 ∧ k ≤ us.length ∧ i = .int .i64 k ∧ Below w.heap.size w wx) (fun i _ => 9 - (intOf i).toNat)
      case atStart => exact ⟨0, by omega, by omega, rfl, hbr⟩
      case round =>
        clear hbr hg hlt
        obtain ⟨k, hk, hkl, rfl, hbr⟩ := hrel
        by_cases hlt : k < us.length
        · obtain ⟨bk, o, rfl, hrange⟩ := hur.out (by omega)
          have hg : decide ((k : Int) < (us.length : Int)) = true := decide_eq_true (by omega)
          have hrow := hrange k hlt
          have hgc := hug.out k hlt
          generalize us.getD k default = c at *
          obtain ⟨dv, bs⟩ := c
          have hub := hgc.1.mono hbr
          clear hgc
          simp only [Bs8.row, Nat.mul_one] at hrow
          have hc0 : w.cell? ⟨bk, o + k, none⟩ = some dv := hrow 0 _ rfl
          have hcx := (hbr.cell (p := ⟨bk, o + k, none⟩) (block_lt_of_cell hc0)).trans hc0
          clear hrange hrow hc0
          have hub0 := hub
          obtain ⟨da, dc, hdv, hdc, -⟩ := hub0
          simp only at hdv hub hdc
          subst hdv
          by_cases h8 : k = 8
          · subst h8
            have h8 : (((8 : Nat) : Int) == 8) = true := by decide
            clear hub
            go_wp2_with fail
            go_ret
            exact ⟨ret_val rfl, hbr⟩
          · have h8' : ((k : Int) == 8) = false := by simp; omega
            have hkl8 : k < 8 := by omega
            go_upto_region 19 with fail
            iterate 4 go_step
            obtain ⟨w4, hw4, hbl4, hb4, -⟩ := allocs_named wr [.cells #[] 5]
            change wpList _ _ _ _ _ (List.foldl World.alloc wr [.cells #[] 5])
            rw [hw4]
            have hG : w4.heap[wr.heap.size]? = some (.cells #[] 5 (0, 0)) := hbl4 0
            have hs4 : wr.heap.size ≤ w4.heap.size := hb4.size
            replace hub := (hub.mono hb4).takeN 2300
            replace hbr := hbr.trans (hb4.mono hbr.size)
            clear hbl4 hw4 hb4 hcx
            have hql : (bs.take 2300).length = min bs.length 2300 := by simp [Nat.min_comm]
            obtain ⟨q, hq⟩ : ∃ q, q = (bs.take 2300).length := ⟨_, rfl⟩
            have hmin : (if 2300 < (bs.length : Int) then 2300 else (bs.length : Int)) = (q : Int) := by rw [hq, hql]; omega
            have hq' : q ≤ dc := by rw [hq, hql]; omega
            have hsm : (bs.take 2300).length ≤ 100000 := by rw [hql]; omega
            rw [← hq] at hub
            clear hql
            generalize bs.take 2300 = bq at *
            generalize bs.length = bn at *
            replace hq := Lib.hid hq
            replace hsm := Lib.hid hsm
            go_wp2_with (first
              | (refine wpList_slice_head rfl (.tmp 70) (.tmp 73) rfl da bn dc q hq' rfl rfl ?_)
              | (refine wpList_fresh_bytes rfl (.tmp 69) (.tmp 74) rfl wr.heap.size wr.heap.size rfl hG (Nat.le_refl _) hs4 _ bq rfl hub hsm.out ?_))
            intro v5 w5 hown hb5
            replace hbr := hbr.trans (hb5.mono hbr.size)
            have hb := hown.rd
            clear hown hub hG hb5 hs4 hq' hmin hsm hdc
            have hb0 := hb
            obtain ⟨ga, gc, rfl, hgc, hgr⟩ := hb0
            rw [← hq.out] at hgc
            have hq2 := hq.out
            rw [← hq2]
            rw [← hq2] at hb
            clear hq2
            by_cases hgood : bq.length = 2241 ∧ (bq.getD 0 0).toNat < 8
            · obtain ⟨hg1, hg2⟩ := hgood
              obtain rfl : q = 2241 := by rw [hq.out, hg1]
              obtain ⟨gb, go, rfl, hcell⟩ := hgr (by omega)
              have hx0 := hcell 0 (by omega)
              rw [Nat.add_zero] at hx0
              have HD := Lib.hid (fun y w h => decode_ok y bq w h hg1 hg2)
              have HB := Lib.hid (fun v w h => bytes40_any v (bq.getD 0 0).toNat ((chunksS bq 70).take 67) ((chunksS bq 70).drop 67) w h (by rw [List.length_take, chunksS_length]; omega) (by rw [List.length_drop, chunksS_length]; omega))
              have HO := Lib.hid (fun v w h => right_ok v ((bq.getD 0 0).toNat : Int) ((chunksS bq 70).take 67) ((chunksS bq 70).drop 67) w h ⟨by omega, by omega, by rw [List.length_take, chunksS_length]; rfl, by rw [List.length_drop, chunksS_length]⟩)
              rw [bytS_back hg1] at HB
              generalize (chunksS bq 70).take 67 = k67 at *
              generalize (chunksS bq 70).drop 67 = k3 at *
              generalize hxd : bq.getD 0 0 = xb at *
              have hge : decide ((8 : Int) ≤ (xb.toNat : Int)) = false := decide_eq_false (by omega)
              clear hg1 hgr hcell hxd
              go_wp2_with fail
              refine (HD.out _ w5 hb).mono ?_
              rintro e w6 ⟨v10, rfl, h10, hb6⟩
              have h10' := h10
              obtain ⟨cv10, pv10, rfl, ⟨ca10, cc10, rfl, -, -, -⟩, ⟨pa10, pc10, rfl, -, -, -⟩⟩ := h10'
              replace hb := hb.mono hb6
              replace hx0 := (hb6.cell (p := ⟨gb, go, none⟩) (block_lt_of_cell hx0)).trans hx0
              replace hbr := hbr.trans (hb6.mono hbr.size)
              generalize k67.length = n67 at *
              generalize k3.length = n3 at *
              clear hb6 HD
              dsimp only
              go_upto_region 23 with (refine wpList_store_new rfl 49 (.tmp 13) (.tmp 79) rfl _ _ #[.int .i64 (xb.toNat : Int), .slice ca10 n67 cc10, .slice pa10 n3 pc10] rfl rfl (by kernel_rfl) rfl (by simp [Value.oneCell']) ?_)
              have hB10 : (w6.alloc (Obj.cells #[.int .i64 (xb.toNat : Int), .slice ca10 n67 cc10, .slice pa10 n3 pc10] 49)).heap[w6.heap.size]? = some (.cells #[.int .i64 (xb.toNat : Int), .slice ca10 n67 cc10, .slice pa10 n3 pc10] 49 (0, 0)) := heap_alloc_new w6 _
              have hb7 : Below w6.heap.size w6 (w6.alloc (Obj.cells #[.int .i64 (xb.toNat : Int), .slice ca10 n67 cc10, .slice pa10 n3 pc10] 49)) := (Below.refl _ _).alloc (Nat.le_refl _) _
              replace h10 := h10.mono hb7
              replace hb := hb.mono hb7
              replace hx0 := (hb7.cell (p := ⟨gb, go, none⟩) (block_lt_of_cell hx0)).trans hx0
              replace hbr := hbr.trans (hb7.mono hbr.size)
              generalize w6.alloc (Obj.cells #[.int .i64 (xb.toNat : Int), .slice ca10 n67 cc10, .slice pa10 n3 pc10] 49) = w7 at *
              generalize w6.heap.size = T at *
              clear hb7
              go_wp2_with (refine wpList_load_rowg (by kernel_rfl) 49 (.tmp 13) rfl T rfl 49 _ (0, 0) (.struct (Try.prog.fieldsOf 49)) hB10 (by kernel_rfl) rfl (by kernel_rfl) ?_)
              refine (HO.out _ w7 h10).mono ?_
              rintro e w8 ⟨rfl, hb8⟩
              replace hB10 := (hb8.block _ (Array.getElem?_eq_some_iff.1 hB10).1).trans hB10
              replace h10 := h10.mono hb8
              replace hb := hb.mono hb8
              replace hbr := hbr.trans (hb8.mono hbr.size)
              clear hb8 hx0
              dsimp only
              go_wp2_with (refine wpList_load_rowg (by kernel_rfl) 49 (.tmp 13) rfl T rfl 49 _ (0, 0) (.struct (Try.prog.fieldsOf 49)) hB10 (by kernel_rfl) rfl (by kernel_rfl) ?_)
              refine (HB.out _ w8 h10).mono ?_
              rintro e w9 ⟨y9, rfl, hy9, hb9⟩
              replace hb := hb.mono hb9
              replace hbr := hbr.trans (hb9.mono hbr.size)
              dsimp only
              go_wp2_with fail
              refine (beq_self _ _ bq w9 hy9 hb).mono ?_
              rintro e w10 ⟨rfl, hb10⟩
              replace hbr := hbr.trans (hb10.mono hbr.size)
              dsimp only
              go_wp2_with fail
              go_roundw
              case rel => exact ⟨k + 1, by omega, by omega, by go_num, hbr⟩
              case measure => simp [intOf]; omega
            · have HD := Lib.hid (fun y w h => decode_bad y bq w h hgood)
              rw [← hq.out] at HD
              have hbz := build49z
              go_wp2_with fail
              refine (HD.out _ w5 hb).mono ?_
              rintro e w6 ⟨rfl, hb6⟩
              replace hb := hb.mono hb6
              replace hbr := hbr.trans (hb6.mono hbr.size)
              clear hb6 HD hgr
              dsimp only
              go_upto_region 23 with (refine wpList_store_new rfl 49 (.tmp 13) (.tmp 79) rfl _ _ zero49 rfl rfl (by kernel_rfl) rfl (by kernel_rfl) ?_)
              have hB10 : (w6.alloc (Obj.cells zero49 49)).heap[w6.heap.size]? = some (.cells zero49 49 (0, 0)) := heap_alloc_new w6 _
              replace hb := hb.mono ((Below.refl _ _).alloc (Nat.le_refl _) (Obj.cells zero49 49))
              replace hbr := hbr.alloc hbr.size (Obj.cells zero49 49)
              generalize w6.alloc (Obj.cells zero49 49) = w7 at *
              generalize w6.heap.size = T at *
              by_cases hs : q < 2241
              · have d1 : decide ((q : Int) < 2241) = true := decide_eq_true (by omega)
                rw [if_pos hs]
                go_wp2_with (refine wpList_load_rowg (by kernel_rfl) 49 (.tmp 13) rfl T rfl 49 _ (0, 0) (.struct (Try.prog.fieldsOf 49)) hB10 (by kernel_rfl) rfl (by kernel_rfl) ?_)
                refine (same_zero w7).mono ?_
                rintro e w8 ⟨rfl, hb8⟩
                replace hbr := hbr.trans (hb8.mono hbr.size)
                dsimp only
                go_wp2_with fail
                go_roundw
                case rel => exact ⟨k + 1, by omega, by omega, by go_num, hbr⟩
                case measure => simp [intOf]; omega
              · have d1 : decide ((q : Int) < 2241) = false := decide_eq_false (by omega)
                rw [if_neg hs]
                by_cases hl : 2241 < q
                · have d2 : decide ((2241 : Int) < (q : Int)) = true := decide_eq_true (by omega)
                  go_wp2_with (refine wpList_load_rowg (by kernel_rfl) 49 (.tmp 13) rfl T rfl 49 _ (0, 0) (.struct (Try.prog.fieldsOf 49)) hB10 (by kernel_rfl) rfl (by kernel_rfl) ?_)
                  refine (same_zero w7).mono ?_
                  rintro e w8 ⟨rfl, hb8⟩
                  replace hbr := hbr.trans (hb8.mono hbr.size)
                  dsimp only
                  go_wp2_with fail
                  go_roundw
                  case rel => exact ⟨k + 1, by omega, by omega, by go_num, hbr⟩
                  case measure => simp [intOf]; omega
                · have hq3 : q = 2241 := by omega
                  subst hq3
                  have d2 : decide ((2241 : Int) < ((2241 : Nat) : Int)) = false := by decide
                  have hlen : bq.length = 2241 := hq.out.symm
                  obtain ⟨_, _, hve, _, hrr⟩ := hb
                  rw [hlen] at hve
                  cases hve
                  obtain ⟨gb, go, rfl, hcell⟩ := hrr (by omega)
                  have hx0 := hcell 0 (by omega)
                  rw [Nat.add_zero] at hx0
                  generalize hxd : bq.getD 0 0 = xb at *
                  have hge : decide ((8 : Int) ≤ (xb.toNat : Int)) = true := decide_eq_true (by omega)
                  clear hgood hcell hrr hlen hxd
                  go_wp2_with (refine wpList_load_rowg (by kernel_rfl) 49 (.tmp 13) rfl T rfl 49 _ (0, 0) (.struct (Try.prog.fieldsOf 49)) hB10 (by kernel_rfl) rfl (by kernel_rfl) ?_)
                  refine (same_zero w7).mono ?_
                  rintro e w8 ⟨rfl, hb8⟩
                  replace hbr := hbr.trans (hb8.mono hbr.size)
                  dsimp only
                  go_wp2_with fail
                  go_roundw
                  case rel => exact ⟨k + 1, by omega, by omega, by go_num, hbr⟩
                  case measure => simp [intOf]; omega
        · have hg : decide ((k : Int) < (us.length : Int)) = false := decide_eq_false (by omega)
          go_wp2_with fail
          go_ret
          exact ⟨ret_val rfl, hbr⟩
end Go.Proofs.Ytcfkapoppmpehaa

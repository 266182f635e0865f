/-
  ShaReturns: digits lead to their digest, and a digest to its digits: the plain law.
-/
import Derived.Test.YtcfkapoppmpehaaRefp
import Derived.Test.YtcfkapoppmpehaaL03
import Derived.Lib.BufferRead
namespace Go.Proofs.Ytcfkapoppmpehaa
open Go.RowKit

theorem hexS_getD : ∀ (y : List UInt8) (i : Nat), i < 2 * y.length → (hexS y).getD i 0 = sg (if i % 2 = 0 then (y.getD (i / 2) 0).toNat / 16 else (y.getD (i / 2) 0).toNat % 16)
  | [], i, h => by simp at h
  | c :: y, i, h => by
    have e : hexS (c :: y) = sg (c.toNat / 16) :: sg (c.toNat % 16) :: hexS y := rfl
    rw [e]
    match i, h with
    | 0, _ => rfl
    | 1, _ => rfl
    | i + 2, h =>
      rw [List.getD_cons_succ, List.getD_cons_succ, hexS_getD y i (by simp at h; omega)]
      rw [show (i + 2) % 2 = i % 2 by omega, show (i + 2) / 2 = i / 2 + 1 by omega, List.getD_cons_succ]
theorem sg_back (b : UInt8) (n : Nat) (hn : n < 16) (h : hv b.toNat = n) : sg n = b := ((sg_hv b n hn).2 h).symm
theorem hv_sg (n : Nat) (hn : n < 16) : hv (sg n).toNat = n := (sg_hv (sg n) n hn).1 rfl
theorem says_hexS (x : List UInt8) (hx : x.length = 32) : says (hexS x) = true := by
  rw [says_iff]
  refine ⟨by rw [hexS_length, hx], fun j hj => ?_⟩
  rw [hexS_getD x j (by omega)]
  have := (x.getD (j / 2) 0).toNat_lt
  split <;> rw [hv_sg _ (by omega)] <;> omega
theorem acc_hexS (x : List UInt8) (hx : x.length = 32) : acc (hexS x) 64 = x := by
  refine ext_getD (by rw [acc_length, hx]) fun i hi => ?_
  rw [acc_length] at hi
  have := (x.getD i 0).toNat_lt
  rw [acc_at _ _ _ hi, if_pos (by omega), hexS_getD x (2 * i) (by omega), hexS_getD x (2 * i + 1) (by omega), if_pos (by omega), if_neg (by omega)]
  rw [show 2 * i / 2 = i by omega, show (2 * i + 1) / 2 = i by omega, hv_sg _ (by omega), hv_sg _ (by omega)]
  rw [show 16 * ((x.getD i 0).toNat / 16) + (x.getD i 0).toNat % 16 = (x.getD i 0).toNat by omega]
  simp
theorem hexS_acc (l : List UInt8) (h : says l = true) : hexS (acc l 64) = l := by
  obtain ⟨hl, hq⟩ := (says_iff l).1 h
  refine ext_getD (by rw [hexS_length, acc_length, hl]) fun i hi => ?_
  rw [hexS_length, acc_length] at hi
  rw [hexS_getD _ i (by rw [acc_length]; exact hi), acc_at _ _ _ (by omega), if_pos (show 2 * (i / 2) + 1 < 64 by omega)]
  have h0 := hq (2 * (i / 2)) (by omega)
  have h1 := hq (2 * (i / 2) + 1) (by omega)
  rw [UInt8.toNat_ofNat']
  by_cases hp : i % 2 = 0
  · rw [if_pos hp]
    have e : 2 * (i / 2) = i := by omega
    rw [e] at h0 h1 ⊢
    refine sg_back _ _ (by omega) ?_
    generalize hv (l.getD i 0).toNat = A at *
    generalize hv (l.getD (i + 1) 0).toNat = B at *
    omega
  · rw [if_neg hp]
    have e : 2 * (i / 2) + 1 = i := by omega
    rw [e] at h1 ⊢
    refine sg_back _ _ (by omega) ?_
    generalize hv (l.getD i 0).toNat = A at *
    generalize hv (l.getD (2 * (i / 2)) 0).toNat = B at *
    omega
/-- One sign is another one. -/
theorem says_set (x : List UInt8) (hx : x.length = 32) (k : Nat) (hk : k < 64) (c : UInt8) : says ((hexS x).set k c) = decide (hv c.toNat < 16) := by
  have hl : (hexS x).length = 64 := by rw [hexS_length, hx]
  by_cases h : hv c.toNat < 16
  · rw [decide_eq_true h, says_iff]
    refine ⟨by rw [List.length_set, hl], fun j hj => ?_⟩
    rw [getD_set _ _ _ _ (by omega)]
    split
    · exact h
    · exact ((says_iff _).1 (says_hexS x hx)).2 j hj
  · rw [decide_eq_false h]
    refine says_no _ k hk ?_
    rw [getD_set _ _ _ _ (by omega), if_pos rfl]
    omega
def strOf (l : List UInt8) : ByteArray := ⟨l.toArray⟩
theorem strOf_list (l : List UInt8) : (strOf l).data.toList = l := rfl
theorem strOf_size (l : List UInt8) : (strOf l).size = l.length := rfl
theorem strOf_back (s : ByteArray) : strOf s.data.toList = s := by
  apply ByteArray.ext
  simp [strOf]
/-- What Parse answers: a digest, and whether it is one. -/
theorem parse_two (s : ByteArray) : ∃ (y : List UInt8) (e : Int), y.length = 32 ∧ (∀ w, Calls Try.prog 30 #[.string s] w fun e' w' => e' = .returned (.tuple #[bagg y, .int .i64 e]) ∧ Below w.heap.size w w') ∧
    (says s.data.toList = true → e = 0 ∧ y = acc s.data.toList 64 ∧ strOf (hexS y) = s) ∧ (says s.data.toList = false → e = 130) := by
  refine ⟨if says s.data.toList then acc s.data.toList 64 else List.replicate 32 0, if says s.data.toList then 0 else 130, ?_, fun w => parse_any s w, fun h => ?_, fun h => ?_⟩
  · split
    · exact acc_length _ _
    · rfl
  · rw [if_pos h, if_pos h]
    exact ⟨rfl, rfl, by rw [hexS_acc _ h, strOf_back]⟩
  · rw [h]; rfl

/-- '[]byte(s)': a new block of the string's bytes. -/
theorem conv_bytes (l : List UInt8) (w : World) : ∃ cap w', (convert 9 42 (.string (strOf l))).run Try.prog w = .ok (.slice (some ⟨w.heap.size, 0, none⟩) l.length cap) w' ∧ Below w.heap.size w w' ∧ l.length ≤ cap ∧ w.heap.size < w'.heap.size ∧
    ∀ j, j < l.length → w'.cell? ⟨w.heap.size, j, none⟩ = some (bv (l.getD j 0)) ∧ w'.frozen? ⟨w.heap.size, j, none⟩ = false := by
  have h := run_bytes_of_string (P := Try.prog) w 9 42 5 (strOf l) (by kernel_rfl) (by kernel_rfl) (by kernel_rfl)
  have hg := grownCap_ge w (strOf l).size 0 5
  generalize grownCap w (strOf l).size 0 5 = cap at *
  rw [strOf_size] at hg h
  refine ⟨cap, _, h, ((Below.refl _ _).drew.alloc (Nat.le_refl _) _), hg, ?_, fun j hj => ?_⟩
  · show _ < (w.heap.push _).size
    simp
  · have hh : (w.drew.alloc (.cells (bytesRow (strOf l) cap) 5 ((bytesRow (strOf l) cap).size, (bytesRow (strOf l) cap).size + 1))).heap[w.heap.size]? = some (.cells (bytesRow (strOf l) cap) 5 ((bytesRow (strOf l) cap).size, (bytesRow (strOf l) cap).size + 1)) := heap_alloc_new w.drew _
    constructor
    · rw [cell_of_row _ _ _ _ _ _ hh, bytesRow_at (strOf l) cap j (by simpa [strOf] using hj)]
      simp [strOf, hj]
    · have hsz : l.length ≤ (bytesRow (strOf l) cap).size := by simp [bytesRow, strOf]
      unfold World.frozen?
      rw [hh]
      simp
      omega
theorem rd_set {w : World} {g k : Nat} {c : UInt8} {l : List UInt8} (hr : ∀ j, j < l.length → w.cell? ⟨g, j, none⟩ = some (bv (l.getD j 0))) (hk : k < l.length) (j : Nat) (hj : j < l.length) :
    (w.setCell ⟨g, k, none⟩ (bv c)).cell? ⟨g, j, none⟩ = some (bv ((l.set k c).getD j 0)) := by
  rw [getD_set _ _ _ _ hk]
  by_cases e : k = j
  · subst e
    rw [if_pos rfl]
    exact World.cell?_setCell_same' _ _ _ (by rw [hr k hk]; rfl)
  · rw [if_neg e, ← hr j hj]
    exact World.cell?_setCell_other _ _ _ _ (by intro h; cases h; exact e rfl)

/-- 'uint(z) % 64'. -/
theorem at_64 (z : Int) : ∃ (k : Nat) (zz : Int), k < 64 ∧ (∀ w, (convert 3 43 (.int .i64 z)).run Try.prog w = .ok (.int .u64 zz) w) ∧ zz.tmod 64 = k := by
  have h3 : Try.prog.underlying 3 = some (.int .i64) := by kernel_rfl
  have h43 : Try.prog.underlying 43 = some (.int .u64) := by kernel_rfl
  refine ⟨(IntKind.u64.wrap z % 64).toNat, IntKind.u64.wrap z, by omega, fun w => ?_, ?_⟩
  · simp [convert, run_underlying h3, run_underlying h43, Conv.intToInt]
  · have h0 : 0 ≤ IntKind.u64.wrap z := by rw [IntKind.wrap_u64]; omega
    rw [Int.tmod_eq_emod_of_nonneg h0]; omega
/-- 'string(b)'. -/
theorem rd_convert {w : World} {v : Value} {bs : List UInt8} (h : RdB w v bs) : (convert 42 9 v).run Try.prog w = .ok (.string (strOf bs)) w := by
  obtain ⟨a, cap, rfl, hc, hr⟩ := h
  by_cases h0 : 0 < bs.length
  · obtain ⟨b, o, rfl, hj⟩ := hr h0
    exact run_convert_bytes_back w 42 9 5 ⟨b, o, none⟩ cap bs (by kernel_rfl) (by kernel_rfl) (by kernel_rfl) (fun j h => by rw [Addr.add_mid, hj j h]; simp [h])
  · have hb : bs = [] := List.length_eq_zero_iff.1 (by omega)
    subst hb
    cases a with
    | none => exact Lib.run_convert_nil_bytes w 42 9 5 cap (by kernel_rfl) (by kernel_rfl) (by kernel_rfl)
    | some a => exact run_convert_bytes_back w 42 9 5 a cap [] (by kernel_rfl) (by kernel_rfl) (by kernel_rfl) (fun j h => by simp at h)
theorem sign_cases (c : UInt8) : (((decide ((48 : Int) ≤ (c.toNat : Int)) = true ∧ decide ((c.toNat : Int) ≤ 57) = true) ∨ (decide ((48 : Int) ≤ (c.toNat : Int)) = true ∧ decide ((c.toNat : Int) ≤ 57) = false ∧ decide ((97 : Int) ≤ (c.toNat : Int)) = true ∧ decide ((c.toNat : Int) ≤ 102) = true)) ∧ decide (hv c.toNat < 16) = true) ∨
    (((decide ((48 : Int) ≤ (c.toNat : Int)) = false ∧ decide ((97 : Int) ≤ (c.toNat : Int)) = false) ∨ (decide ((48 : Int) ≤ (c.toNat : Int)) = true ∧ decide ((c.toNat : Int) ≤ 57) = false ∧ decide ((97 : Int) ≤ (c.toNat : Int)) = false) ∨
      (decide ((48 : Int) ≤ (c.toNat : Int)) = true ∧ decide ((c.toNat : Int) ≤ 57) = false ∧ decide ((97 : Int) ≤ (c.toNat : Int)) = true ∧ decide ((c.toNat : Int) ≤ 102) = false)) ∧ decide (hv c.toNat < 16) = false) := by
  simp only [decide_eq_true_eq, decide_eq_false_iff_not]
  unfold hv
  by_cases h1 : 48 ≤ c.toNat ∧ c.toNat ≤ 57
  · rw [if_pos h1]; omega
  · rw [if_neg h1]
    by_cases h2 : 97 ≤ c.toNat ∧ c.toNat ≤ 102
    · rw [if_pos h2]; omega
    · rw [if_neg h2]; omega
theorem text_str (x : List UInt8) (hx : x.length = 32) (w : World) :
    Calls Try.prog 32 #[bagg x] w fun e w' => e = .returned (.string (strOf (hexS x))) ∧ Below w.heap.size w w' := text_any x hx w
set_option maxRecDepth 100000 in
set_option maxHeartbeats 4000000 in
theorem shaReturns_any (a : List UInt8) (ha : a.length = 32) (z : Int) (c : UInt8) (s : ByteArray) (w : World) :
    Calls Try.prog 5 #[bagg a, .int .i64 z, bv c, .string s] w fun e w' => e = .returned (.bool true) ∧ Below w.heap.size w w' := by
  obtain ⟨k, zz, hk, hz1, hz2⟩ := at_64 z
  have hhl : (hexS a).length = 64 := by rw [hexS_length, ha]
  obtain ⟨x1, e1, hx1, H1, y1, _⟩ := parse_two (strOf (hexS a))
  obtain ⟨rfl, rfl, _⟩ := y1 (by rw [strOf_list]; exact says_hexS a ha)
  obtain ⟨x2, e2, hx2, H2, y2, n2⟩ := parse_two (strOf ((hexS a).set k c))
  obtain ⟨x3, e3, hx3, H3, y3, n3⟩ := parse_two s
  rw [strOf_list, says_set a ha k hk c] at y2 n2
  rw [strOf_list, acc_hexS a ha] at H1
  have T1 := Lib.hid (text_str a ha)
  have T2 := Lib.hid (text_str x2 hx2)
  have T3 := Lib.hid (text_str x3 hx3)
  have hE := equal_id a a ha ha
  have hs64 : ((strOf (hexS a)).size : Int) = 64 := by rw [strOf_size, hhl]; rfl
  have HC := Lib.hid (conv_bytes (hexS a))
  generalize hT : hexS a = t at *
  clear hT
  replace H1 := Lib.hid H1
  replace H2 := Lib.hid H2
  replace H3 := Lib.hid H3
  have Y2 := Lib.hid y2
  have N2 := Lib.hid n2
  have Y3 := Lib.hid y3
  have N3 := Lib.hid n3
  have Hhl := Lib.hid hhl
  clear y1 y2 y3 n2 n3 hhl
  go_enter Try.func5, Try.ntmps5
  go_wp2_with fail
  obtain ⟨w2, hw2, hbl, hb2, hs2⟩ := allocs_named w [.cells (a.map bv).toArray 24]
  change Calls _ _ _ (List.foldl World.alloc w [.cells (a.map bv).toArray 24]) _
  rw [hw2]
  refine (wakes03 w2).mono ?_
  rintro e w3 ⟨rfl, hb3⟩
  have hA : w3.heap[w.heap.size]? = some (.cells (a.map bv).toArray 24 (0, 0)) := (hb3.block _ (by simp at hs2; omega)).trans (hbl 0)
  have hbw := hb2.trans (hb3.mono hb2.size)
  clear hbl hb2 hs2 hb3 hw2
  dsimp only
  go_wp2_with (refine wpList_load_row rfl 24 (.tmp 4) rfl w.heap.size rfl 24 _ (0, 0) (.array 32 5) hA (by kernel_rfl) rfl (id_info a ha) ?_)
  refine (T1.out w3).mono ?_
  rintro e w4 ⟨rfl, hb4⟩
  have hA : w4.heap[w.heap.size]? = some (.cells (a.map bv).toArray 24 (0, 0)) := (hb4.block _ (Array.getElem?_eq_some_iff.1 hA).1).trans hA
  have hbw := hbw.trans (hb4.mono hbw.size)
  clear hb4
  dsimp only
  obtain ⟨S, hS⟩ : ∃ S, strOf t = S := ⟨_, rfl⟩
  rw [hS] at H1 hs64 HC ⊢
  clear hS
  go_wp2_with fail
  refine (H1.out w4).mono ?_
  rintro e w5 ⟨rfl, hb5⟩
  have hA : w5.heap[w.heap.size]? = some (.cells (a.map bv).toArray 24 (0, 0)) := (hb5.block _ (Array.getElem?_eq_some_iff.1 hA).1).trans hA
  have hbw := hbw.trans (hb5.mono hbw.size)
  clear hb5
  dsimp only
  have hA6 := (Below.heap_alloc w5 (Obj.cells (a.map bv).toArray 24) _ (Array.getElem?_eq_some_iff.1 hA).1).trans hA
  have hX6 : (w5.alloc (Obj.cells (a.map bv).toArray 24)).heap[w5.heap.size]? = some (.cells (a.map bv).toArray 24 (0, 0)) := heap_alloc_new w5 _
  have hb6 := hbw.alloc hbw.size (Obj.cells (a.map bv).toArray 24)
  clear hA hbw
  go_upto_region 7 with (first
    | (refine wpList_store_new rfl 24 (.tmp 10) (.tmp 23) rfl _ _ (a.map bv).toArray rfl rfl (id_info a ha) (id_size a ha).symm (id_one a) ?_)
    | (refine wpList_load_rowg (by kernel_rfl) 24 (.tmp 10) rfl w5.heap.size rfl 24 _ (0, 0) (.array 32 5) hX6 (by kernel_rfl) rfl (id_info a ha) ?_)
    | (refine wpList_load_rowg (by kernel_rfl) 24 (.tmp 4) rfl w.heap.size rfl 24 _ (0, 0) (.array 32 5) hA6 (by kernel_rfl) rfl (id_info a ha) ?_))
  obtain ⟨w6, hw6, hs6⟩ : ∃ w6 : World, w5.alloc (Obj.cells (a.map bv).toArray 24) = w6 ∧ w6.heap.size = w5.heap.size + 1 := ⟨_, rfl, by simp⟩
  rw [hw6] at hA6 hX6 hb6 ⊢
  clear hw6
  obtain ⟨cap, w7, hcv, hb7, hcap, hlt7, hcell⟩ := HC.out w6
  have hb7' := hb6.trans (hb7.mono hb6.size)
  have hwG : w.heap.size ≤ w6.heap.size := hb6.size
  have hk' : k < 64 := hk
  rw [Hhl.out] at hcv hcap hcell
  obtain ⟨G, hG⟩ : ∃ G, w6.heap.size = G := ⟨_, rfl⟩
  rw [hG] at hcv hcell hlt7 hwG
  have ek := (hcell k hk').1
  have fk := (hcell k hk').2
  replace hcell := Lib.hid hcell
  clear hG hb7 hb6 hs6 hA6 hX6
  go_upto_region 8 with fail
  clear hcv
  go_upto_region 9 with fail
  clear hz1 hz2 ek fk
  have hrd : RdB (w7.setCell ⟨G, k, none⟩ (bv c)) (.slice (some ⟨G, 0, none⟩) 64 cap) (t.set k c) := by
    refine ⟨_, cap, by rw [List.length_set, Hhl.out], by rw [List.length_set, Hhl.out]; exact hcap, fun _ => ⟨G, 0, rfl, fun j hj => ?_⟩⟩
    rw [List.length_set] at hj
    rw [Nat.zero_add]
    exact rd_set (fun j hj => (hcell.out j (by rw [← Hhl.out]; exact hj)).1) (by rw [Hhl.out]; exact hk) j hj
  have hb8 : Below w.heap.size w (w7.setCell ⟨G, k, none⟩ (bv c)) := hb7'.setCell (by show _ ≤ G; exact hwG) _
  clear hcell hlt7 hb7'
  generalize w7.setCell ⟨G, k, none⟩ (bv c) = w8 at *
  clear w7
  have hcv := rd_convert hrd
  obtain ⟨U, hU⟩ : ∃ U, strOf (t.set k c) = U := ⟨_, rfl⟩
  rw [hU] at H2 hcv
  go_wp2_with fail
  refine (H2.out w8).mono ?_
  rintro e w9 ⟨rfl, hb9⟩
  have hrd9 := hrd.mono hb9
  have hcv9 := fun p : Gp => rd_convert ((hrd9.mono ((Below.refl _ _).alloc (Nat.le_refl _) (Obj.cells (x2.map bv).toArray 24))).mono (below_gro (w9.alloc (Obj.cells (x2.map bv).toArray 24)) p))
  have hX : ∀ p, (gro (w9.alloc (Obj.cells (x2.map bv).toArray 24)) p).rangeAt w9.heap.size 0 (x2.map bv) := fun p => by
    have := rangeAt_row (gro_heap (heap_alloc_new w9 (Obj.cells (x2.map bv).toArray 24)) p) 0 32
    simpa [hx2, List.take_of_length_le] using this
  have hX := Lib.hid hX
  rw [hU] at hcv9
  have hb10 := (hb8.trans (hb9.mono hb8.size)).alloc (hb8.trans (hb9.mono hb8.size)).size (Obj.cells (x2.map bv).toArray 24)
  have T2' : Hid (∀ w, Calls Try.prog 32 #[bagg x2] w fun e w' => e = .returned (.string (strOf (hexS x2))) ∧ Below w.heap.size w w') := T2
  have HU := Lib.hid hU
  clear hcv hrd hb8 hb9 hrd9 hU
  dsimp only
  rcases sign_cases c with ⟨hcs, hdg⟩ | ⟨hcs, hdg⟩
  · have he2 := (Y2.out hdg).1
    have hU2 := (Y2.out hdg).2.2
    rw [HU.out] at hU2
    subst he2
    rw [hU2] at T2'
    clear T2 Y2 N2 hU2 hdg
    rcases hcs with ⟨c1, c2⟩ | ⟨c1, c2, c3, c4⟩
    all_goals go_wp2_with (refine wpList_store_new rfl 24 (.tmp 13) (.tmp 49) rfl _ _ (x2.map bv).toArray rfl rfl (id_info x2 hx2) (id_size x2 hx2).symm (id_one x2) ?_)
    all_goals
      refine wp_region_qgro rfl (by kernel_rfl) ?_
      repeat (first
        | (refine wpQuiet_load_midg (by kernel_rfl) 24 (.tmp 13) rfl w9.heap.size 0 rfl (x2.map bv) (.array 32 5) (by rintro _ ⟨p, rfl⟩; exact hX.out p) (by kernel_rfl) rfl (by rw [List.length_map, hx2]; kernel_rfl) ?_; simp only [Act.put, List.setIfInBounds_toArray, List.set_cons_succ, List.set_cons_zero])
        | go_big_quiet_step ((go_at_call 32; exact gro_call (T2'.out _))))
      refine wpQuiet_nil ?_
      rintro _ ⟨p, rfl⟩
      have hb11 := hb10.trans ((below_gro _ p).mono hb10.size)
      generalize gro (w9.alloc (Obj.cells (x2.map bv).toArray 24)) p = w10 at *
      clear hX T2' hb10 hcv9
      go_wp2_with fail
      refine (H3.out w10).mono ?_
      rintro e w11 ⟨rfl, hb12⟩
      have hb12' := hb11.trans (hb12.mono hb11.size)
      have hX3 : (w11.alloc (Obj.cells (x3.map bv).toArray 24)).heap[w11.heap.size]? = some (.cells (x3.map bv).toArray 24 (0, 0)) := heap_alloc_new w11 _
      have hb13 := hb12'.alloc hb12'.size (Obj.cells (x3.map bv).toArray 24)
      clear hb12' hb12 hb11
      dsimp only
      by_cases hok : says s.data.toList = true
      · have he3 := (Y3.out hok).1
        have hS3 := (Y3.out hok).2.2
        subst he3
        rw [hS3] at T3
        clear Y3 N3 hS3 hok
        go_wp2_with (first
          | (refine wpList_store_new rfl 24 (.tmp 15) (.tmp 82) rfl _ _ (x3.map bv).toArray rfl rfl (id_info x3 hx3) (id_size x3 hx3).symm (id_one x3) ?_)
          | (refine wpList_load_rowg (by kernel_rfl) 24 (.tmp 15) rfl w11.heap.size rfl 24 _ (0, 0) (.array 32 5) hX3 (by kernel_rfl) rfl (id_info x3 hx3) ?_))
        refine (T3.out _).mono ?_
        rintro e w12 ⟨rfl, hb14⟩
        have hb15 := hb13.trans (hb14.mono hb13.size)
        dsimp only
        go_wp2_with fail
        go_ret
        exact ⟨ret_val (by simp), hb15⟩
      · have he3 := N3.out (by simpa using hok)
        subst he3
        clear Y3 N3 hok
        go_wp2_with (first
          | (refine wpList_store_new rfl 24 (.tmp 15) (.tmp 82) rfl _ _ (x3.map bv).toArray rfl rfl (id_info x3 hx3) (id_size x3 hx3).symm (id_one x3) ?_))
        go_ret
        exact ⟨ret_val (by simp), hb13⟩
  · have he2 := N2.out hdg
    subst he2
    clear T2 Y2 N2 hdg
    rcases hcs with ⟨c1, c2⟩ | ⟨c1, c2, c3⟩ | ⟨c1, c2, c3, c4⟩
    all_goals go_wp2_with (refine wpList_store_new rfl 24 (.tmp 13) (.tmp 49) rfl _ _ (x2.map bv).toArray rfl rfl (id_info x2 hx2) (id_size x2 hx2).symm (id_one x2) ?_)
    all_goals
      refine wp_region_qgro rfl (by kernel_rfl) ?_
      repeat go_big_quiet_step (fail)
      refine wpQuiet_nil ?_
      rintro _ ⟨p, rfl⟩
      have hb11 := hb10.trans ((below_gro _ p).mono hb10.size)
      generalize gro (w9.alloc (Obj.cells (x2.map bv).toArray 24)) p = w10 at *
      clear hX T2' hb10 hcv9
      go_wp2_with fail
      refine (H3.out w10).mono ?_
      rintro e w11 ⟨rfl, hb12⟩
      have hb12' := hb11.trans (hb12.mono hb11.size)
      have hX3 : (w11.alloc (Obj.cells (x3.map bv).toArray 24)).heap[w11.heap.size]? = some (.cells (x3.map bv).toArray 24 (0, 0)) := heap_alloc_new w11 _
      have hb13 := hb12'.alloc hb12'.size (Obj.cells (x3.map bv).toArray 24)
      clear hb12' hb12 hb11
      dsimp only
      by_cases hok : says s.data.toList = true
      · have he3 := (Y3.out hok).1
        have hS3 := (Y3.out hok).2.2
        subst he3
        rw [hS3] at T3
        clear Y3 N3 hS3 hok
        go_wp2_with (first
          | (refine wpList_store_new rfl 24 (.tmp 15) (.tmp 82) rfl _ _ (x3.map bv).toArray rfl rfl (id_info x3 hx3) (id_size x3 hx3).symm (id_one x3) ?_)
          | (refine wpList_load_rowg (by kernel_rfl) 24 (.tmp 15) rfl w11.heap.size rfl 24 _ (0, 0) (.array 32 5) hX3 (by kernel_rfl) rfl (id_info x3 hx3) ?_))
        refine (T3.out _).mono ?_
        rintro e w12 ⟨rfl, hb14⟩
        have hb15 := hb13.trans (hb14.mono hb13.size)
        dsimp only
        go_wp2_with fail
        go_ret
        exact ⟨ret_val (by simp), hb15⟩
      · have he3 := N3.out (by simpa using hok)
        subst he3
        clear Y3 N3 hok
        go_wp2_with (first
          | (refine wpList_store_new rfl 24 (.tmp 15) (.tmp 82) rfl _ _ (x3.map bv).toArray rfl rfl (id_info x3 hx3) (id_size x3 hx3).symm (id_one x3) ?_))
        go_ret
        exact ⟨ret_val (by simp), hb13⟩
end Go.Proofs.Ytcfkapoppmpehaa

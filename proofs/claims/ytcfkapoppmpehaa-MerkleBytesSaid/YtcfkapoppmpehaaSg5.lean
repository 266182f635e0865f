/-
  Signatures: what Decode answers.
-/
import Derived.Test.YtcfkapoppmpehaaSg2
import Derived.Test.YtcfkapoppmpehaaWt
import Derived.Test.YtcfkapoppmpehaaRfill
namespace Go.Proofs.Ytcfkapoppmpehaa
open Go.RowKit

/-- A digest out of a signature's bytes. -/
def chunkS (bs : List UInt8) (i : Nat) : List UInt8 := (bs.drop (1 + 32 * i)).take 32
def chunksS (bs : List UInt8) (k : Nat) : List (List UInt8) := (List.range k).map (chunkS bs)
theorem chunkS_length {bs : List UInt8} {i : Nat} (h : 1 + 32 * i + 32 ≤ bs.length) : (chunkS bs i).length = 32 := by simp [chunkS]; omega
theorem chunksS_next (bs : List UInt8) (k : Nat) : chunksS bs (k + 1) = chunksS bs k ++ [chunkS bs k] := by rw [chunksS, List.range_succ, List.map_append]; rfl
theorem chunksS_length (bs : List UInt8) (k : Nat) : (chunksS bs k).length = k := by simp [chunksS]
theorem conv_up (b : UInt8) (w : World) : (convert 5 3 (bv b)).run Try.prog w = .ok (.int .i64 b.toNat) w := by
  have h3 : Try.prog.underlying 3 = some (.int .i64) := by kernel_rfl
  have h5 : Try.prog.underlying 5 = some (.int .u8) := by kernel_rfl
  have hb := b.toNat_lt
  have e : (IntKind.i64.wrap (b.toNat : Int)) = (b.toNat : Int) := IntWalk.i64_in _ (by omega)
  simp [convert, run_underlying h3, run_underlying h5, Conv.intToInt, bv, e]
theorem slice_from (w : World) (b o n c m : Nat) (h : m ≤ n) (_ : n ≤ c) : (Instr.slice 42 (.slice (some ⟨b, o, none⟩) n c) (some (.int .i64 m)) none none).run Try.prog w = .ok (.slice (some (if c = m then ⟨b, o, none⟩ else ⟨b, o + m, none⟩)) (n - m) (c - m)) w := by
  have hu : Try.prog.underlying 42 = some (.slice 5) := by kernel_rfl
  have hz : (sizeOf 5).run Try.prog w = .ok 1 w := by kernel_rfl
  by_cases e : c = m <;> simp [Instr.slice, run_underlying hu, Instr.sliceBounds, go_sem, h, e, Addr.add]
theorem arrayAt24 (w : World) (a : Option Addr) (c : Nat) : (Instr.arrayAt 24 (.slice a 32 c)).run Try.prog w = .ok (.pointer a) w := by
  have hu : Try.prog.underlying 24 = some (.array 32 5) := by kernel_rfl
  simp [Instr.arrayAt, run_underlying hu]
theorem slice_three (w : World) (g c : Nat) (h : 67 ≤ c) : (Instr.slice 27 (.slice (some ⟨g, 0, none⟩) 70 c) none (some (.int .i64 67)) (some (.int .i64 67))).run Try.prog w = .ok (.slice (some ⟨g, 0, none⟩) 67 67) w := by
  have hu : Try.prog.underlying 27 = some (.slice 24) := by kernel_rfl
  have hz : (sizeOf 24).run Try.prog w = .ok 32 w := by kernel_rfl
  simp [Instr.slice, run_underlying hu, Instr.sliceBounds, go_sem, Addr.add]
  intro hlt
  omega
theorem slice_last (w : World) (g c : Nat) (h : 70 ≤ c) : (Instr.slice 27 (.slice (some ⟨g, 0, none⟩) 70 c) (some (.int .i64 67)) none none).run Try.prog w = .ok (.slice (some ⟨g, 67 * 32, none⟩) 3 (c - 67)) w := by
  have hu : Try.prog.underlying 27 = some (.slice 24) := by kernel_rfl
  have hz : (sizeOf 24).run Try.prog w = .ok 32 w := by kernel_rfl
  have e : c ≠ 67 := by omega
  simp [Instr.slice, run_underlying hu, Instr.sliceBounds, go_sem, e, Addr.add]
/-- A part of a row of digests. -/
theorem WrI.part {w : World} {g : Nat} {ids : List (List UInt8)} (h : WrI w g ids) (m n c : Nat) (hm : m + n ≤ ids.length) (hc : n ≤ c) : RdI w (.slice (some ⟨g, m * 32, none⟩) n c) ((ids.drop m).take n) := by
  have hl : ((ids.drop m).take n).length = n := by simp; omega
  have hg : ∀ i, i < n → ((ids.drop m).take n).getD i [] = ids.getD (m + i) [] := fun i hi => by
    rw [List.getD_eq_getElem?_getD, List.getElem?_take, if_pos hi, List.getElem?_drop, ← List.getD_eq_getElem?_getD]
  refine ⟨_, c, by rw [hl], by rw [hl]; exact hc, fun i hi => ?_, fun _ => ⟨g, m * 32, rfl, fun i hi => ?_⟩⟩
  · rw [hl] at hi; rw [hg i hi]; exact h.1 _ (by omega)
  · rw [hl] at hi; rw [hg i hi, show m * 32 + i * 32 = (m + i) * 32 by omega]; exact h.2.1 _ (by omega)
theorem build49z (w : World) : (Instr.build 49 #[]).run Try.prog w = .ok (.agg zero49) w := run_build w 49 _ _ (by kernel_rfl)


set_option maxRecDepth 100000 in
set_option maxHeartbeats 2000000 in
theorem decode_short (a : Option Addr) (n c : Nat) (hn : n < 2241) (w : World) :
    Calls Try.prog 42 #[.slice a n c] w fun e w' => e = .returned (.tuple #[.agg zero49, .int .i64 7]) ∧ Below w.heap.size w w' := by
  have g1 : decide ((n : Int) < 2241) = true := decide_eq_true (by omega)
  have hB := build49z
  go_enter Try.func42, Try.ntmps42
  go_upto_region 1 with fail
  have hb1 : Below w.heap.size w (w.alloc (Obj.cells zero49 49)) := (Below.refl _ _).alloc (Nat.le_refl _) _
  have hZ : (w.alloc (Obj.cells zero49 49)).heap[w.heap.size]? = some (.cells zero49 49 (0, 0)) := heap_alloc_new w _
  have hsz : (w.alloc (Obj.cells zero49 49)).heap.size = w.heap.size + 1 := by simp
  change Code.wp _ _ _ _ (w.alloc (Obj.cells zero49 49))
  generalize w.alloc (Obj.cells zero49 49) = w1 at *
  go_wp2_with (refine wpList_store_row rfl 49 (.tmp 2) (.tmp 11) rfl w.heap.size 49 zero49 zero49 rfl rfl hZ (by kernel_rfl) rfl (by kernel_rfl) ?_)
  exact bodyPost_ret (results_cell_tmp (d := .struct (Try.prog.fieldsOf 49)) rfl _ _ w.heap.size 49 _ (0, 0) rfl (setRow_heap _ _ _ _ _ _ hZ) (by kernel_rfl) rfl (by kernel_rfl)) rfl
    ⟨rfl, below_setRow' hb1 (Nat.le_refl _) _⟩

set_option maxRecDepth 100000 in
set_option maxHeartbeats 2000000 in
theorem decode_long (a : Option Addr) (n c : Nat) (hn : 2241 < n) (w : World) :
    Calls Try.prog 42 #[.slice a n c] w fun e w' => e = .returned (.tuple #[.agg zero49, .int .i64 2]) ∧ Below w.heap.size w w' := by
  have g1 : decide ((n : Int) < 2241) = false := decide_eq_false (by omega)
  have g2 : decide ((2241 : Int) < (n : Int)) = true := decide_eq_true (by omega)
  have hB := build49z
  go_enter Try.func42, Try.ntmps42
  go_upto_region 1 with fail
  have hb1 : Below w.heap.size w (w.alloc (Obj.cells zero49 49)) := (Below.refl _ _).alloc (Nat.le_refl _) _
  have hZ : (w.alloc (Obj.cells zero49 49)).heap[w.heap.size]? = some (.cells zero49 49 (0, 0)) := heap_alloc_new w _
  have hsz : (w.alloc (Obj.cells zero49 49)).heap.size = w.heap.size + 1 := by simp
  change Code.wp _ _ _ _ (w.alloc (Obj.cells zero49 49))
  generalize w.alloc (Obj.cells zero49 49) = w1 at *
  go_wp2_with (refine wpList_store_row rfl 49 (.tmp 2) (.tmp 24) rfl w.heap.size 49 zero49 zero49 rfl rfl hZ (by kernel_rfl) rfl (by kernel_rfl) ?_)
  exact bodyPost_ret (results_cell_tmp (d := .struct (Try.prog.fieldsOf 49)) rfl _ _ w.heap.size 49 _ (0, 0) rfl (setRow_heap _ _ _ _ _ _ hZ) (by kernel_rfl) rfl (by kernel_rfl)) rfl
    ⟨rfl, below_setRow' hb1 (Nat.le_refl _) _⟩

set_option maxRecDepth 100000 in
set_option maxHeartbeats 2000000 in
theorem decode_off (v : Value) (bs : List UInt8) (w : World) (hv : RdB w v bs) (hn : bs.length = 2241) (h8 : 8 ≤ (bs.getD 0 0).toNat) :
    Calls Try.prog 42 #[v] w fun e w' => e = .returned (.tuple #[.agg zero49, .int .i64 2]) ∧ Below w.heap.size w w' := by
  obtain ⟨a, c, rfl, hc, hr⟩ := hv
  obtain ⟨b, o, rfl, hcell⟩ := hr (by omega)
  have hc0 := hcell 0 (by omega)
  rw [hn] at hc ⊢
  clear hr hcell hn
  generalize bs.getD 0 0 = x at *
  have hcv := conv_up x
  have HL := Lib.hid (leafed_any (x.toNat : Int))
  rw [decide_eq_false (show ¬ (0 ≤ (x.toNat : Int) ∧ (x.toNat : Int) < 8) by omega)] at HL
  have hB := build49z
  go_enter Try.func42, Try.ntmps42
  go_upto_region 1 with fail
  have hb1 : Below w.heap.size w (w.alloc (Obj.cells zero49 49)) := (Below.refl _ _).alloc (Nat.le_refl _) _
  have hZ : (w.alloc (Obj.cells zero49 49)).heap[w.heap.size]? = some (.cells zero49 49 (0, 0)) := heap_alloc_new w _
  have hsz : (w.alloc (Obj.cells zero49 49)).heap.size = w.heap.size + 1 := by simp
  change Code.wp _ _ _ _ (w.alloc (Obj.cells zero49 49))
  generalize w.alloc (Obj.cells zero49 49) = w1 at *
  have hcx := (hb1.cell (p := ⟨b, o + 0, none⟩) (block_lt_of_cell hc0)).trans hc0
  rw [Nat.add_zero] at hcx
  go_wp2_with fail
  refine (HL.out w1).mono ?_
  rintro e w2 ⟨rfl, hb2⟩
  replace hZ := (hb2.block _ (Array.getElem?_eq_some_iff.1 hZ).1).trans hZ
  replace hb1 := hb1.trans (hb2.mono hb1.size)
  dsimp only
  go_wp2_with (refine wpList_store_row rfl 49 (.tmp 2) (.tmp 24) rfl w.heap.size 49 zero49 zero49 rfl rfl hZ (by kernel_rfl) rfl (by kernel_rfl) ?_)
  exact bodyPost_ret (results_cell_tmp (d := .struct (Try.prog.fieldsOf 49)) rfl _ _ w.heap.size 49 _ (0, 0) rfl (setRow_heap _ _ _ _ _ _ hZ) (by kernel_rfl) rfl (by kernel_rfl)) rfl
    ⟨rfl, below_setRow' hb1 (Nat.le_refl _) _⟩

set_option maxRecDepth 100000 in
set_option maxHeartbeats 4000000 in
theorem decode_ok (v : Value) (bs : List UInt8) (w : World) (hv : RdB w v bs) (hn : bs.length = 2241) (h8 : (bs.getD 0 0).toNat < 8) :
    Calls Try.prog 42 #[v] w fun e w' => ∃ v', e = .returned (.tuple #[v', .int .i64 0]) ∧ RdS w' v' ((bs.getD 0 0).toNat : Int) ((chunksS bs 70).take 67) ((chunksS bs 70).drop 67) ∧ Below w.heap.size w w' := by
  have hck := Lib.hid (fun (i : Nat) (h : i < 70) => chunkS_length (bs := bs) (i := i) (by omega))
  have hrgk : Hid (∀ (wx : World) (b o : Nat), (∀ j, j < 2241 → wx.cell? ⟨b, o + j, none⟩ = some (bv (bs.getD j 0))) → ∀ i, i < 70 → wx.rangeAt b (o + 1 + 32 * i) ((chunkS bs i).map bv)) := Lib.hid (fun wx b o hcell i hi j u hu => by
    rw [List.getElem?_map] at hu
    obtain ⟨y, hy, rfl⟩ := Option.map_eq_some_iff.1 hu
    have hj : j < 32 := by have := (List.getElem?_eq_some_iff.1 hy).1; rw [chunkS_length (by omega)] at this; exact this
    rw [show o + 1 + 32 * i + j = o + (1 + 32 * i + j) by omega, hcell _ (by omega), List.getD_eq_getElem?_getD]
    rw [chunkS, List.getElem?_take, if_pos hj, List.getElem?_drop] at hy
    rw [hy]; rfl)
  have hnext := Lib.hid (chunksS_next bs)
  have hcl := Lib.hid (chunksS_length bs)
  obtain ⟨a, c, rfl, hc, hr⟩ := hv
  obtain ⟨b, o, rfl, hcell⟩ := hr (by omega)
  rw [hn] at hc hcell ⊢
  have hc0 := hcell 0 (by omega)
  clear hr
  replace hn := Lib.hid hn
  replace hcell := Lib.hid hcell
  have hbl := block_lt_of_cell hc0
  generalize hx : bs.getD 0 0 = x at *
  have hcv := conv_up x
  have HL := Lib.hid (leafed_any (x.toNat : Int))
  rw [decide_eq_true (show (0 ≤ (x.toNat : Int) ∧ (x.toNat : Int) < 8) by omega)] at HL
  clear hx
  go_enter Try.func42, Try.ntmps42
  go_upto_region 1 with fail
  have hb1 : Below w.heap.size w (w.alloc (Obj.cells zero49 49)) := (Below.refl _ _).alloc (Nat.le_refl _) _
  have hZ : (w.alloc (Obj.cells zero49 49)).heap[w.heap.size]? = some (.cells zero49 49 (0, 0)) := heap_alloc_new w _
  have hsz : (w.alloc (Obj.cells zero49 49)).heap.size = w.heap.size + 1 := by simp
  change Code.wp _ _ _ _ (w.alloc (Obj.cells zero49 49))
  generalize w.alloc (Obj.cells zero49 49) = w1 at *
  have hcx := (hb1.cell (p := ⟨b, o + 0, none⟩) hbl).trans hc0
  rw [Nat.add_zero] at hcx
  go_wp2_with fail
  refine (HL.out w1).mono ?_
  rintro e w2 ⟨rfl, hb2⟩
  replace hZ := (hb2.block _ (Array.getElem?_eq_some_iff.1 hZ).1).trans hZ
  replace hcx := (hb2.cell (p := ⟨b, o, none⟩) (Nat.lt_of_lt_of_le hbl hb1.size)).trans hcx
  replace hb1 := hb1.trans (hb2.mono hb1.size)
  have hw2 : w.heap.size + 1 ≤ w2.heap.size := Nat.le_trans (Nat.le_of_eq hsz.symm) hb2.size
  clear hb2 HL hsz hcv
  dsimp only
  have hsl := slice_from w2 b o 2241 c 1 (by omega) hc
  rw [if_neg (show c ≠ 1 by omega)] at hsl
  go_wp2_with fail
  go_loopw [4, 5] (fun v r wr => ∃ k cr : Nat, ∃ ar : Option Addr, k ≤ 70 ∧ r = .slice ar (2240 - 32 * k) cr ∧ 2240 - 32 * k ≤ cr ∧ (k < 70 → ar = some ⟨b, o + 1 + 32 * k, none⟩) ∧ OwnI wr w2.heap.size v (chunksS bs k) ∧ Below w2.heap.size w2 wr) (fun _ r _ => lenV r)
  case atStart => exact ⟨0, c - 1, _, by omega, rfl, by omega, fun _ => rfl, OwnI.nil _ _, Below.refl _ _⟩
  case round =>
    obtain ⟨k, cr, ar, hk, rfl, hcr, har, hown, hbr⟩ := hrel
    clear hsl
    by_cases hlt : k < 70
    · obtain rfl := har hlt
      clear har
      have hg : decide ((0 : Int) < ((2240 - 32 * k : Nat) : Int)) = true := decide_eq_true (by omega)
      have hbw := hb1.trans (hbr.mono hb1.size)
      have hrg := hrgk.out wr b o (fun j hj => (hbw.cell (p := ⟨b, o + j, none⟩) hbl).trans (hcell.out j hj)) k hlt
      have hyl := hck.out k hlt
      have Hnext := Lib.hid (hnext.out k)
      have hll : (chunksS bs k).length ≤ 100000 := by rw [hcl.out]; omega
      generalize chunkS bs k = y at *
      generalize chunksS bs k = l at *
      have hcr32 : 32 ≤ cr := by omega
      have hown6 := hown.alloc (Obj.cells (y.map bv).toArray 24)
      have hnew : (wr.alloc (Obj.cells (y.map bv).toArray 24)).heap[wr.heap.size]? = some (.cells (y.map bv).toArray 24 (0, 0)) := heap_alloc_new wr _
      have hb7 := hbr.alloc hbr.size (Obj.cells (y.map bv).toArray 24)
      have hat := fun wx : World => arrayAt24 wx (some ⟨b, o + 1 + 32 * k, none⟩) cr
      clear hown
      go_wp2_with (first
        | (refine wpList_slice_head rfl (.tmp 33) (.const (.int .i64 32)) rfl _ (2240 - 32 * k) cr 32 hcr32 rfl rfl ?_)
        | (refine wpList_load_mid rfl 24 (.tmp 35) rfl b (o + 1 + 32 * k) rfl (y.map bv) (.array 32 5) hrg (by kernel_rfl) rfl (by rw [List.length_map, hyl]; kernel_rfl) ?_)
        | (rw [laid_rowM (y.map bv) _ (by rw [List.length_map, hyl]; rfl)]; refine wpList_append_id_ownM rfl (.tmp 32) (.tmp 37) rfl w2.heap.size _ l rfl hown6 wr.heap.size y rfl hyl hnew hll w2 hb7 hb7.size ?_))
      intro v8 w8 hown8 hb8
      rw [← Hnext.out] at hown8
      clear hnew hown6 hb7 Hnext hat hrg
      have hsl := slice_from w8 b (o + 1 + 32 * k) (2240 - 32 * k) cr 32 (by omega) hcr
      go_wp2_with fail
      go_roundw
      case rel =>
        refine ⟨k + 1, cr - 32, if cr = 32 then some ⟨b, o + 1 + 32 * k, none⟩ else some ⟨b, o + 1 + 32 * k + 32, none⟩, by omega, ?_, by omega, fun h => ?_, hown8, hb8⟩
        · rw [show 2240 - 32 * (k + 1) = 2240 - 32 * k - 32 by omega]
        · rw [if_neg (by omega), show o + 1 + 32 * (k + 1) = o + 1 + 32 * k + 32 by omega]
      case measure => simp [lenV]; omega
    · obtain rfl : k = 70 := by omega
      have hg : decide ((0 : Int) < ((2240 - 32 * 70 : Nat) : Int)) = false := by decide
      clear har
      obtain ⟨g, gc, rfl, hgc, hgB, hwr⟩ := hown.wr (by rw [hcl.out]; omega)
      have hl70 := hcl.out 70
      rw [hl70] at hgc ⊢
      clear hown
      have hZr := (hbr.block _ (by omega)).trans hZ
      have hbw := hb1.trans (hbr.mono hb1.size)
      have hcv := conv_up x
      generalize hld : chunksS bs 70 = l at *
      replace hld := Lib.hid hld
      have hgl : g < wr.heap.size := by
        obtain ⟨u, hu⟩ := Option.isSome_iff_exists.1 (hwr.2.2 0 (by omega) 0 (by omega)).1
        exact block_lt_of_cell hu
      replace hl70 := Lib.hid hl70
      replace hwr := Lib.hid hwr
      go_upto_region 11 with fail
      clear hg hcx hZ hb1
      have hcq : Hid (wr.cell? ⟨b, o, none⟩ = some (bv x)) := Lib.hid ((hbw.cell (p := ⟨b, o + 0, none⟩) hbl).trans hc0)
      generalize 2240 - 32 * 70 = zz at *
      refine wp_region_rels 12 [fun v _ => v = .slice (some ⟨b, o, none⟩) 2241 c, fun v _ => v = .pointer (some ⟨b, o, none⟩), fun v _ => v = bv x, fun v _ => v = .int .i64 (x.toNat : Int), fun v _ => v = .slice (some ⟨g, 0, none⟩) 70 gc, fun v _ => v = .int .i64 67, fun v _ => v = .int .i64 67, fun v _ => v = .slice (some ⟨g, 0, none⟩) 67 67, fun v _ => v = .slice (some ⟨g, 0, none⟩) 70 gc, fun v _ => v = .int .i64 67, fun v _ => v = .slice (some ⟨g, 67 * 32, none⟩) 3 (gc - 67), fun v _ => v = .agg #[.int .i64 (x.toNat : Int), .slice (some ⟨g, 0, none⟩) 67 67, .slice (some ⟨g, 67 * 32, none⟩) 3 (gc - 67)]] rfl (by kernel_rfl) rfl
        ⟨Stays.const _, Stays.const _, Stays.const _, Stays.const _, Stays.const _, Stays.const _, Stays.const _, Stays.const _, Stays.const _, Stays.const _, Stays.const _, Stays.const _, trivial⟩
        ⟨?s0, ?s1, ?s2, ?s3, ?s4, ?s5, ?s6, ?s7, ?s8, ?s9, ?s10, ?s11, trivial⟩ ?fin
      case s0 =>
        intro z u hu hd K hK
        simp only [depsR] at hd
        simp only [setAll, dstAt, List.getElem?_toArray, List.getElem?_cons_zero, List.getElem?_cons_succ, Option.bind_some, Act.put, List.setIfInBounds_toArray, List.set_cons_zero, List.set_cons_succ, rAt, List.getD_cons_zero] at hK ⊢
        go_wp2_with fail
        exact hK _ _ rfl (Below.refl _ _)
      case s1 =>
        intro z u hu hd K hK
        simp only [depsR, rAt, List.getD_cons_zero, Region.binds, forall_const, and_true] at hd
        simp only [setAll, dstAt, List.getElem?_toArray, List.getElem?_cons_zero, List.getElem?_cons_succ, Option.bind_some, Act.put, List.setIfInBounds_toArray, List.set_cons_zero, List.set_cons_succ, rAt, List.getD_cons_zero, List.getD_cons_succ] at hK ⊢
        simp only [hd] at hK ⊢
        go_wp2_with fail
        exact hK _ _ rfl (Below.refl _ _)
      case s2 =>
        intro z u hu hd K hK
        simp only [depsR, rAt, List.getD_cons_zero, List.getD_cons_succ, Region.binds, forall_const, and_true] at hd
        simp only [setAll, dstAt, List.getElem?_toArray, List.getElem?_cons_zero, List.getElem?_cons_succ, Option.bind_some, Act.put, List.setIfInBounds_toArray, List.set_cons_zero, List.set_cons_succ, rAt, List.getD_cons_zero, List.getD_cons_succ] at hK ⊢
        have hcell := (hu.cell (p := ⟨b, o, none⟩) (block_lt_of_cell hcq.out)).trans hcq.out
        simp only [hd] at hK ⊢
        go_wp2_with fail
        exact hK _ _ rfl (Below.refl _ _)
      case s3 =>
        intro z u hu hd K hK
        simp only [depsR, rAt, List.getD_cons_zero, List.getD_cons_succ, Region.binds, forall_const, and_true] at hd
        simp only [setAll, dstAt, List.getElem?_toArray, List.getElem?_cons_zero, List.getElem?_cons_succ, Option.bind_some, Act.put, List.setIfInBounds_toArray, List.set_cons_zero, List.set_cons_succ, rAt, List.getD_cons_zero, List.getD_cons_succ] at hK ⊢
        simp only [hd] at hK ⊢
        go_wp2_with fail
        exact hK _ _ rfl (Below.refl _ _)
      case s4 =>
        intro z u hu hd K hK
        simp only [depsR] at hd
        simp only [setAll, dstAt, List.getElem?_toArray, List.getElem?_cons_zero, List.getElem?_cons_succ, Option.bind_some, Act.put, List.setIfInBounds_toArray, List.set_cons_zero, List.set_cons_succ, rAt, List.getD_cons_zero, List.getD_cons_succ] at hK ⊢
        go_wp2_with fail
        exact hK _ _ rfl (Below.refl _ _)
      case s5 =>
        intro z u hu hd K hK
        simp only [depsR] at hd
        simp only [setAll, dstAt, List.getElem?_toArray, List.getElem?_cons_zero, List.getElem?_cons_succ, Option.bind_some, Act.put, List.setIfInBounds_toArray, List.set_cons_zero, List.set_cons_succ, rAt, List.getD_cons_zero, List.getD_cons_succ] at hK ⊢
        go_wp2_with fail
        exact hK _ _ rfl (Below.refl _ _)
      case s6 =>
        intro z u hu hd K hK
        simp only [depsR] at hd
        simp only [setAll, dstAt, List.getElem?_toArray, List.getElem?_cons_zero, List.getElem?_cons_succ, Option.bind_some, Act.put, List.setIfInBounds_toArray, List.set_cons_zero, List.set_cons_succ, rAt, List.getD_cons_zero, List.getD_cons_succ] at hK ⊢
        go_wp2_with fail
        exact hK _ _ rfl (Below.refl _ _)
      case s7 =>
        intro z u hu hd K hK
        simp only [depsR, rAt, List.getD_cons_zero, List.getD_cons_succ, Region.binds, forall_const, and_true] at hd
        simp only [setAll, dstAt, List.getElem?_toArray, List.getElem?_cons_zero, List.getElem?_cons_succ, Option.bind_some, Act.put, List.setIfInBounds_toArray, List.set_cons_zero, List.set_cons_succ, rAt, List.getD_cons_zero, List.getD_cons_succ] at hK ⊢
        have h3 := slice_three u g gc (by omega)
        simp only [hd] at hK ⊢
        go_wp2_with fail
        exact hK _ _ rfl (Below.refl _ _)
      case s8 =>
        intro z u hu hd K hK
        simp only [depsR] at hd
        simp only [setAll, dstAt, List.getElem?_toArray, List.getElem?_cons_zero, List.getElem?_cons_succ, Option.bind_some, Act.put, List.setIfInBounds_toArray, List.set_cons_zero, List.set_cons_succ, rAt, List.getD_cons_zero, List.getD_cons_succ] at hK ⊢
        go_wp2_with fail
        exact hK _ _ rfl (Below.refl _ _)
      case s9 =>
        intro z u hu hd K hK
        simp only [depsR] at hd
        simp only [setAll, dstAt, List.getElem?_toArray, List.getElem?_cons_zero, List.getElem?_cons_succ, Option.bind_some, Act.put, List.setIfInBounds_toArray, List.set_cons_zero, List.set_cons_succ, rAt, List.getD_cons_zero, List.getD_cons_succ] at hK ⊢
        go_wp2_with fail
        exact hK _ _ rfl (Below.refl _ _)
      case s10 =>
        intro z u hu hd K hK
        simp only [depsR, rAt, List.getD_cons_zero, List.getD_cons_succ, Region.binds, forall_const, and_true] at hd
        simp only [setAll, dstAt, List.getElem?_toArray, List.getElem?_cons_zero, List.getElem?_cons_succ, Option.bind_some, Act.put, List.setIfInBounds_toArray, List.set_cons_zero, List.set_cons_succ, rAt, List.getD_cons_zero, List.getD_cons_succ] at hK ⊢
        have h3 := slice_last u g gc (by omega)
        simp only [hd] at hK ⊢
        go_wp2_with fail
        exact hK _ _ rfl (Below.refl _ _)
      case s11 =>
        intro z u hu hd K hK
        simp only [depsR, rAt, List.getD_cons_zero, List.getD_cons_succ, Region.binds, forall_const, and_true] at hd
        simp only [setAll, dstAt, List.getElem?_toArray, List.getElem?_cons_zero, List.getElem?_cons_succ, Option.bind_some, Act.put, List.setIfInBounds_toArray, List.set_cons_zero, List.set_cons_succ, rAt, List.getD_cons_zero, List.getD_cons_succ] at hK ⊢
        simp only [hd] at hK ⊢
        go_wp2_with fail
        exact hK _ _ rfl (Below.refl _ _)
      case fin =>
        intro z u hu hR
        simp only [allR, Nat.zero_add, Nat.reduceAdd, and_true] at hR
        obtain ⟨-, -, -, -, -, -, -, -, -, -, -, h11⟩ := hR
        simp only [setAll, dstAt, List.getElem?_toArray, List.getElem?_cons_zero, List.getElem?_cons_succ, Option.bind_some, Act.put, List.setIfInBounds_toArray, List.set_cons_zero, List.set_cons_succ, List.drop_succ_cons, List.drop_zero]
        have hZu := (hu.block _ (Array.getElem?_eq_some_iff.1 hZr).1).trans hZr
        have hwu := hwr.out.mono hgl hu
        have hbwu := hbw.trans (hu.mono hbw.size)
        clear hZr hbw hu
        rw [h11]
        generalize z 0 = z0, z 1 = z1, z 2 = z2, z 3 = z3, z 4 = z4, z 5 = z5, z 6 = z6, z 7 = z7, z 8 = z8, z 9 = z9, z 10 = z10 at *
        go_wp2_with (refine wpList_store_row rfl 49 (.tmp 2) (.tmp 50) rfl w.heap.size 49 zero49 #[.int .i64 (x.toNat : Int), .slice (some ⟨g, 0, none⟩) 67 67, .slice (some ⟨g, 67 * 32, none⟩) 3 (gc - 67)] rfl rfl hZu (by kernel_rfl) rfl (by simp [Value.oneCell']) ?_)
        refine bodyPost_ret (results_cell_tmp (d := .struct (Try.prog.fieldsOf 49)) rfl _ _ w.heap.size 49 _ (0, 0) rfl (setRow_heap _ _ _ _ _ _ hZu) (by kernel_rfl) rfl (by kernel_rfl)) rfl ⟨_, rfl, RdS.setRow ⟨_, _, rfl, ?_, ?_⟩ hZu _, below_setRow' hbwu (Nat.le_refl _) _⟩
        · rw [hld.out]
          have := hwu.part 0 67 67 (by rw [hl70.out]; omega) (by omega)
          simpa using this
        · rw [hld.out]
          have := hwu.part 67 3 (gc - 67) (by rw [hl70.out]; omega) (by omega)
          rwa [List.take_of_length_le (by rw [List.length_drop, hl70.out]; omega)] at this
end Go.Proofs.Ytcfkapoppmpehaa

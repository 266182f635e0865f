/-
  What MerkleClimbs computes, and its row.
-/
import Derived.Test.YtcfkapoppmpehaaOpen
namespace Go.Proofs.Ytcfkapoppmpehaa
open Go.RowKit

theorem run_slice_to (w : World) (a0 : Option Addr) (n c m : Nat) (h : m ≤ c) : (Instr.slice 27 (.slice a0 n c) none (some (.int .i64 m)) none).run Try.prog w = .ok (.slice a0 m c) w := by
  have hu : Try.prog.underlying 27 = some (.slice 24) := by kernel_rfl
  cases a0 <;> simp [Instr.slice, run_underlying hu, Instr.sliceBounds, go_sem, h]
theorem wpList_slice_to {ops : Array Oper} {rest : List Oper} {o : Oper} {a : Act} {w : World} {Q : Exit → Act → World → Prop} (hgd : o.guard = none) (x y : Operand)
    (ho : o.op = .slice 27 x none (some y) none) (a0 : Option Addr) (n c m : Nat) (hm : m ≤ c) (hx : a.eval x = .slice a0 n c) (hy : a.eval y = .int .i64 m)
    (h : wpList Try.prog ops Q rest (a.put o.dst (.slice a0 m c)) w) : wpList Try.prog ops Q (o :: rest) a w := by
  refine wpList_plain hgd fun K hK => ?_
  have hr := run_slice_to w a0 n c m hm
  have hu : Try.prog.underlying 27 = some (.slice (Try.prog.elem 27)) := by kernel_rfl
  unfold Oper.wp execOp
  simp only [ho, hx, hy, Option.map_some, Option.map_none, Sem.run_bind, Sem.run_pure, Result.andThen_ok, run_sliceAt_slice w 27 _ _ _ _ hu, hr]
  exact hK _ _ h

theorem wpList_load_rowg {P : Program} {ops : Array Oper} {rest : List Oper} {o : Oper} {a : Act} {w : World} {Q : Exit → Act → World → Prop} (hgd : Region.wanted o (yielded ops a.tmps) = true) (ty : TypeId) (x : Operand) (ho : o.op = .load ty x)
    (g : Nat) (hx : a.eval x = .pointer (some ⟨g, 0, none⟩)) (t : TypeId) (cs : Array Value) (fr : Nat × Nat) (d : TypeDesc) (hg : w.heap[g]? = some (.cells cs t fr))
    (hu : P.underlying ty = some d) (hd : (match d with | .struct _ | .array _ _ => true | _ => false) = true) (hi : (P.info? ty).map (·.size) = some cs.size)
    (h : wpList P ops Q rest (a.put o.dst (.agg cs)) w) : wpList P ops Q (o :: rest) a w :=
  BigFrame.wpList_want hgd fun _ hK => wp_load_row ty x ho g hx t cs fr d hg hu hd hi (hK _ _ h)

def zero29 : Array Value := (zero24.toList ++ [Value.int .i64 0, Value.slice none 0 0]).toArray

set_option maxRecDepth 100000 in
set_option maxHeartbeats 1000000 in
theorem merkleClimbs_any (v : Value) (cl : List Cl) (a b : List UInt8) (ha : a.length = 32) (hb : b.length = 32) (w : World) (hv : RdC w v cl) :
    Calls Try.prog 3 #[v, bagg a, bagg b] w fun e w' => e = .returned (.bool true) ∧ Below w.heap.size w w' := by
  obtain ⟨ad, cap, rfl, hc, hlm, hg, hr⟩ := hv
  go_enter Try.func3, Try.ntmps3
  go_wp2_with fail
  obtain ⟨w2, hw2, hbl, hb2, hs2⟩ := allocs_named w [.cells (a.map bv).toArray 24, .cells (b.map bv).toArray 24]
  change Calls _ _ _ (List.foldl World.alloc w [.cells (a.map bv).toArray 24, .cells (b.map bv).toArray 24]) _
  rw [hw2]
  clear hw2
  refine (wakes08 w2).mono ?_
  rintro e w3 ⟨rfl, hb3⟩
  have hA := (hb3.block _ (by simp at hs2; omega)).trans (hbl 0)
  have hB := (hb3.block _ (by simp at hs2; omega)).trans (hbl 1)
  have hbw := hb2.trans (hb3.mono hb2.size)
  clear hbl hb2 hs2 hb3
  dsimp only
  go_wp2_with fail
  have rA : ∀ p, (gro w3 p).rangeAt w.heap.size 0 (a.map bv) := fun p => by
    have := rangeAt_row (gro_heap hA p) 0 32
    simpa [ha, List.take_of_length_le] using this
  have rB : ∀ p, (gro w3 p).rangeAt (w.heap.size + 1) 0 (b.map bv) := fun p => by
    have := rangeAt_row (gro_heap hB p) 0 32
    simpa [hb, List.take_of_length_le] using this
  have rA := Lib.hid rA
  have rB := Lib.hid rB
  have H3 := Lib.hid (join_any a b ha hb)
  have H4 := Lib.hid (join2_any a b ha hb)
  have hI := shaB_length (78 :: (a ++ b))
  generalize shaB (78 :: (a ++ b)) = d at *
  have hE := equal_id d d hI hI
  refine wp_region_qgro rfl (by kernel_rfl) ?_
  refine wpQuiet_load_mid rfl 24 (.tmp 4) rfl w.heap.size 0 rfl (a.map bv) (.array 32 5) (by rintro _ ⟨p, rfl⟩; exact rA.out p) (by kernel_rfl) rfl (by rw [List.length_map, ha]; kernel_rfl) ?_
  simp only [Act.put, List.setIfInBounds_toArray, List.set_cons_succ, List.set_cons_zero]
  refine wpQuiet_load_mid rfl 24 (.tmp 5) rfl (w.heap.size + 1) 0 rfl (b.map bv) (.array 32 5) (by rintro _ ⟨p, rfl⟩; exact rB.out p) (by kernel_rfl) rfl (by rw [List.length_map, hb]; kernel_rfl) ?_
  simp only [Act.put, List.setIfInBounds_toArray, List.set_cons_succ, List.set_cons_zero]
  go_big_quiet_step ((go_at_call 24; exact gro_call (H3.out _)))
  refine wpQuiet_load_mid rfl 24 (.tmp 4) rfl w.heap.size 0 rfl (a.map bv) (.array 32 5) (by rintro _ ⟨p, rfl⟩; exact rA.out p) (by kernel_rfl) rfl (by rw [List.length_map, ha]; kernel_rfl) ?_
  simp only [Act.put, List.setIfInBounds_toArray, List.set_cons_succ, List.set_cons_zero]
  refine wpQuiet_load_mid rfl 24 (.tmp 5) rfl (w.heap.size + 1) 0 rfl (b.map bv) (.array 32 5) (by rintro _ ⟨p, rfl⟩; exact rB.out p) (by kernel_rfl) rfl (by rw [List.length_map, hb]; kernel_rfl) ?_
  simp only [Act.put, List.setIfInBounds_toArray, List.set_cons_succ, List.set_cons_zero]
  go_big_quiet_step ((go_at_call 25; exact gro_call (H4.out _)))
  go_big_quiet_step (fail)
  refine wpQuiet_nil ?_
  rintro _ ⟨p, rfl⟩
  have hbg := hbw.trans ((below_gro w3 p).mono hbw.size)
  generalize gro w3 p = w4 at *
  clear rA rB H3 H4 hE hA hB hbw
  go_wp2_with fail
  go_loopw [26] (fun i wr => ∃ k : Nat, k ≤ 16 ∧ k ≤ cl.length ∧ i = .int .i64 k ∧ Below w.heap.size w wr) (fun i _ => 17 - (intOf i).toNat)
  case atStart => exact ⟨0, by omega, by omega, rfl, hbg⟩
  case round =>
    clear hbg w4
    obtain ⟨k, hk, hkl, rfl, hbr⟩ := hrel
    by_cases hlt : k < cl.length
    · obtain ⟨bk, o, rfl, hrange⟩ := hr (by omega)
      have hrow := hrange k hlt
      have hgc := hg k hlt
      generalize cl.getD k default = c at *
      obtain ⟨key, leaf, path, ids⟩ := c
      obtain ⟨hkey, hpath, hmx⟩ := hgc
      simp only [Cl.row] at hrow hkey hpath hmx
      have hrl : (key.map bv ++ [Value.int .i64 leaf, path]).length = 34 := by simp [hkey]
      have hltb : bk < w.heap.size := block_lt_of_cell (hrow 0 _ (by simp [hkey]; rfl))
      have hrw : wr.rangeAt bk (o + k * 34) (key.map bv ++ [Value.int .i64 leaf, path]) := fun j u hu => by
        rw [hbr.cell (by show bk < _; exact hltb)]; exact hrow j u hu
      have hpr := hpath.mono hbr
      have hone : ((key.map bv ++ [Value.int .i64 leaf, path]).toArray).all (·.oneCell') = true := by
        obtain ⟨a0, c0, rfl, _⟩ := hpath
        simp [Value.oneCell']
      generalize hrowdef : key.map bv ++ [Value.int .i64 leaf, path] = row at *
      have hri : (Try.prog.info? 29).map (·.size) = some row.toArray.size := by rw [List.size_toArray, hrl]; kernel_rfl
      have hrs : zero29.size = row.toArray.size := by show _ = row.length; rw [hrl]; rfl
      clear hrange hrow hr hg hpath
      go_upto_region 8 with (first
        | (refine wpList_load_mid rfl 29 (.tmp 29) rfl bk (o + k * 34) rfl row (.struct (Try.prog.fieldsOf 29)) hrw (by kernel_rfl) rfl (by rw [hrl]; kernel_rfl) ?_)
        | (refine wpList_store_new rfl 29 (.tmp 8) (.tmp 30) rfl _ _ row.toArray rfl rfl hri hrs hone ?_))
      obtain ⟨w5, hw5, hbl5, hb5, hs5⟩ := allocs_named wr [.cells row.toArray 29]
      change Code.wp _ _ _ _ (List.foldl World.alloc wr [.cells row.toArray 29])
      rw [hw5]
      clear hw5
      have hX : w5.heap[wr.heap.size]? = some (.cells row.toArray 29 (0, 0)) := hbl5 0
      have hb5' := hbr.trans (hb5.mono hbr.size)
      have hp5 := hpr.mono hb5
      clear hbl5 hpr hrw hri hrs hone
      simp only [List.length_cons, List.length_nil] at hs5
      have hN : w.heap.size ≤ wr.heap.size := hbr.size
      generalize wr.heap.size = N at *
      have c32 : w5.cell? ⟨N, 32, none⟩ = some (.int .i64 leaf) := by
        rw [cell_of_row _ _ _ _ _ _ hX, ← hrowdef]
        simp [hkey]
      have c33 : w5.cell? ⟨N, 33, none⟩ = some path := by
        rw [cell_of_row _ _ _ _ _ _ hX, ← hrowdef]
        simp [hkey]
      have r0 : w5.rangeAt N 0 (key.map bv) := fun j u hu => by
        rw [Nat.zero_add, cell_of_row _ _ _ _ _ _ hX, ← hrowdef]
        have := (List.getElem?_eq_some_iff.1 hu).1
        simp only [List.getElem?_toArray]
        rw [List.getElem?_append_left this, hu]
      clear hrowdef hX hrl hb5 hbr
      by_cases h16 : k = 16
      · subst h16
        go_wp2_with fail
        go_ret
        exact ⟨ret_val rfl, hb5'⟩
      · obtain ⟨a0, c0, rfl, hc0, hl0, hr0⟩ := hp5
        go_upto_region 9 with fail
        iterate 4 go_step
        obtain ⟨w6, hw6, hbl6, hb6, hs6⟩ := allocs_named w5 [.cells #[] 24]
        have hG : w6.heap[N + 1]? = some (.cells #[] 24 (0, 0)) := by rw [← hs5]; exact hbl6 0
        have hltN : N < w5.heap.size := by omega
        have c32 : w6.cell? ⟨N, 32, none⟩ = some (.int .i64 leaf) := (hb6.cell hltN).trans c32
        have c33 : w6.cell? ⟨N, 33, none⟩ = some (.slice a0 ids.length c0) := (hb6.cell hltN).trans c33
        have r0 : w6.rangeAt N 0 (key.map bv) := fun j u hu => (hb6.cell hltN).trans (r0 j u hu)
        have hp6 : RdI w6 (.slice a0 (ids.take 6).length c0) (ids.take 6) := by
          refine ⟨a0, c0, rfl, by simp; omega, fun i hi => ?_, fun h0 => ?_⟩
          · have : i < 6 ∧ i < ids.length := by simp at hi; omega
            have := hl0 i this.2
            simp_all
          · have : 0 < ids.length := by simp at h0; omega
            obtain ⟨b', o', rfl, hrr⟩ := hr0 this
            refine ⟨b', o', rfl, fun i hi => ?_⟩
            have hi2 : i < 6 ∧ i < ids.length := by simp at hi; omega
            have h1 := hrr i hi2.2
            have h2 := rangeAt_lt h1 (by rw [hl0 i hi2.2]; omega)
            intro j u hu
            rw [hb6.cell h2]
            have e : (ids.take 6).getD i [] = ids.getD i [] := by simp [hi2]
            rw [e] at hu
            exact h1 j u hu
        have hb6' := hb5'.trans (hb6.mono hb5'.size)
        change wpList _ _ _ _ _ (List.foldl World.alloc w5 [.cells #[] 24])
        rw [hw6]
        have hlen6 : (ids.take 6).length = min ids.length 6 := by simp [Nat.min_comm]
        have hs6' : w6.heap.size = N + 2 := by simp at hs6; omega
        clear hbl6 hb6 hs6 hw6 hc0 hl0 hr0 hb5'
        obtain ⟨m, hm⟩ : ∃ m, m = (ids.take 6).length := ⟨_, rfl⟩
        have hmin : (if 6 < (ids.length : Int) then 6 else (ids.length : Int)) = (m : Int) := by rw [hm, hlen6]; omega
        have hm' : m ≤ c0 := by obtain ⟨_, _, e, h, _⟩ := hp6; cases e; omega
        have Hm := Lib.hid hm
        have H6 := Lib.hid hlen6
        clear hm hlen6
        iterate 18 go_step
        refine wpList_slice_to rfl (.tmp 35) (.tmp 39) rfl a0 ids.length c0 m hm' rfl rfl ?_
        obtain rfl := Hm.out
        have hlen6 := H6.out
        clear H6 Hm hm'
        simp only [Act.put, List.setIfInBounds_toArray, List.set_cons_succ, List.set_cons_zero]
        clear hmin
        have hl6 : (ids.take 6).length ≤ 6 := by omega
        clear hlen6
        generalize ids.take 6 = idp at *
        refine wpList_append_ids rfl (.tmp 33) (.tmp 40) rfl (N + 1) (N + 1) rfl hG (Nat.le_refl _) _ idp rfl hp6 (by omega) w6 (Below.refl _ _) (by omega) ?_
        intro v1 w7 hp7 hb7 _
        simp only [Act.put, List.setIfInBounds_toArray, List.set_cons_succ, List.set_cons_zero]
        have c32 : w7.cell? ⟨N, 32, none⟩ = some (.int .i64 leaf) := (hb7.cell (Nat.lt_succ_self N)).trans c32
        have r0 : w7.rangeAt N 0 (key.map bv) := fun j u hu => (hb7.cell (Nat.lt_succ_self N)).trans (r0 j u hu)
        have hb7' := hb6'.trans (hb7.mono (by omega))
        have hs7 : N + 2 ≤ w7.heap.size := by have := hb7.size; omega
        clear hp6 hb6' hb7 hG c33 hs6' hltN
        go_upto_region 10 with fail
        iterate 4 go_step
        obtain ⟨w8, hw8, hbl8, hb8, hs8⟩ := allocs_named w7 [.cells #[] 24]
        change wpList _ _ _ _ _ (List.foldl World.alloc w7 [.cells #[] 24])
        rw [hw8]
        have hG : w8.heap[w7.heap.size]? = some (.cells #[] 24 (0, 0)) := hbl8 0
        simp only [List.length_cons, List.length_nil] at hs8
        have hp8 := hp7.mono hb8
        have hb8' := hb7'.trans (hb8.mono hb7'.size)
        clear hw8 hbl8
        iterate 3 go_step
        refine wpList_append_ids rfl (.tmp 42) (.tmp 43) rfl w7.heap.size w7.heap.size rfl hG (Nat.le_refl _) _ idp rfl hp8 (by omega) w8 (Below.refl _ _) (by omega) ?_
        intro v2 w9 hp9 hb9 _
        simp only [Act.put, List.setIfInBounds_toArray, List.set_cons_succ, List.set_cons_zero]
        have hb79 := hb8.trans (hb9.mono (Nat.le_refl _))
        have c32 : w9.cell? ⟨N, 32, none⟩ = some (.int .i64 leaf) := (hb79.cell (by show N < _; omega)).trans c32
        have r0 : w9.rangeAt N 0 (key.map bv) := fun j u hu => (hb79.cell (by show N < _; omega)).trans (r0 j u hu)
        have hq9 := hp7.mono hb79
        have hb9' := hb7'.trans (hb79.mono hb7'.size)
        have hs9 : N + 2 ≤ w9.heap.size := by have := hb79.size; omega
        clear hG hp8 hb8' hb8 hs8 hb9 hb79 hp7

        obtain ⟨a1, c1, rfl, rest1⟩ := hq9
        have hq9 : RdI w9 (.slice a1 idp.length c1) idp := ⟨a1, c1, rfl, rest1⟩
        obtain ⟨a2, c2, rfl, rest2⟩ := hp9
        have hp9 : RdI w9 (.slice a2 idp.length c2) idp := ⟨a2, c2, rfl, rest2⟩
        clear rest1 rest2
        have hz : zero24 = ((List.replicate 32 (0 : UInt8)).map bv).toArray := by kernel_rfl
        obtain ⟨x, no, hx, HC, Hcase⟩ : ∃ (x : List UInt8) (no : Int), x.length = 32 ∧
            (Calls Try.prog 26 #[bagg key, .int .i64 leaf, .slice a1 idp.length c1] w9 fun e w' => e = .returned (.tuple #[bagg x, .int .i64 no]) ∧ Below w9.heap.size w9 w') ∧
            (((leaf < 0 ∨ 8 ≤ leaf) ∧ x = List.replicate 32 0 ∧ no = 2) ∨ ((0 ≤ leaf ∧ leaf < 8) ∧ idp.length ≠ 3 ∧ x = List.replicate 32 0 ∧ no = 3) ∨ ((0 ≤ leaf ∧ leaf < 8) ∧ idp.length = 3 ∧ x = climbTo key leaf.toNat idp 3 ∧ no = 0)) := by
          by_cases hleaf : 0 ≤ leaf ∧ leaf < 8
          · by_cases h3 : idp.length = 3
            · exact ⟨_, 0, climbTo_length key hkey leaf.toNat idp 3, by have := climb_ok key hkey leaf.toNat (by omega) _ idp h3 w9 hq9; rwa [Int.toNat_of_nonneg hleaf.1] at this, .inr (.inr ⟨hleaf, h3, rfl, rfl⟩)⟩
            · exact ⟨_, 3, List.length_replicate, by rw [show bagg (List.replicate 32 0) = .agg zero24 from by rw [hz]]; exact climb_long key leaf hleaf.1 hleaf.2 a1 _ c1 h3 w9, .inr (.inl ⟨hleaf, h3, rfl, rfl⟩)⟩
          · exact ⟨_, 2, List.length_replicate, by rw [show bagg (List.replicate 32 0) = .agg zero24 from by rw [hz]]; exact climb_arg key leaf (by omega) _ w9, .inl ⟨by omega, rfl, rfl⟩⟩
        have Hcase := Lib.hid Hcase
        have HC := Lib.hid HC
        clear hz
        go_upto_region 11 with fail
        iterate 4 go_step
        refine wpList_load_mid rfl 24 (.tmp 46) rfl N 0 rfl (key.map bv) (.array 32 5) r0 (by kernel_rfl) rfl (by rw [List.length_map, hkey]; kernel_rfl) ?_
        go_wp2_with fail
        refine HC.out.mono ?_
        rintro e w10 ⟨rfl, hb10⟩
        have c32 : w10.cell? ⟨N, 32, none⟩ = some (.int .i64 leaf) := (hb10.cell (by show N < _; omega)).trans c32
        have r0 : w10.rangeAt N 0 (key.map bv) := fun j u hu => (hb10.cell (by show N < _; omega)).trans (r0 j u hu)
        have hq10 := hq9.mono hb10
        have hp10 := hp9.mono hb10
        have hb10' := hb9'.trans (hb10.mono hb9'.size)
        have hs10 : N + 2 ≤ w10.heap.size := by have := hb10.size; omega
        clear HC hq9 hp9 hb10 hb9' hs9
        dsimp only
        go_upto_region 12 with (refine wpList_store_new rfl 24 (.tmp 11) (.tmp 52) rfl _ _ (x.map bv).toArray rfl rfl (id_info x hx) (id_size x hx).symm (id_one x) ?_)
        obtain ⟨w11, hw11, hbl11, hb11, hs11⟩ := allocs_named w10 [.cells (x.map bv).toArray 24]
        change Code.wp _ _ _ _ (List.foldl World.alloc w10 [.cells (x.map bv).toArray 24])
        rw [hw11]
        have hX : w11.heap[w10.heap.size]? = some (.cells (x.map bv).toArray 24 (0, 0)) := hbl11 0
        have c32 : w11.cell? ⟨N, 32, none⟩ = some (.int .i64 leaf) := (hb11.cell (by show N < _; omega)).trans c32
        have r0 : w11.rangeAt N 0 (key.map bv) := fun j u hu => (hb11.cell (by show N < _; omega)).trans (r0 j u hu)
        have hq11 := hq10.mono hb11
        have hp11 := hp10.mono hb11
        have Hq10 : ∀ w', Below w10.heap.size w10 w' → RdI w' (.slice a1 idp.length c1) idp ∧ RdI w' (.slice a2 idp.length c2) idp := fun w' h => ⟨hq10.mono h, hp10.mono h⟩
        have hbM := hb11
        have hb11' := hb10'.trans (hb11.mono hb10'.size)
        simp only [List.length_cons, List.length_nil] at hs11
        clear hbl11 hw11 hq10 hp10 hb11
        have hwM : w.heap.size ≤ w10.heap.size := hb10'.size
        clear hb10'
        have Hq10 := Lib.hid Hq10
        generalize w10.heap.size = M at *
        have Hs11 := Lib.hid hs11
        clear hs11
        go_upto_region 14 with (first
          | (refine wpList_build rfl 24 _ rfl (by kernel_rfl) ?_; rw [show (Option.getD (Try.prog.built 24 _) #[]) = zero24 from by kernel_rfl])
          | (refine wpList_store_new rfl 24 (.tmp 14) (.tmp 54) rfl _ _ zero24 rfl rfl zero24_info rfl zero24_one ?_))
        have hs11 := Hs11.out
        clear Hs11
        obtain ⟨w12, hw12, hbl12, hb12, hs12⟩ := allocs_named w11 [.cells zero24 24]
        change Code.wp _ _ _ _ (List.foldl World.alloc w11 [.cells zero24 24])
        rw [hw12]
        have hY : w12.heap[w11.heap.size]? = some (.cells zero24 24 (0, 0)) := hbl12 0
        have hX : w12.heap[M]? = some (.cells (x.map bv).toArray 24 (0, 0)) := (hb12.block M (by omega)).trans hX
        have c32 : w12.cell? ⟨N, 32, none⟩ = some (.int .i64 leaf) := (hb12.cell (by show N < _; omega)).trans c32
        have r0 : w12.rangeAt N 0 (key.map bv) := fun j u hu => (hb12.cell (by show N < _; omega)).trans (r0 j u hu)
        have hq12 := hq11.mono hb12
        have hp12 := hp11.mono hb12
        have hb12' := hb11'.trans (hb12.mono hb11'.size)
        simp only [List.length_cons, List.length_nil] at hs12
        have hbM := hbM.trans (hb12.mono (by omega))
        clear hbl12 hw12 hq11 hp11 hb12 hb11'
        rw [hs11]
        rw [hs11] at hY
        rw [hs11] at hs12
        clear hs11
        have hz : zero24 = ((List.replicate 32 (0 : UInt8)).map bv).toArray := by kernel_rfl
        rcases Hcase.out with ⟨hleaf, hxx, rfl⟩ | ⟨⟨hlf1, hlf2⟩, hlen, hxx, rfl⟩ | ⟨⟨hlf1, hlf2⟩, hlen, hxx, rfl⟩
        · rw [hz, ← hxx] at hY
          clear Hcase hxx hz
          have hlfs : leaf < 0 ∨ ¬ leaf < 0 ∧ 8 ≤ leaf := by omega
          rcases hlfs with h1 | ⟨h1, h2⟩
          · go_upto_region 18 with fail
            have hE := equal_id x x hx hx
            have HS := Lib.hid (same_any _ _ idp idp w12 hq12 hp12 (by omega))
            clear c32 r0
            go_wp2_with (first
              | (refine wpList_load_rowg (by kernel_rfl) 24 (.tmp 11) rfl M rfl 24 _ (0, 0) (.array 32 5) hX (by kernel_rfl) rfl (id_info x hx) ?_)
              | (refine wpList_load_rowg (by kernel_rfl) 24 (.tmp 14) rfl (M + 1) rfl 24 _ (0, 0) (.array 32 5) hY (by kernel_rfl) rfl (id_info x hx) ?_))
            refine HS.out.mono ?_
            rintro e w14 ⟨rfl, hb14⟩
            rw [show decide True = true from rfl]
            dsimp only
            go_wp2_with fail
            go_roundw
            case rel => exact ⟨k + 1, by omega, by omega, by go_num, hb12'.trans (hb14.mono hb12'.size)⟩
            case measure => simp [intOf]; omega
          · go_upto_region 18 with fail
            have hE := equal_id x x hx hx
            have HS := Lib.hid (same_any _ _ idp idp w12 hq12 hp12 (by omega))
            clear c32 r0
            go_wp2_with (first
              | (refine wpList_load_rowg (by kernel_rfl) 24 (.tmp 11) rfl M rfl 24 _ (0, 0) (.array 32 5) hX (by kernel_rfl) rfl (id_info x hx) ?_)
              | (refine wpList_load_rowg (by kernel_rfl) 24 (.tmp 14) rfl (M + 1) rfl 24 _ (0, 0) (.array 32 5) hY (by kernel_rfl) rfl (id_info x hx) ?_))
            refine HS.out.mono ?_
            rintro e w14 ⟨rfl, hb14⟩
            rw [show decide True = true from rfl]
            dsimp only
            go_wp2_with fail
            go_roundw
            case rel => exact ⟨k + 1, by omega, by omega, by go_num, hb12'.trans (hb14.mono hb12'.size)⟩
            case measure => simp [intOf]; omega
        · rw [hz, ← hxx] at hY
          clear Hcase hxx hz
          have h1 : ¬ leaf < 0 := by omega
          have h2 : ¬ 8 ≤ leaf := by omega
          have h3 : ((idp.length : Int) != 3) = true := by simp; omega
          go_upto_region 18 with fail
          have hE := equal_id x x hx hx
          have HS := Lib.hid (same_any _ _ idp idp w12 hq12 hp12 (by omega))
          clear c32 r0
          go_wp2_with (first
            | (refine wpList_load_rowg (by kernel_rfl) 24 (.tmp 11) rfl M rfl 24 _ (0, 0) (.array 32 5) hX (by kernel_rfl) rfl (id_info x hx) ?_)
            | (refine wpList_load_rowg (by kernel_rfl) 24 (.tmp 14) rfl (M + 1) rfl 24 _ (0, 0) (.array 32 5) hY (by kernel_rfl) rfl (id_info x hx) ?_))
          refine HS.out.mono ?_
          rintro e w14 ⟨rfl, hb14⟩
          rw [show decide True = true from rfl]
          dsimp only
          go_wp2_with fail
          go_roundw
          case rel => exact ⟨k + 1, by omega, by omega, by go_num, hb12'.trans (hb14.mono hb12'.size)⟩
          case measure => simp [intOf]; omega
        · clear Hcase hz
          have h1 : ¬ leaf < 0 := by omega
          have h2 : ¬ 8 ≤ leaf := by omega
          have h3 : ((idp.length : Int) != 3) = false := by simp; omega
          have HC := climbed_ok key hkey leaf.toNat (by omega) _ idp hlen w12 hp12
          rw [Int.toNat_of_nonneg hlf1, ← hxx] at HC
          have HC := Lib.hid HC
          clear hxx hlen
          go_wp2_with (refine wpList_load_mid rfl 24 (.tmp 55) rfl N 0 rfl (key.map bv) (.array 32 5) r0 (by kernel_rfl) rfl (by rw [List.length_map, hkey]; kernel_rfl) ?_)
          refine HC.out.mono ?_
          rintro e w13 ⟨rfl, hb13⟩
          have hX13 := (hb13.block M (by omega)).trans hX
          have hY13 := (hb13.block (M + 1) (by omega)).trans hY
          have hbM13 := hbM.trans (hb13.mono (by omega))
          have hb13' := hb12'.trans (hb13.mono hb12'.size)
          clear HC hX hY c32 r0 hbM hb12' hq12 hp12 hb13
          dsimp only
          go_upto_region 18 with (refine wpList_store_row rfl 24 (.tmp 14) (.tmp 60) rfl (M + 1) 24 zero24 (x.map bv).toArray rfl rfl hY13 (id_info x hx) (id_size x hx).symm (id_one x) ?_)
          have hX15 : (w13.setRow (M + 1) (x.map bv).toArray).heap[M]? = _ := (setRow_other _ _ _ _ (by omega)).trans hX13
          have hY15 : (w13.setRow (M + 1) (x.map bv).toArray).heap[M + 1]? = _ := setRow_heap _ _ _ _ _ _ hY13
          have hb15 : Below w.heap.size w (w13.setRow (M + 1) (x.map bv).toArray) := below_setRow' hb13' (by omega) _
          obtain ⟨hq15, hp15⟩ := Hq10.out _ (below_setRow' hbM13 (Nat.le_succ M) (x.map bv).toArray)
          clear hX13 hY13 hbM13 hb13' Hq10
          generalize w13.setRow (M + 1) (x.map bv).toArray = w15 at *
          have hE := equal_id x x hx hx
          have HS := Lib.hid (same_any _ _ idp idp w15 hq15 hp15 (by omega))
          go_wp2_with (first
            | (refine wpList_load_rowg (by kernel_rfl) 24 (.tmp 11) rfl M rfl 24 _ (0, 0) (.array 32 5) hX15 (by kernel_rfl) rfl (id_info x hx) ?_)
            | (refine wpList_load_rowg (by kernel_rfl) 24 (.tmp 14) rfl (M + 1) rfl 24 _ (0, 0) (.array 32 5) hY15 (by kernel_rfl) rfl (id_info x hx) ?_))
          refine HS.out.mono ?_
          rintro e w14 ⟨rfl, hb14⟩
          rw [show decide True = true from rfl]
          dsimp only
          go_wp2_with fail
          go_roundw
          case rel => exact ⟨k + 1, by omega, by omega, by go_num, hb15.trans (hb14.mono hb15.size)⟩
          case measure => simp [intOf]; omega
    · have hkk : k = cl.length := by omega
      have hn : ¬ ((k : Int) < cl.length) := by omega
      go_wp2_with fail
      go_ret
      exact ⟨ret_val rfl, hbr⟩
end Go.Proofs.Ytcfkapoppmpehaa

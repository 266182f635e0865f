/-
  What a call of Sum gives: the digest of bytes.
-/
import Derived.Test.YtcfkapoppmpehaaBlkB
import Derived.Test.YtcfkapoppmpehaaPad
namespace Go.Proofs.Ytcfkapoppmpehaa
open Go.RowKit

/-- A whole array is read, as one step of a region that draws its order. -/
theorem wpQuiet_load_mid {P : Program} {ops : Array Oper} {C : World → Prop} {Q : Act → Prop} {a : Act} {o : Oper} {rest : List Oper} (hg : o.guard = none) (ty : TypeId) (x : Operand) (ho : o.op = .load ty x)
    (b off : Nat) (hx : a.eval x = .pointer (some ⟨b, off, none⟩)) (cs : List Value) (d : TypeDesc) (hS : ∀ w, C w → w.rangeAt b off cs)
    (hu : P.underlying ty = some d) (hd : d.isRow = true) (hi : (P.info? ty).map (·.size) = some cs.length)
    (h : wpQuiet P ops C Q rest (a.put o.dst (.agg cs.toArray))) : wpQuiet P ops C Q (o :: rest) a :=
  BigFrame.wpQuiet_want (by simp [Region.wanted, hg]) fun K hK => ⟨_, fun w hw => by
    unfold Oper.quietAt execOp
    simp only [ho, hx, Instr.loadAt, Instr.sureAddr, Sem.run_bind, Sem.run_pure, Result.andThen_ok, run_loadVar_mid w b off ty cs d (hS w hw) hu hd hi]
    exact ⟨rfl, rfl⟩, hK _ h⟩

theorem run_arrayAt {P : Program} (w : World) (t n e : Nat) (hu : P.underlying t = some (.array n e)) (a : Option Addr) (len cap : Nat) (h : n ≤ len) :
    (Instr.arrayAt t (.slice a len cap)).run P w = .ok (.pointer a) w := by
  simp [Instr.arrayAt, run_underlying hu]
  omega


theorem rangeAt_row {w : World} {g : Nat} {t : TypeId} {C : List Value} (h : w.heap[g]? = some (.cells C.toArray t (0, 0))) (o n : Nat) : w.rangeAt g o ((C.drop o).take n) := fun j v hv => by
  rw [cell_of_row _ _ _ _ _ _ h]
  have hj : j < n := by
    have := (List.getElem?_eq_some_iff.1 hv).1
    simp at this; omega
  rw [List.getElem?_take, if_pos hj, List.getElem?_drop] at hv
  simpa using hv
theorem st_size (τ : St) : (τ.list.map wv).toArray.size = 8 := rfl
theorem st_info (τ : St) : (Try.prog.info? 65).map (·.size) = some (τ.list.map wv).toArray.size := by rw [st_size]; kernel_rfl
theorem st_one (τ : St) : (τ.list.map wv).toArray.all (·.oneCell') = true := by simp; intro x _; rfl
theorem id_size (l : List UInt8) (h : l.length = 32) : (l.map bv).toArray.size = 32 := by simp [h]
theorem id_info (l : List UInt8) (h : l.length = 32) : (Try.prog.info? 24).map (·.size) = some (l.map bv).toArray.size := by rw [id_size l h]; kernel_rfl
theorem id_one (l : List UInt8) : (l.map bv).toArray.all (·.oneCell') = true := by simp; intro x _; rfl
def zero24 : Array Value := #[bv 0, bv 0, bv 0, bv 0, bv 0, bv 0, bv 0, bv 0, bv 0, bv 0, bv 0, bv 0, bv 0, bv 0, bv 0, bv 0, bv 0, bv 0, bv 0, bv 0, bv 0, bv 0, bv 0, bv 0, bv 0, bv 0, bv 0, bv 0, bv 0, bv 0, bv 0, bv 0]
theorem zero24_size : zero24.size = 32 := rfl
theorem zero24_out (σ : St) : zero24 = ((outTo σ 0).map bv).toArray := rfl

set_option maxRecDepth 100000 in
set_option maxHeartbeats 1000000 in
theorem sum_any (v : Value) (bs : List UInt8) (hl : bs.length ≤ 40000) (w : World) (hv : RdB w v bs) :
    Calls Try.prog 44 #[v] w fun e w' => e = .returned (bagg (shaB bs)) ∧ Below w.heap.size w w' := by
  go_enter Try.func44, Try.ntmps44
  go_wp2_with fail
  refine (start_any _).mono ?_
  rintro e w1 ⟨rfl, hb1⟩
  have h0 : w1.heap[w.heap.size]? = some (.cells zero24 24 (0, 0)) := (hb1.block _ (by simp)).trans (heap_alloc_new w _)
  have hb : Below w.heap.size w w1 := ((Below.refl _ _).alloc (Nat.le_refl _) _).trans (hb1.mono (by simp))
  have hlt0 := (Array.getElem?_eq_some_iff.1 h0).1
  have hv1 := hv.mono hb
  clear hb1 hv
  go_wp2_with (refine wpList_store_new rfl 65 (.tmp 3) (.tmp 9) rfl _ _ (startS.list.map wv).toArray rfl rfl (by kernel_rfl) (by kernel_rfl) (by kernel_rfl) ?_)
  have hb2 := (Below.refl w1.heap.size w1).alloc (Nat.le_refl _) (Obj.cells (startS.list.map wv).toArray 65)
  refine (pad_any v bs (by omega) _ (hv1.mono hb2)).mono ?_
  rintro e w2 ⟨v', rfl, ⟨H, rfl, hH, hrow⟩, hb3⟩
  have hR : w2.heap[w1.heap.size]? = some (.cells (startS.list.map wv).toArray 65 (0, 0)) := (hb3.block _ (by simp)).trans (heap_alloc_new w1 _)
  have hb4 := (hb.trans (hb2.mono (by omega))).trans (hb3.mono (by simp; omega))
  have h04 : w2.heap[w.heap.size]? = some (.cells zero24 24 (0, 0)) := (hb3.block _ (by simp; omega)).trans ((hb2.block _ hlt0).trans h0)
  obtain ⟨R, hRe⟩ : ∃ R, R = w1.heap.size := ⟨_, rfl⟩
  rw [← hRe] at hR ⊢
  have hHR : R < H := by simp at hH; omega
  have h0R : w.heap.size < R := by omega
  clear hb hb2 hb3 hv1 h0 hlt0 hRe hH w1
  have hmod := padL_mod bs
  have hpl := padL_length bs
  have hfl := fillN_lt bs.length
  generalize hall : padL bs = all at *
  have Hall := Lib.hid hall
  clear hall hpl hfl
  go_wp2_with fail
  go_loopw [4] (fun v4 wr => ∃ (k : Nat) (A : Option Addr), 64 * k ≤ all.length ∧ v4 = .slice A (all.length - 64 * k) (all.length - 64 * k) ∧ (64 * k < all.length → A = some ⟨H, 64 * k, none⟩) ∧
      Below w.heap.size w wr ∧ wr.heap[w.heap.size]? = some (.cells zero24 24 (0, 0)) ∧ wr.heap[R]? = some (.cells ((hashTo all k).list.map wv).toArray 65 (0, 0)) ∧ wr.heap[H]? = some (.cells (all.map bv).toArray 5 (0, 0)))
    (fun v4 _ => match v4 with | .slice _ n _ => n | _ => 0)
  case atStart => exact ⟨0, _, by omega, rfl, fun _ => rfl, hb4, h04, hR, hrow⟩
  case round =>
    clear hb4 h04 hR hrow
    obtain ⟨k, A, hk, rfl, hA, hb, h0, hR, hH⟩ := hrel
    by_cases hlt : 64 * k < all.length
    · obtain rfl := hA hlt
      have hlt' : 0 < all.length - 64 * k := by omega
      have hge : 64 ≤ all.length - 64 * k := by omega
      have harr := fun w => run_arrayAt (P := Try.prog) w 68 64 5 (by kernel_rfl) (some ⟨H, 64 * k, none⟩) (all.length - 64 * k) (all.length - 64 * k) hge
      have hlen : ((all.drop (64 * k)).take 64).length = 64 := by simp; omega
      have hrg : ∀ p, (gro wr p).rangeAt H (64 * k) (((all.drop (64 * k)).take 64).map bv) := fun p => by
        have h := rangeAt_row (gro_heap hH p) (64 * k) 64
        rwa [← List.map_drop, ← List.map_take] at h
      have Hst := Lib.hid (show hashTo all (k + 1) = blockS (hashTo all k) ((all.drop (64 * k)).take 64) from rfl)
      have Hlen := Lib.hid hlen
      have Hrg := Lib.hid hrg
      clear hlen hrg
      generalize (all.drop (64 * k)).take 64 = ch at *
      generalize hashTo all k = σ at *
      have hblk := fun w => block_any σ ch Hlen.out w
      generalize blockS σ ch = τ at *
      have Hblk := Lib.hid hblk
      clear hblk
      go_wp2_with fail
      refine wp_region_qgrot 5 (by kernel_rfl) (by kernel_rfl) ?_
      simp only [List.take_succ_cons, List.take_zero, List.drop_succ_cons, List.drop_zero]
      refine wpQuiet_load_mid rfl 65 (.tmp 3) rfl R 0 rfl (σ.list.map wv) (.array 8 64) (by rintro _ ⟨p, rfl⟩; exact rangeAt_row (gro_heap hR p) 0 8) (by kernel_rfl) rfl (by kernel_rfl) ?_
      simp only [Act.put, List.setIfInBounds_toArray, List.set_cons_succ, List.set_cons_zero]
      go_big_quiet_step (fail)
      go_big_quiet_step (fail)
      refine wpQuiet_load_mid rfl 68 (.tmp 19) rfl H (64 * k) rfl (ch.map bv) (.array 64 5) (by rintro _ ⟨p, rfl⟩; exact Hrg.out p) (by kernel_rfl) rfl (by rw [List.length_map, Hlen.out]; kernel_rfl) ?_
      simp only [Act.put, List.setIfInBounds_toArray, List.set_cons_succ, List.set_cons_zero]
      go_big_quiet_step ((go_at_call 50; exact gro_call (Hblk.out _)))
      refine wpQuiet_nil ?_
      rintro _ ⟨p, rfl⟩
      go_wp2_with (refine wpList_store_row rfl 65 (.tmp 3) (.tmp 21) rfl R 65 _ (τ.list.map wv).toArray rfl rfl (gro_heap hR p) (st_info τ) ((st_size σ).trans (st_size τ).symm) (st_one τ) ?_)
      go_roundw
      case rel =>
        refine ⟨k + 1, _, by omega, by rw [show all.length - 64 * (k + 1) = all.length - 64 * k - 64 by omega], fun h => ?_, ?_, ?_, ?_, ?_⟩
        · rw [if_neg (by omega)]
          congr 2
        · exact below_setRow' (hb.trans ((below_gro wr p).mono hb.size)) (by omega) _
        · rw [setRow_other _ _ _ _ (by omega)]; exact gro_heap h0 p
        · rw [Hst.out]; exact setRow_heap _ _ _ _ _ _ (gro_heap hR p)
        · rw [setRow_other _ _ _ _ (by omega)]; exact gro_heap hH p
      case measure => simp; omega
    · have hke : all.length / 64 = k := by omega
      have hz : all.length - 64 * k = 0 := by omega
      generalize hσ : hashTo all k = σ at *
      have Hσ : Hid (shaB bs = digestB σ) := Lib.hid (by unfold shaB; rw [Hall.out, hke, hσ])
      clear hσ hke hmod Hall
      rw [hz]
      clear hz hA hlt hk
      clear hH
      go_wp2_with (refine wpList_load_row rfl 65 (.tmp 3) rfl R rfl 65 _ (0, 0) (.array 8 64) ((Below.heap_alloc _ _ _ (Array.getElem?_eq_some_iff.1 hR).1).trans hR) (by kernel_rfl) rfl (st_info σ) ?_)
      obtain ⟨D, hD⟩ : ∃ D, D = wr.heap.size := ⟨_, rfl⟩
      rw [← hD]
      have h5 : (wr.alloc (Obj.cells zero24 24)).heap[D]? = some (.cells ((outTo σ 0).map bv).toArray 24 (0, 0)) := by rw [hD]; exact heap_alloc_new wr _
      have h2 := (Below.heap_alloc wr (Obj.cells zero24 24) _ (Array.getElem?_eq_some_iff.1 h0).1).trans h0
      have hb5 := hb.alloc hb.size (Obj.cells zero24 24)
      have hDw : w.heap.size < D := by rw [hD]; have := hb.size; have := (Array.getElem?_eq_some_iff.1 h0).1; omega
      clear hb h0 hR hD
      go_loopw [23] (fun i w1 => ∃ n : Nat, n ≤ 8 ∧ i = .int .i64 n ∧ Below w.heap.size w w1 ∧ w1.heap[w.heap.size]? = some (.cells zero24 24 (0, 0)) ∧ w1.heap[D]? = some (.cells ((outTo σ (4 * n)).map bv).toArray 24 (0, 0))) (fun i _ => 8 - (intOf i).toNat)
      case atStart => exact ⟨0, by omega, rfl, hb5, h2, h5⟩
      case round =>
        clear hb5 h2 h5
        obtain ⟨n, hn, rfl, hb, h0, h5⟩ := hrel
        by_cases hlt : n < 8
        · have hix := fun w => run_index65 w σ.list rfl n hlt
          rw [list_get σ n hlt] at hix
          go_wp2_with fail
          obtain ⟨wo, rfl⟩ : ∃ wo : World, wo = wr := ⟨_, rfl⟩
          go_loopw [27] (fun i w2 => ∃ m : Nat, m ≤ 4 ∧ i = .int .i64 m ∧ Below w.heap.size w w2 ∧ w2.heap[w.heap.size]? = some (.cells zero24 24 (0, 0)) ∧ w2.heap[D]? = some (.cells ((outTo σ (4 * n + m)).map bv).toArray 24 (0, 0))) (fun i _ => 4 - (intOf i).toNat)
          case atStart => exact ⟨0, by omega, rfl, hb, h0, h5⟩
          case round =>
            clear hb h0 h5
            obtain ⟨m, hm, rfl, hb, h0, h5⟩ := hrel
            by_cases hlt2 : m < 4
            · have e0 : wr.cell? ⟨D, 4 * n + m, none⟩ = some (bv ((outTo σ (4 * n + m)).getD (4 * n + m) 0)) := by
                rw [cell_of_row _ _ _ _ _ _ h5, getb _ _ (by rw [outTo_length]; omega)]
              have f0 := frozen_of_row wr D (4 * n + m) _ _ h5
              generalize (outTo σ (4 * n + m)).getD (4 * n + m) 0 = y at *
              go_wp2_with fail
              go_roundw
              case rel =>
                refine ⟨m + 1, by omega, by go_num, hb.setCell (by show _ ≤ D; omega) _, by rw [heap_setCell_other _ _ _ _ (by show w.heap.size ≠ D; omega)]; exact h0, ?_⟩
                have h := heap_setCell_same wr D (4 * n + m) _ _ (bv (dByte σ (4 * n + m))) h5
                rw [setLb, outTo_step _ _ (by omega)] at h
                rw [show (↑(σ.get n).toNat / 2 ^ (24 - 8 * m) % 256 : Int) = ((dByte σ (4 * n + m)).toNat : Int) from by
                  unfold dByte
                  rw [show (4 * n + m) / 4 = n by omega, show (4 * n + m) % 4 = m by omega]
                  simp]
                exact h
              case measure => simp [intOf]; omega
            · obtain rfl : m = 4 := by omega
              go_wp2_with fail
              go_roundw
              case rel => exact ⟨n + 1, by omega, by go_num, hb, h0, h5⟩
              case measure => simp [intOf]; omega
        · obtain rfl : n = 8 := by omega
          go_wp2_with (first
            | (refine wpList_load_row rfl 24 (.tmp 5) rfl D rfl 24 _ (0, 0) (.array 32 5) h5 (by kernel_rfl) rfl (id_info _ (outTo_length σ 32)) ?_)
            | (refine wpList_store_row rfl 24 (.tmp 2) (.tmp 43) rfl w.heap.size 24 zero24 ((outTo σ 32).map bv).toArray rfl rfl h0 (id_info _ (outTo_length σ 32)) (id_size _ (outTo_length σ 32)).symm (id_one _) ?_))
          refine bodyPost_ret (results_cell_row (d := .array 32 5) rfl _ _ w.heap.size 24 _ (0, 0) rfl (setRow_heap _ _ _ _ _ _ h0) (by kernel_rfl) rfl (id_info _ (outTo_length σ 32))) rfl ⟨?_, below_setRow' hb (Nat.le_refl _) _⟩
          rw [Hσ.out, outTo_full]
end Go.Proofs.Ytcfkapoppmpehaa

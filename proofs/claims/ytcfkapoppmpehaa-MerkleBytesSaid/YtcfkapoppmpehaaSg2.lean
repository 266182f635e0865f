/-
  Signatures, copied: a signature's copy has at most seventy digests and a path of at most five.
-/
import Derived.Test.YtcfkapoppmpehaaSg0
import Derived.Test.YtcfkapoppmpehaaReg
import Derived.Test.YtcfkapoppmpehaaL03
namespace Go.Proofs.Ytcfkapoppmpehaa
open Go.RowKit

/-- The value v reads, in the world w, as a signature: a leaf, chains, a path. -/
def RdS (w : World) (v : Value) (leaf : Int) (cs ps : List (List UInt8)) : Prop := ∃ cv pv, v = .agg #[.int .i64 leaf, cv, pv] ∧ RdI w cv cs ∧ RdI w pv ps
theorem RdS.mono {w w' : World} {v : Value} {leaf : Int} {cs ps : List (List UInt8)} (h : RdS w v leaf cs ps) (hb : Below w.heap.size w w') : RdS w' v leaf cs ps := by
  obtain ⟨cv, pv, rfl, h1, h2⟩ := h
  exact ⟨cv, pv, rfl, h1.mono hb, h2.mono hb⟩
def zero49 : Array Value := #[.int .i64 0, .slice none 0 0, .slice none 0 0]
theorem Stays.rdIs (ids : List (List UInt8)) : Stays fun v w => RdI w v ids := fun _ _ _ hb h => h.mono hb
/-- An empty slice of digests that is new. -/
def NewI (v : Value) (w : World) : Prop := ∃ g, v = .slice (some ⟨g, 0, none⟩) 0 0 ∧ w.heap[g]? = some (.cells #[] 24 (0, 0))
theorem Stays.newI : Stays NewI := fun _ _ _ hb ⟨g, h1, h2⟩ => ⟨g, h1, (hb.block _ (Array.getElem?_eq_some_iff.1 h2).1).trans h2⟩

/-- What is read of digests lies in no block of a signature. -/
theorem RdI.setRow {w : World} {v : Value} {ids : List (List UInt8)} (h : RdI w v ids) {g : Nat} {l : Int} {a b : Option Addr} {n c m k : Nat} (hg : w.heap[g]? = some (.cells #[.int .i64 l, .slice a n c, .slice b m k] 49 (0, 0))) (cs : Array Value) : RdI (w.setRow g cs) v ids := by
  obtain ⟨a0, cap, rfl, hc, hl, hr⟩ := h
  refine ⟨a0, cap, rfl, hc, hl, fun h0 => ?_⟩
  obtain ⟨bk, o, rfl, hrr⟩ := hr h0
  refine ⟨bk, o, rfl, fun i hi j u hu => ?_⟩
  have hcell := hrr i hi j u hu
  have hne : bk ≠ g := by
    rintro rfl
    rw [cell_of_row _ _ _ _ _ _ hg] at hcell
    rw [List.getElem?_map] at hu
    obtain ⟨y, -, rfl⟩ := Option.map_eq_some_iff.1 hu
    generalize o + i * 32 + j = t at hcell
    match t with
    | 0 => cases hcell
    | 1 => cases hcell
    | 2 => cases hcell
    | t + 3 => simp at hcell
  exact (World.cell?_of_block (a := ⟨bk, _, none⟩) (setRow_other w g bk cs hne)).trans hcell
theorem RdS.setRow {w : World} {v : Value} {leaf : Int} {xs ps : List (List UInt8)} (h : RdS w v leaf xs ps) {g : Nat} {l : Int} {a b : Option Addr} {n c m k : Nat} (hg : w.heap[g]? = some (.cells #[.int .i64 l, .slice a n c, .slice b m k] 49 (0, 0))) (cs : Array Value) : RdS (w.setRow g cs) v leaf xs ps := by
  obtain ⟨cv, pv, rfl, h1, h2⟩ := h
  exact ⟨cv, pv, rfl, h1.setRow hg cs, h2.setRow hg cs⟩
@[go_sem] theorem build49 (w : World) (l : Int) (a b : Option Addr) (n c m k : Nat) : (Instr.build 49 #[(0, .int .i64 l), (1, .slice a n c), (2, .slice b m k)]).run Try.prog w = .ok (.agg #[.int .i64 l, .slice a n c, .slice b m k]) w := run_build w 49 _ _ (by kernel_rfl)

set_option maxRecDepth 100000 in
set_option maxHeartbeats 8000000 in
theorem signed36_any (v : Value) (leaf : Int) (cs ps : List (List UInt8)) (w : World) (hv : RdS w v leaf cs ps) :
    Calls Try.prog 36 #[v] w fun e w' => ∃ v', e = .returned v' ∧ RdS w' v' leaf (cs.take 70) (ps.take 5) ∧ Below w.heap.size w w' := by
  obtain ⟨cv, pv, rfl, hc, hp⟩ := hv
  have hc0 := hc
  have hp0 := hp
  obtain ⟨ca, cc, rfl, hcc, _, _⟩ := hc0
  obtain ⟨pa, pc, rfl, hpc, _, _⟩ := hp0
  go_enter Try.func36, Try.ntmps36
  go_upto_region 1 with fail
  obtain ⟨w2, hw2, hbl, hb2, hs2⟩ := allocs_named w [.cells #[.int .i64 leaf, .slice ca cs.length cc, .slice pa ps.length pc] 49, .cells zero49 49]
  change Code.wp _ _ _ _ (List.foldl World.alloc w [.cells #[.int .i64 leaf, .slice ca cs.length cc, .slice pa ps.length pc] 49, .cells zero49 49])
  rw [hw2]
  have hB0 : w2.heap[w.heap.size]? = some (.cells #[.int .i64 leaf, .slice ca cs.length cc, .slice pa ps.length pc] 49 (0, 0)) := hbl 0
  have h0 : w2.cell? ⟨w.heap.size, 0, none⟩ = some (.int .i64 leaf) := by rw [cell_of_row _ _ _ _ _ _ hB0]; rfl
  have h1 : w2.cell? ⟨w.heap.size, 1, none⟩ = some (.slice ca cs.length cc) := by rw [cell_of_row _ _ _ _ _ _ hB0]; rfl
  have h2 : w2.cell? ⟨w.heap.size, 2, none⟩ = some (.slice pa ps.length pc) := by rw [cell_of_row _ _ _ _ _ _ hB0]; rfl
  have hZ : w2.heap[w.heap.size + 1]? = some (.cells zero49 49 (0, 0)) := hbl 1
  clear hw2 hbl hs2 hB0
  have hcT := (hc.mono hb2).takeM 70
  have hpT := (hp.mono hb2).takeM 5
  obtain ⟨q, hq⟩ : ∃ q, q = (cs.take 70).length := ⟨_, rfl⟩
  obtain ⟨s, hs⟩ : ∃ s, s = (ps.take 5).length := ⟨_, rfl⟩
  have hql : (cs.take 70).length = min cs.length 70 := by simp [Nat.min_comm]
  have hsl : (ps.take 5).length = min ps.length 5 := by simp [Nat.min_comm]
  have hminc : (if 70 < (cs.length : Int) then 70 else (cs.length : Int)) = (q : Int) := by rw [hq, hql]; omega
  have hminp : (if 5 < (ps.length : Int) then 5 else (ps.length : Int)) = (s : Int) := by rw [hs, hsl]; omega
  have hqc : q ≤ cc := by rw [hq, hql]; omega
  have hsc : s ≤ pc := by rw [hs, hsl]; omega
  have hq70 : (cs.take 70).length ≤ 70 := by rw [hql]; omega
  have hs5 : (ps.take 5).length ≤ 5 := by rw [hsl]; omega
  rw [← hq] at hcT
  rw [← hs] at hpT
  clear hq hs hql hsl
  generalize hcq : cs.take 70 = cq at *
  generalize hpq : ps.take 5 = pq at *
  replace hcq := Lib.hid hcq
  replace hpq := Lib.hid hpq
  generalize cs.length = cn at *
  generalize ps.length = pn at *
  clear hc hp
  refine wp_region_rels 21 [fun v _ => v = .pointer (some ⟨w.heap.size, 0, none⟩),
      fun v _ => v = .int .i64 leaf,
      NewI,
      fun v _ => v = .pointer (some ⟨w.heap.size, 1, none⟩),
      fun v _ => v = .slice ca cn cc,
      fun v _ => v = .pointer (some ⟨w.heap.size, 1, none⟩),
      fun v _ => v = .slice ca cn cc,
      fun v _ => v = .int .i64 cn,
      fun v _ => v = .int .i64 q,
      fun v _ => v = .slice ca q cc,
      fun v u => RdI u v cq,
      NewI,
      fun v _ => v = .pointer (some ⟨w.heap.size, 2, none⟩),
      fun v _ => v = .slice pa pn pc,
      fun v _ => v = .pointer (some ⟨w.heap.size, 2, none⟩),
      fun v _ => v = .slice pa pn pc,
      fun v _ => v = .int .i64 pn,
      fun v _ => v = .int .i64 s,
      fun v _ => v = .slice pa s pc,
      fun v u => RdI u v pq,
      fun v u => RdS u v leaf cq pq] rfl (by kernel_rfl) rfl
    ⟨Stays.const _, Stays.const _, Stays.newI, Stays.const _, Stays.const _, Stays.const _, Stays.const _, Stays.const _, Stays.const _, Stays.const _, Stays.rdIs _, Stays.newI, Stays.const _, Stays.const _, Stays.const _, Stays.const _, Stays.const _, Stays.const _, Stays.const _, Stays.rdIs _, (fun _ _ _ hb h => h.mono hb), trivial⟩
    ⟨?s0, ?s1, ?s2, ?s3, ?s4, ?s5, ?s6, ?s7, ?s8, ?s9, ?s10, ?s11, ?s12, ?s13, ?s14, ?s15, ?s16, ?s17, ?s18, ?s19, ?s20, trivial⟩ ?fin
  case s0 =>
    intro z u hu hd K hK
    simp only [depsR] at hd
    simp only [setAll, dstAt, List.getElem?_toArray, List.getElem?_cons_zero, List.getElem?_cons_succ, Option.bind_some, Act.put, List.setIfInBounds_toArray, List.set_cons_zero, List.set_cons_succ, rAt, List.getD_cons_zero] at hK ⊢
    go_wp2_with fail
    exact hK _ _ rfl (Below.refl _ _)
  case s1 =>
    intro z u hu hd K hK
    simp only [depsR, rAt, List.getD_cons_zero, Region.binds, forall_const, and_true] at hd
    simp only [setAll, dstAt, List.getElem?_toArray, List.getElem?_cons_zero, List.getElem?_cons_succ, Option.bind_some, Act.put, List.setIfInBounds_toArray, List.set_cons_zero, List.set_cons_succ, rAt, List.getD_cons_zero, List.getD_cons_succ] at hK ⊢
    have hcell := (hu.cell (p := ⟨w.heap.size, 0, none⟩) (block_lt_of_cell h0)).trans h0
    simp only [hd] at hK ⊢
    go_wp2_with fail
    exact hK _ _ rfl (Below.refl _ _)
  case s2 =>
    intro z u hu hd K hK
    simp only [depsR] at hd
    simp only [setAll, dstAt, List.getElem?_toArray, List.getElem?_cons_zero, List.getElem?_cons_succ, Option.bind_some, Act.put, List.setIfInBounds_toArray, List.set_cons_zero, List.set_cons_succ, rAt, List.getD_cons_zero, List.getD_cons_succ] at hK ⊢
    go_wp2_with fail
    exact hK _ _ ⟨_, rfl, heap_alloc_new _ _⟩ ((Below.refl _ _).alloc (Nat.le_refl _) _)
  case s3 =>
    intro z u hu hd K hK
    simp only [depsR] at hd
    simp only [setAll, dstAt, List.getElem?_toArray, List.getElem?_cons_zero, List.getElem?_cons_succ, Option.bind_some, Act.put, List.setIfInBounds_toArray, List.set_cons_zero, List.set_cons_succ, rAt, List.getD_cons_zero, List.getD_cons_succ] at hK ⊢
    go_wp2_with fail
    exact hK _ _ rfl (Below.refl _ _)
  case s4 =>
    intro z u hu hd K hK
    simp only [depsR, rAt, List.getD_cons_zero, List.getD_cons_succ, Region.binds, forall_const, and_true] at hd
    simp only [setAll, dstAt, List.getElem?_toArray, List.getElem?_cons_zero, List.getElem?_cons_succ, Option.bind_some, Act.put, List.setIfInBounds_toArray, List.set_cons_zero, List.set_cons_succ, rAt, List.getD_cons_zero, List.getD_cons_succ] at hK ⊢
    have hcell := (hu.cell (p := ⟨w.heap.size, 1, none⟩) (block_lt_of_cell h1)).trans h1
    simp only [hd] at hK ⊢
    go_wp2_with fail
    exact hK _ _ rfl (Below.refl _ _)
  case s5 =>
    intro z u hu hd K hK
    simp only [depsR] at hd
    simp only [setAll, dstAt, List.getElem?_toArray, List.getElem?_cons_zero, List.getElem?_cons_succ, Option.bind_some, Act.put, List.setIfInBounds_toArray, List.set_cons_zero, List.set_cons_succ, rAt, List.getD_cons_zero, List.getD_cons_succ] at hK ⊢
    go_wp2_with fail
    exact hK _ _ rfl (Below.refl _ _)
  case s6 =>
    intro z u hu hd K hK
    simp only [depsR, rAt, List.getD_cons_zero, List.getD_cons_succ, Region.binds, forall_const, and_true] at hd
    simp only [setAll, dstAt, List.getElem?_toArray, List.getElem?_cons_zero, List.getElem?_cons_succ, Option.bind_some, Act.put, List.setIfInBounds_toArray, List.set_cons_zero, List.set_cons_succ, rAt, List.getD_cons_zero, List.getD_cons_succ] at hK ⊢
    have hcell := (hu.cell (p := ⟨w.heap.size, 1, none⟩) (block_lt_of_cell h1)).trans h1
    simp only [hd] at hK ⊢
    go_wp2_with fail
    exact hK _ _ rfl (Below.refl _ _)
  case s7 =>
    intro z u hu hd K hK
    simp only [depsR, rAt, List.getD_cons_zero, List.getD_cons_succ, Region.binds, forall_const, and_true] at hd
    simp only [setAll, dstAt, List.getElem?_toArray, List.getElem?_cons_zero, List.getElem?_cons_succ, Option.bind_some, Act.put, List.setIfInBounds_toArray, List.set_cons_zero, List.set_cons_succ, rAt, List.getD_cons_zero, List.getD_cons_succ] at hK ⊢
    simp only [hd] at hK ⊢
    go_wp2_with fail
    exact hK _ _ rfl (Below.refl _ _)
  case s8 =>
    intro z u hu hd K hK
    simp only [depsR, rAt, List.getD_cons_zero, List.getD_cons_succ, Region.binds, forall_const, and_true] at hd
    simp only [setAll, dstAt, List.getElem?_toArray, List.getElem?_cons_zero, List.getElem?_cons_succ, Option.bind_some, Act.put, List.setIfInBounds_toArray, List.set_cons_zero, List.set_cons_succ, rAt, List.getD_cons_zero, List.getD_cons_succ] at hK ⊢
    simp only [hd] at hK ⊢
    have hm := hminc
    go_wp2_with fail
    exact hK _ _ rfl (Below.refl _ _)
  case s9 =>
    intro z u hu hd K hK
    simp only [depsR, rAt, List.getD_cons_zero, List.getD_cons_succ, Region.binds, forall_const, and_true] at hd
    simp only [setAll, dstAt, List.getElem?_toArray, List.getElem?_cons_zero, List.getElem?_cons_succ, Option.bind_some, Act.put, List.setIfInBounds_toArray, List.set_cons_zero, List.set_cons_succ, rAt, List.getD_cons_zero, List.getD_cons_succ] at hK ⊢
    simp only [hd] at hK ⊢
    go_wp2_with (refine wpList_slice_to rfl (.tmp 7) (.tmp 11) rfl ca cn cc q hqc rfl rfl ?_)
    exact hK _ _ rfl (Below.refl _ _)
  case s10 =>
    intro z u hu hd K hK
    simp only [depsR, rAt, List.getD_cons_zero, List.getD_cons_succ, Region.binds, forall_const, and_true] at hd
    simp only [setAll, dstAt, List.getElem?_toArray, List.getElem?_cons_zero, List.getElem?_cons_succ, Option.bind_some, Act.put, List.setIfInBounds_toArray, List.set_cons_zero, List.set_cons_succ, rAt, List.getD_cons_zero, List.getD_cons_succ] at hK ⊢
    obtain ⟨⟨g, hz, hgg⟩, h9⟩ := hd
    simp only [hz, h9] at hK ⊢
    go_wp2_with (refine wpList_fresh_ids rfl (.tmp 5) (.tmp 12) rfl g g rfl hgg (Nat.le_refl _) (Nat.le_of_lt (Array.getElem?_eq_some_iff.1 hgg).1) _ cq rfl (hcT.mono hu) (by omega) ?_)
    intro v' u' hown hbz
    go_wp2_with fail
    exact hK _ _ hown.rd hbz
  case s11 =>
    intro z u hu hd K hK
    simp only [depsR] at hd
    simp only [setAll, dstAt, List.getElem?_toArray, List.getElem?_cons_zero, List.getElem?_cons_succ, Option.bind_some, Act.put, List.setIfInBounds_toArray, List.set_cons_zero, List.set_cons_succ, rAt, List.getD_cons_zero, List.getD_cons_succ] at hK ⊢
    go_wp2_with fail
    exact hK _ _ ⟨_, rfl, heap_alloc_new _ _⟩ ((Below.refl _ _).alloc (Nat.le_refl _) _)
  case s12 =>
    intro z u hu hd K hK
    simp only [depsR] at hd
    simp only [setAll, dstAt, List.getElem?_toArray, List.getElem?_cons_zero, List.getElem?_cons_succ, Option.bind_some, Act.put, List.setIfInBounds_toArray, List.set_cons_zero, List.set_cons_succ, rAt, List.getD_cons_zero, List.getD_cons_succ] at hK ⊢
    go_wp2_with fail
    exact hK _ _ rfl (Below.refl _ _)
  case s13 =>
    intro z u hu hd K hK
    simp only [depsR, rAt, List.getD_cons_zero, List.getD_cons_succ, Region.binds, forall_const, and_true] at hd
    simp only [setAll, dstAt, List.getElem?_toArray, List.getElem?_cons_zero, List.getElem?_cons_succ, Option.bind_some, Act.put, List.setIfInBounds_toArray, List.set_cons_zero, List.set_cons_succ, rAt, List.getD_cons_zero, List.getD_cons_succ] at hK ⊢
    have hcell := (hu.cell (p := ⟨w.heap.size, 2, none⟩) (block_lt_of_cell h2)).trans h2
    simp only [hd] at hK ⊢
    go_wp2_with fail
    exact hK _ _ rfl (Below.refl _ _)
  case s14 =>
    intro z u hu hd K hK
    simp only [depsR] at hd
    simp only [setAll, dstAt, List.getElem?_toArray, List.getElem?_cons_zero, List.getElem?_cons_succ, Option.bind_some, Act.put, List.setIfInBounds_toArray, List.set_cons_zero, List.set_cons_succ, rAt, List.getD_cons_zero, List.getD_cons_succ] at hK ⊢
    go_wp2_with fail
    exact hK _ _ rfl (Below.refl _ _)
  case s15 =>
    intro z u hu hd K hK
    simp only [depsR, rAt, List.getD_cons_zero, List.getD_cons_succ, Region.binds, forall_const, and_true] at hd
    simp only [setAll, dstAt, List.getElem?_toArray, List.getElem?_cons_zero, List.getElem?_cons_succ, Option.bind_some, Act.put, List.setIfInBounds_toArray, List.set_cons_zero, List.set_cons_succ, rAt, List.getD_cons_zero, List.getD_cons_succ] at hK ⊢
    have hcell := (hu.cell (p := ⟨w.heap.size, 2, none⟩) (block_lt_of_cell h2)).trans h2
    simp only [hd] at hK ⊢
    go_wp2_with fail
    exact hK _ _ rfl (Below.refl _ _)
  case s16 =>
    intro z u hu hd K hK
    simp only [depsR, rAt, List.getD_cons_zero, List.getD_cons_succ, Region.binds, forall_const, and_true] at hd
    simp only [setAll, dstAt, List.getElem?_toArray, List.getElem?_cons_zero, List.getElem?_cons_succ, Option.bind_some, Act.put, List.setIfInBounds_toArray, List.set_cons_zero, List.set_cons_succ, rAt, List.getD_cons_zero, List.getD_cons_succ] at hK ⊢
    simp only [hd] at hK ⊢
    go_wp2_with fail
    exact hK _ _ rfl (Below.refl _ _)
  case s17 =>
    intro z u hu hd K hK
    simp only [depsR, rAt, List.getD_cons_zero, List.getD_cons_succ, Region.binds, forall_const, and_true] at hd
    simp only [setAll, dstAt, List.getElem?_toArray, List.getElem?_cons_zero, List.getElem?_cons_succ, Option.bind_some, Act.put, List.setIfInBounds_toArray, List.set_cons_zero, List.set_cons_succ, rAt, List.getD_cons_zero, List.getD_cons_succ] at hK ⊢
    simp only [hd] at hK ⊢
    have hm := hminp
    go_wp2_with fail
    exact hK _ _ rfl (Below.refl _ _)
  case s18 =>
    intro z u hu hd K hK
    simp only [depsR, rAt, List.getD_cons_zero, List.getD_cons_succ, Region.binds, forall_const, and_true] at hd
    simp only [setAll, dstAt, List.getElem?_toArray, List.getElem?_cons_zero, List.getElem?_cons_succ, Option.bind_some, Act.put, List.setIfInBounds_toArray, List.set_cons_zero, List.set_cons_succ, rAt, List.getD_cons_zero, List.getD_cons_succ] at hK ⊢
    simp only [hd] at hK ⊢
    go_wp2_with (refine wpList_slice_to rfl (.tmp 16) (.tmp 20) rfl pa pn pc s hsc rfl rfl ?_)
    exact hK _ _ rfl (Below.refl _ _)
  case s19 =>
    intro z u hu hd K hK
    simp only [depsR, rAt, List.getD_cons_zero, List.getD_cons_succ, Region.binds, forall_const, and_true] at hd
    simp only [setAll, dstAt, List.getElem?_toArray, List.getElem?_cons_zero, List.getElem?_cons_succ, Option.bind_some, Act.put, List.setIfInBounds_toArray, List.set_cons_zero, List.set_cons_succ, rAt, List.getD_cons_zero, List.getD_cons_succ] at hK ⊢
    obtain ⟨⟨g, hz, hgg⟩, h9⟩ := hd
    simp only [hz, h9] at hK ⊢
    go_wp2_with (refine wpList_fresh_ids rfl (.tmp 14) (.tmp 21) rfl g g rfl hgg (Nat.le_refl _) (Nat.le_of_lt (Array.getElem?_eq_some_iff.1 hgg).1) _ pq rfl (hpT.mono hu) (by omega) ?_)
    intro v' u' hown hbz
    go_wp2_with fail
    exact hK _ _ hown.rd hbz
  case s20 =>
    intro z u hu hd K hK
    simp only [depsR, rAt, List.getD_cons_zero, List.getD_cons_succ, Region.binds, forall_const, and_true] at hd
    simp only [setAll, dstAt, List.getElem?_toArray, List.getElem?_cons_zero, List.getElem?_cons_succ, Option.bind_some, Act.put, List.setIfInBounds_toArray, List.set_cons_zero, List.set_cons_succ, rAt, List.getD_cons_zero, List.getD_cons_succ] at hK ⊢
    obtain ⟨h1, h10, h19⟩ := hd
    have h10' := h10
    have h19' := h19
    obtain ⟨aa, ac, e10, -⟩ := h10'
    obtain ⟨ba, bc, e19, -⟩ := h19'
    simp only [h1, e10, e19] at hK ⊢
    rw [e10] at h10
    rw [e19] at h19
    go_wp2_with fail
    exact hK _ _ ⟨_, _, rfl, h10, h19⟩ (Below.refl _ _)
  case fin =>
    intro z u hu hR
    simp only [allR, Nat.zero_add, Nat.reduceAdd, and_true] at hR
    obtain ⟨-, -, -, -, -, -, -, -, -, -, -, -, -, -, -, -, -, -, -, -, h20⟩ := hR
    simp only [setAll, dstAt, List.getElem?_toArray, List.getElem?_cons_zero, List.getElem?_cons_succ, Option.bind_some, Act.put, List.setIfInBounds_toArray, List.set_cons_zero, List.set_cons_succ, List.drop_succ_cons, List.drop_zero]
    have hZu := (hu.block _ (Array.getElem?_eq_some_iff.1 hZ).1).trans hZ
    have hbwu := hb2.trans (hu.mono hb2.size)
    clear hZ hb2 hu
    generalize z 0 = z0, z 1 = z1, z 2 = z2, z 3 = z3, z 4 = z4, z 5 = z5, z 6 = z6, z 7 = z7, z 8 = z8, z 9 = z9, z 10 = z10, z 11 = z11, z 12 = z12, z 13 = z13, z 14 = z14, z 15 = z15, z 16 = z16, z 17 = z17, z 18 = z18, z 19 = z19, z 20 = z20 at *
    obtain ⟨av, bv', rfl, ha, hb⟩ := h20
    have ha0 := ha
    have hb0 := hb
    obtain ⟨aa, ac, rfl, -, -, -⟩ := ha0
    obtain ⟨ba, bc, rfl, -, -, -⟩ := hb0
    go_wp2_with (refine wpList_store_row rfl 49 (.tmp 2) (.tmp 23) rfl (w.heap.size + 1) 49 zero49 #[.int .i64 leaf, .slice aa cq.length ac, .slice ba pq.length bc] rfl rfl hZu (by kernel_rfl) rfl (by simp [Value.oneCell']) ?_)
    exact bodyPost_ret (results_cell_row (d := .struct (Try.prog.fieldsOf 49)) rfl _ _ (w.heap.size + 1) 49 _ (0, 0) rfl (setRow_heap _ _ _ _ _ _ hZu) (by kernel_rfl) rfl (by kernel_rfl)) rfl
      ⟨_, rfl, by rw [hcq.out, hpq.out]; exact RdS.setRow ⟨_, _, rfl, ha, hb⟩ hZu _, below_setRow' hbwu (by omega) _⟩
end Go.Proofs.Ytcfkapoppmpehaa

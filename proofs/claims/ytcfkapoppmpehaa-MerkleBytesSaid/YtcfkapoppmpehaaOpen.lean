/-
  What the readings of the arguments give, and the row's end for the laws of this seat.
-/
import Derived.Test.YtcfkapoppmpehaaEq
import Derived.ProofKit
import Derived.Deep.Slices
import Derived.Deep.Fields
import Derived.ChangeSame
import Derived.OpenShut
namespace Go.Proofs.Ytcfkapoppmpehaa
open Go.ChangeShapes Go.WideShapes Go.ChangeAt Go.RowKit Go.Deep

theorem own : ownKnob Try.prog.godebug = none := by kernel_rfl
theorem laidOut : laidOutB Try.prog = true := by kernel_rfl

section
variable {H : Type} {enc : TypeId × Value → H} {w : World} {base : Nat} {spare : Nat → Bool} {held : Bool}

theorem trod_u8 {fuel : Nat} {cs : List Value} {x : DataW H × List MemPlace} (h : DataW.trod enc Try.prog w base spare held fuel 5 cs = some x) : ∃ b : UInt8, cs = [bv b] := by
  obtain ⟨n, rfl, _, hw⟩ := DataW.trod_int (show Try.prog.underlying 5 = some (.int .u8) from by kernel_rfl) h
  simp [Lit.wf] at hw
  refine ⟨UInt8.ofNat n.toNat, ?_⟩
  show _ = [Value.int .u8 _]
  rw [UInt8.toNat_ofNat']
  have h1 : IntKind.u8.min = 0 := rfl
  have h2 : IntKind.u8.max = 255 := rfl
  congr 2
  omega

theorem trod_bytes {t : TypeId} {n : Nat} (hu : Try.prog.underlying t = some (.array n 5)) (hc : Try.prog.cellsOf t = n) {fuel : Nat} {cs : List Value} {x : DataW H × List MemPlace} (h : DataW.trod enc Try.prog w base spare held fuel t cs = some x) :
    ∃ l : List UInt8, l.length = n ∧ cs = l.map bv := by
  obtain ⟨xs, m, _, _, hl, hxl, hi⟩ := DataW.trod_array hu h
  have hx : Try.prog.cellsOf 5 = 1 := by kernel_rfl
  rw [hc] at hl
  obtain ⟨f, hf⟩ := choose_lt (α := UInt8) (n := n) (p := fun i b => cs[i]? = some (bv b)) (fun i h => by
    have h1 := hi i h
    rw [hx, Nat.mul_one, List.drop_eq_getElem_cons (by omega), List.getElem?_eq_getElem (by omega)] at h1
    obtain ⟨b, hb⟩ := trod_u8 h1
    refine ⟨b, ?_⟩
    rw [List.getElem?_eq_getElem (by omega)]
    exact congrArg some (List.cons.inj hb).1)
  refine ⟨(List.range n).map f, by simp, List.ext_getElem (by simp [hl]) fun i h1 h2 => ?_⟩
  have := hf i (by omega)
  rw [List.getElem?_eq_getElem h1] at this
  simpa using this

theorem cells_range {b o : Nat} {spot : Option Nat} {n : Nat} {cs : List Value} (h : w.cells? base (⟨b, o, spot⟩ : Addr) n = some cs) (hn : 0 < n) : spot = none ∧ cs.length = n ∧ w.rangeAt b o cs := by
  obtain ⟨_, hl, hat⟩ := World.cells?_some h
  have h0 := hat 0 hn
  rw [List.getElem?_eq_getElem (by omega)] at h0
  have hs : spot = none := by simpa [Addr.add] using World.cell?_spot h0
  subst hs
  refine ⟨rfl, hl, fun j v hj => ?_⟩
  have hlt := (List.getElem?_eq_some_iff.1 hj).1
  have := hat j (by omega)
  rw [add_plain, hj] at this
  exact this

/-- A slice of rows of c cells. -/
theorem open_rows {t e : TypeId} {c : Nat} (ht : Try.prog.underlying t = some (.slice e)) (hc : Try.prog.cellsOf e = c) (hc0 : 0 < c) {fuel : Nat} {cs : List Value} {x : DataW H × List MemPlace} (hf : DataW.trod enc Try.prog w 0 spare held fuel t cs = some x) :
    cs = [.slice none 0 0] ∨ ∃ a len cap m n, cs = [.slice (some a) len cap] ∧ len ≤ cap ∧ cap ≤ maxLen ∧ (len ≤ m) ∧
      (0 < m → a.spot = none) ∧ ∀ i, i < m → ∃ cs y, cs.length = c ∧ w.rangeAt a.block (a.off + i * c) cs ∧ DataW.trod enc Try.prog w 0 spare held n e cs = some y := by
  rcases open_slice ht hf with ⟨h0, _⟩ | ⟨a, len, cap, m, n, D, Pl, hcs, hb, hl, hm, hmm, hx, hi⟩
  · exact .inl h0
  · refine .inr ⟨a, len, cap, m, n, hcs, hl, hm, by rw [hmm]; split <;> omega, fun h0 => ?_, fun i him => ?_⟩
    · obtain ⟨cs', h1, _⟩ := hi 0 h0
      rw [hc, Nat.zero_mul] at h1
      obtain ⟨b, o, s⟩ := a
      exact (cells_range (by simpa [Addr.add] using h1) hc0).1
    · obtain ⟨cs', h1, h2⟩ := hi i him
      rw [hc] at h1
      have hs : a.spot = none := by
        obtain ⟨cs0, h10, _⟩ := hi 0 (by omega)
        rw [hc, Nat.zero_mul] at h10
        obtain ⟨b, o, s⟩ := a
        exact (cells_range (by simpa [Addr.add] using h10) hc0).1
      obtain ⟨b, o, s⟩ := a
      obtain rfl : s = none := hs
      rw [add_plain] at h1
      obtain ⟨_, hl', hr⟩ := cells_range h1 hc0
      exact ⟨cs', _, hl', hr, h2⟩
end

theorem read_ids {H : Type} {enc : TypeId × Value → H} {w : World} {spare : Nat → Bool} {held : Bool} {fuel : Nat} {cs : List Value} {x : DataW H × List MemPlace} (h : DataW.trod enc Try.prog w 0 spare held fuel 27 cs = some x) : ∃ v ids, cs = [v] ∧ RdI w v ids ∧ ids.length ≤ maxLen := by
  rcases open_rows (c := 32) (show Try.prog.underlying 27 = some (.slice 24) from by kernel_rfl) (by kernel_rfl) (by omega) h with h0 | ⟨a, len, cap, m, n, h0, hl, hm, hlm, hs, hi⟩
  · exact ⟨_, [], h0, ⟨none, 0, rfl, by simp, by simp, by simp⟩, by simp⟩
  · obtain ⟨f, hf⟩ := choose_lt (α := List UInt8) (n := m) (p := fun i l => l.length = 32 ∧ w.rangeAt a.block (a.off + i * 32) (l.map bv)) (fun i h => by
      obtain ⟨cs, y, hcl, hr, ht⟩ := hi i h
      obtain ⟨l, hl, rfl⟩ := trod_bytes (show Try.prog.underlying 24 = some (.array 32 5) from by kernel_rfl) (by kernel_rfl) ht
      exact ⟨l, hl, hr⟩)
    have hg : ∀ i, i < len → ((List.range len).map f).getD i [] = f i := fun i h => by simp [h]
    refine ⟨_, (List.range len).map f, h0, ⟨some a, cap, by simp, by simpa using hl, fun i h => ?_, fun h => ?_⟩, by simp; omega⟩
    · simp only [List.length_map, List.length_range] at h
      rw [hg i h]; exact (hf i (by omega)).1
    · simp only [List.length_map, List.length_range] at h
      obtain ⟨b, o, s⟩ := a
      obtain rfl : s = none := hs (by omega)
      refine ⟨b, o, rfl, fun i h => ?_⟩
      simp only [List.length_map, List.length_range] at h
      rw [hg i h]; exact (hf i (by omega)).2

theorem read_bytes {H : Type} {enc : TypeId × Value → H} {w : World} {spare : Nat → Bool} {held : Bool} {fuel : Nat} {cs : List Value} {x : DataW H × List MemPlace} (h : DataW.trod enc Try.prog w 0 spare held fuel 42 cs = some x) : ∃ v bs, cs = [v] ∧ RdB w v bs ∧ bs.length ≤ maxLen := by
  rcases open_rows (c := 1) (show Try.prog.underlying 42 = some (.slice 5) from by kernel_rfl) (by kernel_rfl) (by omega) h with h0 | ⟨a, len, cap, m, n, h0, hl, hm, hlm, hs, hi⟩
  · exact ⟨_, [], h0, ⟨none, 0, rfl, by simp, by simp⟩, by simp⟩
  · obtain ⟨f, hf⟩ := choose_lt (α := UInt8) (n := m) (p := fun i b => w.cell? ⟨a.block, a.off + i, none⟩ = some (bv b)) (fun i h => by
      obtain ⟨cs, y, hcl, hr, ht⟩ := hi i h
      obtain ⟨b, rfl⟩ := trod_u8 ht
      exact ⟨b, by simpa using hr 0 (bv b) rfl⟩)
    have hg : ∀ i, i < len → ((List.range len).map f).getD i 0 = f i := fun i h => by simp [h]
    refine ⟨_, (List.range len).map f, h0, ⟨some a, cap, by simp, by simpa using hl, fun h => ?_⟩, by simp; omega⟩
    · simp only [List.length_map, List.length_range] at h
      obtain ⟨b, o, s⟩ := a
      obtain rfl : s = none := hs (by omega)
      refine ⟨b, o, rfl, fun i h => ?_⟩
      simp only [List.length_map, List.length_range] at h
      rw [hg i h]; exact hf i (by omega)

/-- A value of two or more cells is an aggregate; one of one cell may be any. -/
theorem cells_agg {v : Value} {l : List Value} (h : v.cells.toList = l) (hl : l.length ≠ 1) : v = .agg l.toArray := by
  cases v <;> (simp only [Value.cells] at h; subst h; simp at hl ⊢)

structure Cl where
  key : List UInt8
  leaf : Int
  path : Value
  ids : List (List UInt8)
  deriving Inhabited
def Cl.row (c : Cl) : List Value := c.key.map bv ++ [.int .i64 c.leaf, c.path]
def Cl.good (w : World) (c : Cl) : Prop := c.key.length = 32 ∧ RdI w c.path c.ids ∧ c.ids.length ≤ maxLen
/-- The slice value v reads, in the world w, as these keys, leaves and paths. -/
def RdC (w : World) (v : Value) (cl : List Cl) : Prop :=
  ∃ a cap, v = .slice a cl.length cap ∧ cl.length ≤ cap ∧ cl.length ≤ maxLen ∧ (∀ i, i < cl.length → (cl.getD i default).good w) ∧
    (0 < cl.length → ∃ b o, a = some ⟨b, o, none⟩ ∧ ∀ i, i < cl.length → w.rangeAt b (o + i * 34) (cl.getD i default).row)

theorem read_climb {H : Type} {enc : TypeId × Value → H} {w : World} {spare : Nat → Bool} {held : Bool} {fuel : Nat} {cs : List Value} {x : DataW H × List MemPlace} (h : DataW.trod enc Try.prog w 0 spare held fuel 29 cs = some x) : ∃ c : Cl, c.good w ∧ cs = c.row := by
  obtain ⟨xs, n, _, _, hl, hxl, hi⟩ := DataW.trod_struct (show Try.prog.underlying 29 = some (.struct (Try.prog.fieldsOf 29)) from by kernel_rfl) h
  have hc : Try.prog.cellsOf 29 = 34 := by kernel_rfl
  have hs : (Try.prog.fieldsOf 29).size = 3 := by kernel_rfl
  rw [hc] at hl
  rw [hs] at hxl
  have F : ∀ (i t o k : Nat), ((Try.prog.fieldsOf 29)[i]?).map (fun f => (f.type, f.offset)) = some (t, o) → Try.prog.cellsOf t = k → i < 3 → ∃ y, DataW.trod enc Try.prog w 0 spare held n t ((cs.drop o).take k) = some y := by
    intro i t o k hf hk hi3
    obtain ⟨f, h1, h2⟩ := Option.map_eq_some_iff.1 hf
    simp only [Prod.mk.injEq] at h2
    have h3 := hi i f h1
    rw [h2.1, h2.2, hk] at h3
    exact ⟨_, h3.trans (List.getElem?_eq_getElem (by omega))⟩
  obtain ⟨y0, h0⟩ := F 0 24 0 32 (by kernel_rfl) (by kernel_rfl) (by omega)
  obtain ⟨y1, h1⟩ := F 1 3 32 1 (by kernel_rfl) (by kernel_rfl) (by omega)
  obtain ⟨y2, h2⟩ := F 2 27 33 1 (by kernel_rfl) (by kernel_rfl) (by omega)
  obtain ⟨key, hkl, hk⟩ := trod_bytes (show Try.prog.underlying 24 = some (.array 32 5) from by kernel_rfl) (by kernel_rfl) h0
  obtain ⟨leaf, hlf, _, _⟩ := DataW.trod_int (show Try.prog.underlying 3 = some (.int .i64) from by kernel_rfl) h1
  obtain ⟨p, ids, hp, hrd, hm⟩ := read_ids h2
  refine ⟨⟨key, leaf, p, ids⟩, ⟨hkl, hrd, hm⟩, ?_⟩
  rw [Cl.row, ← hk]
  refine (List.take_append_drop 32 cs).symm.trans ?_
  show cs.take 32 ++ _ = cs.take 32 ++ [_, _]
  refine congrArg (cs.take 32 ++ ·) ?_
  rw [List.drop_eq_getElem_cons (show 32 < cs.length by omega)] at hlf ⊢
  rw [List.drop_eq_getElem_cons (show 33 < cs.length by omega)] at hp
  rw [List.drop_eq_getElem_cons (show 32 + 1 < cs.length by omega), List.drop_of_length_le (show cs.length ≤ 32 + 1 + 1 by omega)]
  have e1 : cs[32] = .int .i64 leaf := (List.cons.inj hlf).1
  have e2 : cs[33] = p := (List.cons.inj hp).1
  rw [e1, e2]

theorem read_climbs {H : Type} {enc : TypeId × Value → H} {w : World} {spare : Nat → Bool} {held : Bool} {fuel : Nat} {cs : List Value} {x : DataW H × List MemPlace} (h : DataW.trod enc Try.prog w 0 spare held fuel 22 cs = some x) : ∃ v cl, cs = [v] ∧ RdC w v cl := by
  rcases open_rows (c := 34) (show Try.prog.underlying 22 = some (.slice 29) from by kernel_rfl) (by kernel_rfl) (by omega) h with h0 | ⟨a, len, cap, m, n, h0, hl, hm, hlm, hs, hi⟩
  · exact ⟨_, [], h0, none, 0, rfl, by simp, by simp, by simp, by simp⟩
  · obtain ⟨f, hf⟩ := choose_lt (α := Cl) (n := m) (p := fun i c => c.good w ∧ w.rangeAt a.block (a.off + i * 34) c.row) (fun i h => by
      obtain ⟨cs, y, hcl, hr, ht⟩ := hi i h
      obtain ⟨c, hg, rfl⟩ := read_climb ht
      exact ⟨c, hg, hr⟩)
    have hg : ∀ i, i < len → ((List.range len).map f).getD i default = f i := fun i h => by simp [h]
    refine ⟨_, (List.range len).map f, h0, some a, cap, by simp, by simpa using hl, by simp; omega, fun i h => ?_, fun h => ?_⟩
    · simp only [List.length_map, List.length_range] at h
      rw [hg i h]; exact (hf i (by omega)).1
    · simp only [List.length_map, List.length_range] at h
      obtain ⟨b, o, s⟩ := a
      obtain rfl : s = none := hs (by omega)
      refine ⟨b, o, rfl, fun i h => ?_⟩
      simp only [List.length_map, List.length_range] at h
      rw [hg i h]; exact (hf i (by omega)).2

section
variable {H : Type} {enc : TypeId × Value → H} {w : World} {base b0 : Nat} {spare : Nat → Bool} {held : Bool} {r : Reach} {v : Value} {d : DataW H} {ps : List MemPlace}
set_option maxRecDepth 100000 in
theorem slice_cells {t e : TypeId} (ht : Try.prog.underlying t = some (.slice e)) (hval : Value.okWide Try.prog w r b0 t v) : v.cells.toList = [v] := by
  obtain ⟨a, len, cap, rfl⟩ := okWide_slice ht hval; rfl
set_option maxRecDepth 100000 in
theorem arg_climbs (hval : Value.okWide Try.prog w r b0 22 v) (h : DataW.Trod enc Try.prog w 0 spare held 22 v d ps) : ∃ cl, RdC w v cl := by
  obtain ⟨fuel, h⟩ := h
  obtain ⟨u, cl, h1, h2⟩ := read_climbs h
  rw [slice_cells (show Try.prog.underlying 22 = some (.slice 29) from by kernel_rfl) hval] at h1
  obtain rfl := (List.cons.inj h1).1
  exact ⟨cl, h2⟩
set_option maxRecDepth 100000 in
theorem arg_ids (hval : Value.okWide Try.prog w r b0 27 v) (h : DataW.Trod enc Try.prog w 0 spare held 27 v d ps) : ∃ ids, RdI w v ids ∧ ids.length ≤ maxLen := by
  obtain ⟨fuel, h⟩ := h
  obtain ⟨u, cl, h1, h2⟩ := read_ids h
  rw [slice_cells (show Try.prog.underlying 27 = some (.slice 24) from by kernel_rfl) hval] at h1
  obtain rfl := (List.cons.inj h1).1
  exact ⟨cl, h2⟩
set_option maxRecDepth 100000 in
theorem arg_bytes (hval : Value.okWide Try.prog w r b0 42 v) (h : DataW.Trod enc Try.prog w 0 spare held 42 v d ps) : ∃ bs, RdB w v bs ∧ bs.length ≤ maxLen := by
  obtain ⟨fuel, h⟩ := h
  obtain ⟨u, cl, h1, h2⟩ := read_bytes h
  rw [slice_cells (show Try.prog.underlying 42 = some (.slice 5) from by kernel_rfl) hval] at h1
  obtain rfl := (List.cons.inj h1).1
  exact ⟨cl, h2⟩
set_option maxRecDepth 100000 in
theorem arg_id (h : DataW.Trod enc Try.prog w 0 spare held 24 v d ps) : ∃ l : List UInt8, l.length = 32 ∧ v = bagg l := by
  obtain ⟨fuel, h⟩ := h
  obtain ⟨l, hl, hc⟩ := trod_bytes (show Try.prog.underlying 24 = some (.array 32 5) from by kernel_rfl) (by kernel_rfl) h
  exact ⟨l, hl, cells_agg hc (by simp [hl])⟩
end

theorem trodAll_stays {H : Type} {enc : TypeId × Value → H} {W W' : World} (hb : Below W.heap.size W W') : ∀ {ts : List TypeId} {vs : List Value} {ds : List (DataW H)} {ps : List MemPlace}, (∀ t ∈ ts, Try.prog.readableRec t = true ∧ t < Try.prog.types.size) →
    DataW.TrodAll enc Try.prog W 0 (fun _ => true) true ts vs ds ps → DataW.TrodAll enc Try.prog W' 0 (fun b => decide (b < W.heap.size)) true ts vs ds ps
  | [], vs, ds, ps, _, h => by
    obtain ⟨rfl, rfl, rfl⟩ := trodAll_nil h
    exact trodAll_mk0
  | t :: ts, vs, ds, ps, hall, h => by
    have hlt := h.lt
    obtain ⟨v, vs', d, ds', p, p', rfl, rfl, rfl, h1, h2⟩ := trodAll_cons h
    have ht := hall t (by simp)
    refine trodAll_cons_mk (hb.trod laidOut ht.1 ht.2 h1 fun x hx => hlt x (by simp [hx])) (trodAll_stays hb (fun t' h' => hall t' (by simp [h'])) h2)

/-- THE ROW'S END: a bool, true; the arguments as they were. -/
theorem post_true {H : Type} {enc : TypeId × Value → H} {f : Func} {s : ChangeSpec} {W W' : World} {args : Array Value} {ds gs : List (DataW H)} {before : List MemPlace}
    (hv : s.vars = []) (hf : f.resultTypes = #[4]) (hs : s.fn H (ds ++ gs) = { results := [.lit (.bool true)], args := ds })
    (hall : ∀ t ∈ f.params.toList, Try.prog.readableRec t = true ∧ t < Try.prog.types.size)
    (hW : DataW.Whole enc Try.prog f.params.toList s.vars false W args.toList ds gs before) (hb : Below W.heap.size W W') :
    s.post enc Try.prog f false true false false W args (.bool true) W' := by
  have hW0 := hW
  obtain ⟨p, q, hA, hV, rfl, _, _⟩ := hW
  rw [hv] at hV
  obtain ⟨rfl, rfl⟩ := trodVars_none hV
  refine ⟨ds, [], p ++ [], [], p, [], hW0, ?_, ?_, ?_, hb.frame _, fun h => by simp at h⟩
  · rw [hs, hf]
    refine trodAll_mk1 ⟨1, ?_⟩
    show DataW.trod enc Try.prog W' _ _ _ 1 4 [.bool true] = _
    unfold DataW.trod
    rw [show Try.prog.underlying 4 = some .bool from by kernel_rfl]
  · rw [hs]; exact trodAll_stays hb hall hA
  · rw [hs, hv]; exact rfl
theorem run_append_none {P : Program} (w : World) (t ty e : TypeId) (i : TypeInfo) (z : Value) (ht : P.underlying t = some (.slice e)) (hi : P.info? e = some i) (hz : i.zero = some z) (g n c c' : Nat) (hn : n ≤ c) :
    (Builtin.append_ #[t, t] ty #[.slice (some ⟨g, 0, none⟩) n c, .slice none 0 c']).run P w = .ok (.slice (some ⟨g, 0, none⟩) n c) w := by
  simp [Builtin.append_, run_underlying ht, sizeOf, typeInfo, zeroValue, hi, hz, Builtin.lenOf, hn, run_firstCells_none, storeCells]

theorem map_bv_at (l : List UInt8) (j : Nat) (hj : j < l.length) : (l.map bv)[j]? = some (bv (l.getD j 0)) := by simp [hj]
def flat (ids : List (List UInt8)) : List Value := ids.flatMap (·.map bv)
theorem flat_length : ∀ (ids : List (List UInt8)), (∀ i, i < ids.length → (ids.getD i []).length = 32) → (flat ids).length = ids.length * 32
  | [], _ => rfl
  | x :: ids, h => by
    have h0 := h 0 (by simp)
    have ih := flat_length ids (fun i hi => by simpa using h (i + 1) (by simpa using hi))
    simp only [List.getD_cons_zero] at h0
    simp only [flat, List.flatMap_cons, List.length_append, List.length_map, List.length_cons] at *
    omega
theorem flat_at : ∀ (ids : List (List UInt8)), (∀ i, i < ids.length → (ids.getD i []).length = 32) → ∀ i j, i < ids.length → j < 32 → (flat ids)[i * 32 + j]? = some (bv ((ids.getD i []).getD j 0))
  | [], _, i, j, hi, hj => by simp at hi
  | x :: ids, h, i, j, hi, hj => by
    have h0 := h 0 (by simp)
    simp only [List.getD_cons_zero] at h0
    have e : flat (x :: ids) = x.map bv ++ flat ids := rfl
    rw [e]
    cases i with
    | zero =>
      rw [List.getElem?_append_left (by simp; omega)]
      simp [h0, hj]
    | succ i =>
      rw [List.getElem?_append_right (by simp; omega)]
      have ih := flat_at ids (fun i hi => by simpa using h (i + 1) (by simpa using hi)) i j (by simpa using hi) hj
      rw [List.length_map, h0, show (i + 1) * 32 + j - 32 = i * 32 + j by omega, ih]
      rfl

theorem ownsRow_rdI {w : World} {base : Nat} {v : Value} {ids : List (List UInt8)} (hl : ∀ i, i < ids.length → (ids.getD i []).length = 32) (h : w.ownsRow base 24 32 v ids.length (flat ids)) : RdI w v ids := by
  rcases h.2 with ⟨rfl, h0⟩ | ⟨g, cap, cur, rfl, hbg, hg, hnc, hcm, hcs, htake⟩
  · exact ⟨none, 0, by rw [h0], by omega, hl, fun hp => by omega⟩
  · refine ⟨_, _, rfl, hnc, hl, fun _ => ⟨g, 0, rfl, fun i hi j u hu => ?_⟩⟩
    have hj := (List.getElem?_eq_some_iff.1 hu).1
    rw [List.length_map, hl i hi] at hj
    have h1 := flat_at ids hl i j hi hj
    rw [cell_of_row _ _ _ _ _ _ hg, Nat.zero_add]
    rw [← htake, List.getElem?_take] at h1
    split at h1
    · rw [Array.getElem?_toList] at h1
      rw [h1, ← hu]
      exact (map_bv_at _ j (by rw [hl i hi]; exact hj)).symm
    · cases h1

/-- append of a row of digests onto a row of the call's own. -/
theorem wpList_append_ids {ops : Array Oper} {rest : List Oper} {o : Oper} {a : Act} {w : World} {Q : Exit → Act → World → Prop} (hgd : o.guard = none) (s x : Operand)
    (ho : o.op = .call { callee := .builtin .append, args := #[s, x], argTypes := #[27, 27] }) (base g : Nat) (hs : a.eval s = .slice (some ⟨g, 0, none⟩) 0 0) (hown : w.heap[g]? = some (.cells #[] 24 (0, 0))) (hg : base ≤ g)
    (xv : Value) (ids : List (List UInt8)) (hx : a.eval x = xv) (hrd : RdI w xv ids) (hsmall : ids.length ≤ 100000)
    (w0 : World) (hb : Below base w0 w) (hbase : base ≤ w.heap.size)
    (h : ∀ v' w', RdI w' v' ids → Below base w0 w' → Below w.heap.size w w' ∨ Below g w w' → wpList Try.prog ops Q rest (a.put o.dst v') w') : wpList Try.prog ops Q (o :: rest) a w := by
  obtain ⟨i0, hi, hz0, hz1, hz2⟩ : ∃ i0, Try.prog.info? 24 = some i0 ∧ i0.zero = some (.agg zero24) ∧ i0.size = 32 ∧ i0.bytes = 32 := by
    have h : (Try.prog.info? 24).map (fun i => (i.zero, i.size, i.bytes)) = some (some (.agg zero24), 32, 32) := by kernel_rfl
    obtain ⟨i0, hi, hzz⟩ := Option.map_eq_some_iff.1 h
    simp only [Prod.mk.injEq] at hzz
    exact ⟨i0, hi, hzz⟩
  obtain ⟨a0, cap, rfl, hc, hl, hr⟩ := hrd
  have hlt := (Array.getElem?_eq_some_iff.1 hown).1
  cases a0 with
  | none =>
    have h0 : ids = [] := by
      cases ids with
      | nil => rfl
      | cons y ys => obtain ⟨b, o, hh, _⟩ := hr (by simp); cases hh
    subst h0
    refine wpList_plain hgd fun K hK => ?_
    have hr := run_append_none (P := Try.prog) w 27 o.type 24 i0 (.agg zero24) (by kernel_rfl) hi hz0 g 0 0 cap (Nat.le_refl _)
    unfold Oper.wp execOp
    simp only [ho, resolve, invoke, builtin, Sem.run_bind, Sem.run_pure, Result.andThen_ok, List.map_toArray, List.map_cons, List.map_nil, hs, hx, List.length_nil, hr]
    exact hK _ _ (h _ _ ⟨_, 0, rfl, by simp, by simp, by simp⟩ hb (.inl (Below.refl _ _)))
  | some ad =>
    have hown' : w.ownsRow base 24 32 (.slice (some ⟨g, 0, none⟩) 0 0) 0 [] := ⟨rfl, .inr ⟨g, 0, #[], rfl, hg, hown, by omega, by unfold maxLen; omega, rfl, rfl⟩⟩
    refine wpList_append_own (P := Try.prog) w hgd s x 27 ho base 24 i0 (.agg zero24) 32 32 (by kernel_rfl) hi hz0 hz1 hz2 rfl (by decide) _ 0 [] hs hown' ad ids.length cap (flat ids) hx (flat_length ids hl) (fun j u hu => ?_) (fun u hu => ?_) (by unfold maxLen; omega) (by omega) hbase (fun v' w' ho' hg' _ => ?_)
    · have hj := (List.getElem?_eq_some_iff.1 hu).1
      rw [flat_length ids hl] at hj
      obtain ⟨b, o, hh, hrr⟩ := hr (by omega)
      cases hh
      have h1 := hrr (j / 32) (by omega) (j % 32) (bv ((ids.getD (j / 32) []).getD (j % 32) 0)) (map_bv_at _ _ (by rw [hl (j / 32) (by omega)]; omega))
      rw [Addr.add_mid, show o + j = o + j / 32 * 32 + j % 32 by omega, h1, ← hu]
      rw [← flat_at ids hl (j / 32) (j % 32) (by omega) (by omega), show j / 32 * 32 + j % 32 = j by omega]
    · unfold flat at hu
      obtain ⟨y, _, hy⟩ := List.mem_flatMap.1 hu
      obtain ⟨z, _, rfl⟩ := List.mem_map.1 hy; rfl
    · refine h v' w' (ownsRow_rdI hl (by rw [Nat.zero_add, List.nil_append] at ho'; exact ho')) (hb.grown hg' hbase (fun k hk => by cases hk; exact hg)) (.inr ?_)
      exact (Below.refl g w).grown hg' (by omega) (fun k hk => by cases hk; exact Nat.le_refl _)
end Go.Proofs.Ytcfkapoppmpehaa

/- Words for the walks of this seat: rows of cells that are known whole, as rules for the walk; contacts (arrays of eight strings) as values. No condition: helpers alone. -/
import Derived.Test.YtkgebhmlogddcaaProg
import Derived.WalkKit
import Derived.WalkSpells
import Derived.WalkLawsBesides
import Derived.KernelRfl
import Derived.Lib.Hide
import Derived.Deep.LoopGhost
import Derived.Deep.RegionHeld3
import Derived.Deep.QuietTactic
import Derived.BigQuiet
import Derived.Deep.WholeRow
namespace Go.Proofs.Ytkgebhmlogddcaa
open Go.RowKit

/-! ### a block's cells, reckoned out of the world -/
/-- the cells of block n -/
def rowAt (w : World) (n : Nat) : Array Value :=
  match w.heap[n]? with
  | some (.cells c _ _) => c
  | _ => #[]
/-- block n is a row of cells, none of which is frozen -/
def rowOk (w : World) (n : Nat) : Bool :=
  match w.heap[n]? with
  | some (.cells _ _ (lo, hi)) => lo == 0 && hi == 0
  | _ => false

section
variable (w : World)
theorem rowOk_get {n : Nat} (h : rowOk w n = true) : ∃ t, w.heap[n]? = some (.cells (rowAt w n) t (0, 0)) := by
  unfold rowOk at h
  unfold rowAt
  split at h
  · rename_i c t lo hi he
    simp only [Bool.and_eq_true, beq_iff_eq] at h
    obtain ⟨rfl, rfl⟩ := h
    exact ⟨t, by rw [he]⟩
  · cases h
theorem rowOk_lt {n : Nat} (h : rowOk w n = true) : n < w.heap.size := by
  obtain ⟨t, ht⟩ := rowOk_get w h
  exact (Array.getElem?_eq_some_iff.1 ht).1
theorem rowAt_alloc_at (c : Array Value) (t : TypeId) (n : Nat) (hn : n = w.heap.size) : rowAt (w.alloc (.cells c t)) n = c := by
  subst hn; unfold rowAt; rw [heap_alloc_new]
theorem rowAt_alloc_past (o : Obj) (n : Nat) (hn : n < w.heap.size) : rowAt (w.alloc o) n = rowAt w n := by
  unfold rowAt; rw [Below.heap_alloc w o n hn]
theorem rowOk_alloc_at (c : Array Value) (t : TypeId) (n : Nat) (hn : n = w.heap.size) : rowOk (w.alloc (.cells c t)) n = true := by
  subst hn; unfold rowOk; rw [heap_alloc_new]; rfl
theorem rowOk_alloc_past (o : Obj) (n : Nat) (hn : n < w.heap.size) : rowOk (w.alloc o) n = rowOk w n := by
  unfold rowOk; rw [Below.heap_alloc w o n hn]
theorem rowAt_drew (n : Nat) : rowAt w.drew n = rowAt w n := rfl
theorem rowOk_drew (n : Nat) : rowOk w.drew n = rowOk w n := rfl
theorem rowAt_drewN (k n : Nat) : rowAt (w.drewN k) n = rowAt w n := rfl
theorem rowOk_drewN (k n : Nat) : rowOk (w.drewN k) n = rowOk w n := rfl
theorem rowAt_setRow (n : Nat) (c : Array Value) (h : rowOk w n = true) : rowAt (w.setRow n c) n = c := by
  obtain ⟨t, ht⟩ := rowOk_get w h
  unfold rowAt; rw [setRow_heap w n _ c t _ ht]
theorem rowAt_setRow_far (n m : Nat) (c : Array Value) (h : m ≠ n) : rowAt (w.setRow n c) m = rowAt w m := by
  unfold rowAt; rw [setRow_other w n m c h]
theorem rowOk_setRow (n m : Nat) (c : Array Value) : rowOk (w.setRow n c) m = rowOk w m := by
  by_cases h : m = n
  · subst h
    unfold rowOk World.setRow
    simp only [Array.getElem?_modify, if_true]
    cases hm : w.heap[m]? with
    | none => simp
    | some o => cases o <;> simp
  · unfold rowOk; rw [setRow_other w n m c h]
theorem rowAt_below {B : Nat} {w w' : World} (h : Below B w w') (n : Nat) (hn : n < B) : rowAt w' n = rowAt w n := by
  unfold rowAt; rw [h.block n hn]
theorem rowOk_below {B : Nat} {w w' : World} (h : Below B w w') (n : Nat) (hn : n < B) : rowOk w' n = rowOk w n := by
  unfold rowOk; rw [h.block n hn]
theorem cell_rowOk {n : Nat} (h : rowOk w n = true) (i : Nat) : w.cell? ⟨n, i, none⟩ = (rowAt w n)[i]? := by
  obtain ⟨t, ht⟩ := rowOk_get w h
  exact cell_of_row w n i _ t _ ht
theorem frozen_rowOk {n : Nat} (h : rowOk w n = true) (i : Nat) : w.frozen? ⟨n, i, none⟩ = false := by
  obtain ⟨t, ht⟩ := rowOk_get w h
  exact frozen_of_row w n i _ t ht
theorem setCell_rowOk {n : Nat} (h : rowOk w n = true) (i : Nat) (v : Value) : w.setCell ⟨n, i, none⟩ v = w.setRow n ((rowAt w n).setIfInBounds i v) := by
  obtain ⟨t, ht⟩ := rowOk_get w h
  exact setCell_eq_setRow w n i _ t _ v ht
theorem setRow_alloc_at (c c' : Array Value) (t : TypeId) (n : Nat) (hn : n = w.heap.size) : (w.alloc (.cells c t)).setRow n c' = w.alloc (.cells c' t) := by
  subst hn; exact World.setRow_alloc_new w c c' t
theorem setRow_alloc_past (o : Obj) (n : Nat) (c : Array Value) (hn : n < w.heap.size) : (w.alloc o).setRow n c = (w.setRow n c).alloc o := by
  cases w with
  | mk heap tape drawn os output =>
    simp only [World.setRow, World.alloc] at *
    congr 1
    apply Array.ext
    · simp
    · intro i h1 h2
      simp only [Array.size_modify, Array.size_push] at h1
      simp only [Array.getElem_modify, Array.getElem_push, Array.size_modify]
      by_cases hi : i = heap.size
      · subst hi
        rw [if_neg (by omega)]
        simp
      · simp only [show i < heap.size by omega, dite_true]
theorem setRow_drew (n : Nat) (c : Array Value) : w.drew.setRow n c = (w.setRow n c).drew := rfl
theorem size_setRow' (n : Nat) (c : Array Value) : (w.setRow n c).heap.size = w.heap.size := setRow_size w n c
theorem below_setRow {B : Nat} {a w : World} (h : Below B a w) (n : Nat) (c : Array Value) (hn : B ≤ n) : Below B a (w.setRow n c) :=
  ⟨h.os, h.tape, h.output, by simpa using h.size, fun k hk => (setRow_other w n k c (by omega)).trans (h.block k hk)⟩
theorem below_drewN {B : Nat} {a w : World} (h : Below B a w) (n : Nat) : Below B a (w.drewN n) := ⟨h.os, h.tape, h.output, h.size, h.block⟩
end

/-- 'new a w': of the world a nothing has changed -/
abbrev New (a w : World) : Prop := Below a.heap.size a w
theorem New.rfl' (a : World) : New a a := Below.refl _ _
theorem New.call {a W w1 : World} (h : New a W) (hb : New W w1) : New a w1 := h.trans (hb.mono h.size)
theorem New.alloc' {a W : World} (h : New a W) (o : Obj) : New a (W.alloc o) := h.alloc h.size o
theorem New.drew' {a W : World} (h : New a W) : New a W.drew := h.drew
theorem New.row {a W : World} (h : New a W) (n : Nat) (c : Array Value) (hn : a.heap.size ≤ n) : New a (W.setRow n c) := below_setRow h n c hn
/-- what a call that only makes memory leaves: all that was there is as it was -/
theorem bfacts {B : Nat} {W w1 : World} (hb : Below B W w1) :
    (∀ n, n < B → rowAt w1 n = rowAt W n) ∧ (∀ n, n < B → rowOk w1 n = rowOk W n) ∧
    (∀ b o, b < B → w1.cell? ⟨b, o, none⟩ = W.cell? ⟨b, o, none⟩) ∧ W.heap.size ≤ w1.heap.size :=
  ⟨fun n h => rowAt_below hb n h, fun n h => rowOk_below hb n h, fun b o h => hb.cell (p := ⟨b, o, none⟩) h, hb.size⟩

section
variable {P : Program} (w : World)
theorem run_loadAt_row (t : TypeId) (d : TypeDesc) (k n : Nat) (hu : P.underlying t = some d) (hd : (match d with | .struct _ | .array _ _ => true | _ => false) = true) (hi : (P.info? t).map (·.size) = some k)
    (h : rowOk w n = true) (hs : (rowAt w n).size = k) : (Instr.loadAt t (.pointer (some ⟨n, 0, none⟩))).run P w = .ok (.agg (rowAt w n)) w := by
  obtain ⟨t', ht⟩ := rowOk_get w h
  simp only [Instr.loadAt, Instr.sureAddr, Sem.run_bind, Sem.run_pure, Result.andThen_ok]
  exact run_loadVar_row w n t' t (rowAt w n) (0, 0) d ht hu hd (by rw [hi, hs])
theorem run_storeAt_row (t : TypeId) (k n : Nat) (cs : Array Value) (hi : (P.info? t).map (·.size) = some k) (h : rowOk w n = true) (hs : (rowAt w n).size = k) (hc : cs.size = k) (h1 : cs.all (·.oneCell') = true) :
    (Instr.storeAt t (.pointer (some ⟨n, 0, none⟩)) (.agg cs)).run P w = .ok () (w.setRow n cs) := by
  obtain ⟨t', ht⟩ := rowOk_get w h
  simp only [Instr.storeAt, Instr.sureAddr, Sem.run_bind, Sem.run_pure, Result.andThen_ok]
  exact run_storeVar_row w n t' t _ cs ht (by rw [hi, hc]) (by rw [hs, hc]) h1
theorem run_storeCells_row (n : Nat) (cs : Array Value) (h : rowOk w n = true) (hs : (rowAt w n).size = cs.size) (h1 : cs.all (·.oneCell') = true) :
    (storeCells ⟨n, 0, none⟩ cs.toList).run P w = .ok () (w.setRow n cs) := by
  obtain ⟨t', ht⟩ := rowOk_get w h
  have := run_storeCells_from (P := P) n t' cs.toList 0 (rowAt w n) w ht (by simp [hs]) (fun v hv => (Array.all_eq_true_iff_forall_mem.1 h1) v (by simpa using hv))
  simpa using this
end

/-! ### contacts -/
abbrev Con := Vector ByteArray 8
/-- a contact's cells -/
def con (c : Con) : Array Value := #[.string c[0], .string c[1], .string c[2], .string c[3], .string c[4], .string c[5], .string c[6], .string c[7]]
theorem con_get (c : Con) (p : Nat) (h : p < 8) : (con c)[p]? = some (.string c[p]) := by
  match p, h with
  | 0, _ | 1, _ | 2, _ | 3, _ | 4, _ | 5, _ | 6, _ | 7, _ => rfl
theorem con_fold (c : Con) : #[Value.string c[0], .string c[1], .string c[2], .string c[3], .string c[4], .string c[5], .string c[6], .string c[7]] = con c := rfl
theorem con_size (c : Con) : (con c).size = 8 := rfl
theorem con_set (c : Con) (p : Nat) (h : p < 8) (s : ByteArray) : (con c).setIfInBounds p (.string s) = con (c.set p s) := by
  match p, h with
  | 0, _ | 1, _ | 2, _ | 3, _ | 4, _ | 5, _ | 6, _ | 7, _ => simp [con]
theorem set_all (n m : Con) : (((((((n.set 0 m[0]).set 1 m[1]).set 2 m[2]).set 3 m[3]).set 4 m[4]).set 5 m[5]).set 6 m[6]).set 7 m[7] = m := by
  apply Vector.ext
  intro i hi
  simp only [Vector.getElem_set]
  match i, hi with
  | 0, _ | 1, _ | 2, _ | 3, _ | 4, _ | 5, _ | 6, _ | 7, _ => rfl
theorem con_one (c : Con) : (con c).all (·.oneCell') = true := by simp [con, Value.oneCell']
def none8 : Con := Vector.replicate 8 ⟨#[]⟩
theorem none8_cells : #[Value.string ⟨#[]⟩, .string ⟨#[]⟩, .string ⟨#[]⟩, .string ⟨#[]⟩, .string ⟨#[]⟩, .string ⟨#[]⟩, .string ⟨#[]⟩, .string ⟨#[]⟩] = con none8 := rfl
theorem con_inj {a b : Con} (h : con a = con b) : a = b := by
  apply Vector.ext
  intro i hi
  have h1 := con_get a i hi
  rw [h, con_get b i hi] at h1
  injection h1 with h1; injection h1 with h1; exact h1.symm

theorem bytes_eq_iff (a b : ByteArray) : (a.toList == b.toList) = decide (a = b) := by
  rw [← beq_toListBytes]
  obtain ⟨⟨x⟩⟩ := a
  obtain ⟨⟨y⟩⟩ := b
  show ((⟨x⟩ : Array UInt8) == ⟨y⟩) = _
  by_cases h : x = y
  · subst h; simp
  · simp [h]
def eqFrom (a b : Con) : Nat → Nat → Bool
  | 0, _ => true
  | n + 1, i => a[i]! = b[i]! && eqFrom a b n (i + 1)
theorem eqFrom_iff (a b : Con) : ∀ n i, i + n = 8 → (eqFrom a b n i = true ↔ ∀ j, i ≤ j → j < 8 → a[j]! = b[j]!)
  | 0, i, h => by simp [eqFrom]; intros; omega
  | n + 1, i, h => by
    simp only [eqFrom, Bool.and_eq_true, decide_eq_true_eq, eqFrom_iff a b n (i + 1) (by omega)]
    constructor
    · rintro ⟨h0, h1⟩ j h2 h3
      by_cases e : j = i
      · subst e; exact h0
      · exact h1 j (by omega) h3
    · intro h0
      exact ⟨h0 i (Nat.le_refl _) (by omega), fun j h2 h3 => h0 j (by omega) h3⟩
theorem eqFrom_eq (a b : Con) : eqFrom a b 8 0 = decide (a = b) := by
  rw [Bool.eq_iff_iff, eqFrom_iff a b 8 0 rfl, decide_eq_true_eq]
  constructor
  · intro h
    apply Vector.ext
    intro i hi
    have := h i (by omega) hi
    simpa [hi] using this
  · rintro rfl; intros; rfl
section
variable {P : Program} (w : World)
theorem run_part_con (ts : TypeId) (hs : P.underlying ts = some .string) (c : Con) (p : Nat) (h : p < 8) : (part ts (con c) p).run P w = .ok (.string c[p]) w := by
  have hagg : (isAgg ts).run P w = .ok false w := by
    unfold isAgg
    rw [Sem.run_bind, run_underlying hs w]; simp
  simp [part, Sem.run_bind, hagg, con_get c p h]

theorem run_eq_from (a b : Con) (F : Nat → Option Bool × PUnit → Sem (ForInStep (Option Bool × PUnit)))
    (hF : ∀ i, i < 8 → ∀ r, (F i r).run P w = .ok (if a[i]! = b[i]! then .yield (none, ⟨⟩) else .done (some false, ⟨⟩)) w) :
    ∀ n i, i + n = 8 → (forIn (List.range' i n) (none, ⟨⟩) F : Sem (Option Bool × PUnit)).run P w = .ok (if eqFrom a b n i = true then none else some false, ⟨⟩) w := by
  intro n
  induction n with
  | zero => intro i hi; simp [eqFrom]
  | succ n ih =>
    intro i hi
    simp only [List.range'_succ, List.forIn_cons, Sem.run_bind]
    rw [hF i (by omega)]
    by_cases h : a[i]! = b[i]!
    · rw [if_pos h]
      simp only [Result.andThen_ok]
      rw [ih (i + 1) (by omega)]
      simp [eqFrom, h]
    · rw [if_neg h]
      simp [eqFrom, h]

theorem run_equalIn_con (d : Nat) (t ts : TypeId) (ht : P.underlying t = some (.array 8 ts)) (hs : P.underlying ts = some .string)
    (hz : (P.info? ts).map (·.size) = some 1) (a b : Con) :
    (Op.equalIn (d + 2) t (.agg (con a)) (.agg (con b))).run P w = .ok (decide (a = b)) w := by
  have hsz : (sizeOf ts).run P w = .ok 1 w := by
    cases hq : P.info? ts with
    | none => simp [hq] at hz
    | some i => simp [hq] at hz; simp [sizeOf, typeInfo, hq, hz]
  simp only [Op.equalIn, Sem.run_bind, run_underlying ht, Result.andThen_ok, hsz, Std.Legacy.Range.forIn_eq_forIn_range']
  rw [run_eq_from w a b _ (by
    intro i hi r
    simp only [Sem.run_bind, Nat.mul_one, run_part_con w ts hs _ i hi, Result.andThen_ok, run_underlying hs, Sem.run_pure]
    have e1 : a[i]! = a[i] := by simp [hi]
    have e2 : b[i]! = b[i] := by simp [hi]
    rw [e1, e2, beq_toListBytes, bytes_eq_iff]
    by_cases h : a[i] = b[i] <;> simp [h])]
  rotate_left 1
  · rfl
  rw [← eqFrom_eq]
  show (Result.ok (if eqFrom a b 8 0 = true then none else some false, PUnit.unit) w).andThen _ = _
  generalize eqFrom a b 8 0 = q
  cases q <;> rfl
theorem run_eql_con (t ts : TypeId) (ht : P.underlying t = some (.array 8 ts)) (hs : P.underlying ts = some .string) (hz : (P.info? ts).map (·.size) = some 1) (a b : Con) :
    (binOp .eql t (.agg (con a)) (.agg (con b))).run P w = .ok (.bool (decide (a = b))) w := by
  rw [run_eql_struct, run_equalIn_con w 9998 t ts ht hs hz]; rfl
theorem run_neq_con (t ts : TypeId) (ht : P.underlying t = some (.array 8 ts)) (hs : P.underlying ts = some .string) (hz : (P.info? ts).map (·.size) = some 1) (a b : Con) :
    (binOp .neq t (.agg (con a)) (.agg (con b))).run P w = .ok (.bool (!decide (a = b))) w := by
  rw [run_neq_struct, run_equalIn_con w 9998 t ts ht hs hz]; rfl
end

/-! ### this seat's numbers for contacts -/
theorem infoCon : (Try.prog.info? 26).map (·.size) = some 8 := by kernel_rfl
theorem infoStr : (Try.prog.info? 9).map (·.size) = some 1 := by kernel_rfl
theorem load_con (w : World) (n : Nat) (h : rowOk w n = true) (hs : (rowAt w n).size = 8) :
    (Instr.loadAt 26 (.pointer (some ⟨n, 0, none⟩))).run Try.prog w = .ok (.agg (rowAt w n)) w :=
  run_loadAt_row w _ _ 8 n Try.underlying26 rfl infoCon h hs
theorem store_con (w : World) (n : Nat) (c : Con) (h : rowOk w n = true) (hs : (rowAt w n).size = 8) :
    (Instr.storeAt 26 (.pointer (some ⟨n, 0, none⟩)) (.agg (con c))).run Try.prog w = .ok () (w.setRow n (con c)) :=
  run_storeAt_row w _ 8 n (con c) infoCon h hs rfl (con_one c)
theorem storeCells_con (w : World) (n : Nat) (c : Con) (h : rowOk w n = true) (hs : (rowAt w n).size = 8) :
    (storeCells ⟨n, 0, none⟩ (con c).toList).run Try.prog w = .ok () (w.setRow n (con c)) :=
  run_storeCells_row w n (con c) h hs (con_one c)
theorem eql_con (w : World) (a b : Con) : (binOp .eql 26 (.agg (con a)) (.agg (con b))).run Try.prog w = .ok (.bool (decide (a = b))) w :=
  run_eql_con w _ _ Try.underlying26 Try.underlying9 infoStr a b
theorem equalIn_con (w : World) (a b : Con) : (Op.equalIn 10000 26 (.agg (con a)) (.agg (con b))).run Try.prog w = .ok (decide (a = b)) w :=
  run_equalIn_con w 9998 _ _ Try.underlying26 Try.underlying9 infoStr a b
theorem neq_con (w : World) (a b : Con) : (binOp .neq 26 (.agg (con a)) (.agg (con b))).run Try.prog w = .ok (.bool (!decide (a = b))) w :=
  run_neq_con w _ _ Try.underlying26 Try.underlying9 infoStr a b
theorem wpList_store_con {ops : Array Oper} {rest : List Oper} {o : Oper} {a : Act} {w : World} {Q : Exit → Act → World → Prop} (hgd : o.guard = none) (x y : Operand) (ho : o.op = .store 26 x y)
    (n : Nat) (c : Con) (hx : a.eval x = .pointer (some ⟨n, 0, none⟩)) (hy : a.eval y = .agg (con c)) (hok : rowOk w n = true) (hs : (rowAt w n).size = 8)
    (h : wpList Try.prog ops Q rest (a.put o.dst undef) (w.setRow n (con c))) : wpList Try.prog ops Q (o :: rest) a w := by
  obtain ⟨t', ht⟩ := rowOk_get w hok
  exact wpList_store_row hgd _ x y ho n (con c) hx hy t' _ ht infoCon hs (con_one c) h
theorem wpList_load_con {ops : Array Oper} {rest : List Oper} {o : Oper} {a : Act} {w : World} {Q : Exit → Act → World → Prop} (hgd : o.guard = none) (x : Operand) (ho : o.op = .load 26 x)
    (n : Nat) (c : Con) (hx : a.eval x = .pointer (some ⟨n, 0, none⟩)) (hok : rowOk w n = true) (hs : rowAt w n = con c)
    (h : wpList Try.prog ops Q rest (a.put o.dst (.agg (con c))) w) : wpList Try.prog ops Q (o :: rest) a w := by
  obtain ⟨t', ht⟩ := rowOk_get w hok
  rw [hs] at ht
  exact wpList_load_row hgd _ x ho n hx t' _ _ _ ht Try.underlying26 rfl infoCon h
/-- the end of a function whose one result is a contact in memory -/
theorem results_con {fn : Func} {p : Tmp} (h : fn.results = #[.cell p 26]) (tmps : Array Value) (w : World) (n : Nat) (c : Con)
    (hp : tmps.getD p undef = .pointer (some ⟨n, 0, none⟩)) (hok : rowOk w n = true) (hc : rowAt w n = con c) : (results fn tmps).run Try.prog w = .ok (.agg (con c)) w := by
  obtain ⟨t', ht⟩ := rowOk_get w hok
  rw [hc] at ht
  exact results_cell_row h tmps w n t' (con c) (0, 0) _ hp ht Try.underlying26 rfl infoCon
end Go.Proofs.Ytkgebhmlogddcaa

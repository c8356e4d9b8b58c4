/- Part 1 of 7 of the proof of ViewAll: Kit, Law, Sl, It, LawIt, EqIt, Sn, Op, LawC, Item, MemI, View. Conditions: none beyond the given statement's own. -/
import Derived.Test.YtkgebhmlogddcaaProg
import Derived.WalkKit
import Derived.WalkSpells
import Derived.WalkLawsBesides
import Derived.KernelRfl
import Derived.Lib.Hide
import Derived.Deep.LoopGhost
import Derived.Deep.RegionHeld3
import Derived.Deep.QuietTactic
import Derived.BigQuiet
import Derived.Deep.WholeRow
import Derived.Test.YtkgebhmlogddcaaRows
import Derived.ProofKit
import Derived.OpenShut
import Derived.ShutString
import Derived.ChangeOld
import Derived.Carry
import Derived.SizedLaws
import Derived.Maps.AppendAt
import Derived.Laws.OwnMore
import Derived.Laws.CopyOwn
import Derived.Deep.Slices
import Derived.Laws.StructEq
import Derived.Laws.CopyRow
import Derived.Deep.RegionLaw
/- Words for the walks of this seat: rows of cells that are known whole, as rules for the walk; contacts (arrays of eight strings) as values. No condition: helpers alone. -/
namespace Go.Proofs.Ytkgebhmlogddcaa
open Go.RowKit

/-! ### a block's cells, reckoned out of the world -/
/-- the cells of block n -/
def rowAt (w : World) (n : Nat) : Array Value :=
  match w.heap[n]? with
  | some (.cells c _ _) => c
  | _ => #[]
/-- block n is a row of cells, none of which is frozen -/
def rowOk (w : World) (n : Nat) : Bool :=
  match w.heap[n]? with
  | some (.cells _ _ (lo, hi)) => lo == 0 && hi == 0
  | _ => false

section
variable (w : World)
theorem rowOk_get {n : Nat} (h : rowOk w n = true) : ∃ t, w.heap[n]? = some (.cells (rowAt w n) t (0, 0)) := by
  unfold rowOk at h
  unfold rowAt
  split at h
  · rename_i c t lo hi he
    simp only [Bool.and_eq_true, beq_iff_eq] at h
    obtain ⟨rfl, rfl⟩ := h
    exact ⟨t, by rw [he]⟩
  · cases h
theorem rowOk_lt {n : Nat} (h : rowOk w n = true) : n < w.heap.size := by
  obtain ⟨t, ht⟩ := rowOk_get w h
  exact (Array.getElem?_eq_some_iff.1 ht).1
theorem rowAt_alloc_at (c : Array Value) (t : TypeId) (n : Nat) (hn : n = w.heap.size) : rowAt (w.alloc (.cells c t)) n = c := by
  subst hn; unfold rowAt; rw [heap_alloc_new]
theorem rowAt_alloc_past (o : Obj) (n : Nat) (hn : n < w.heap.size) : rowAt (w.alloc o) n = rowAt w n := by
  unfold rowAt; rw [Below.heap_alloc w o n hn]
theorem rowOk_alloc_at (c : Array Value) (t : TypeId) (n : Nat) (hn : n = w.heap.size) : rowOk (w.alloc (.cells c t)) n = true := by
  subst hn; unfold rowOk; rw [heap_alloc_new]; rfl
theorem rowOk_alloc_past (o : Obj) (n : Nat) (hn : n < w.heap.size) : rowOk (w.alloc o) n = rowOk w n := by
  unfold rowOk; rw [Below.heap_alloc w o n hn]
theorem rowAt_drew (n : Nat) : rowAt w.drew n = rowAt w n := rfl
theorem rowOk_drew (n : Nat) : rowOk w.drew n = rowOk w n := rfl
theorem rowAt_drewN (k n : Nat) : rowAt (w.drewN k) n = rowAt w n := rfl
theorem rowOk_drewN (k n : Nat) : rowOk (w.drewN k) n = rowOk w n := rfl
theorem rowAt_setRow (n : Nat) (c : Array Value) (h : rowOk w n = true) : rowAt (w.setRow n c) n = c := by
  obtain ⟨t, ht⟩ := rowOk_get w h
  unfold rowAt; rw [setRow_heap w n _ c t _ ht]
theorem rowAt_setRow_far (n m : Nat) (c : Array Value) (h : m ≠ n) : rowAt (w.setRow n c) m = rowAt w m := by
  unfold rowAt; rw [setRow_other w n m c h]
theorem rowOk_setRow (n m : Nat) (c : Array Value) : rowOk (w.setRow n c) m = rowOk w m := by
  by_cases h : m = n
  · subst h
    unfold rowOk World.setRow
    simp only [Array.getElem?_modify, if_true]
    cases hm : w.heap[m]? with
    | none => simp
    | some o => cases o <;> simp
  · unfold rowOk; rw [setRow_other w n m c h]
theorem rowAt_below {B : Nat} {w w' : World} (h : Below B w w') (n : Nat) (hn : n < B) : rowAt w' n = rowAt w n := by
  unfold rowAt; rw [h.block n hn]
theorem rowOk_below {B : Nat} {w w' : World} (h : Below B w w') (n : Nat) (hn : n < B) : rowOk w' n = rowOk w n := by
  unfold rowOk; rw [h.block n hn]
theorem cell_rowOk {n : Nat} (h : rowOk w n = true) (i : Nat) : w.cell? ⟨n, i, none⟩ = (rowAt w n)[i]? := by
  obtain ⟨t, ht⟩ := rowOk_get w h
  exact cell_of_row w n i _ t _ ht
theorem frozen_rowOk {n : Nat} (h : rowOk w n = true) (i : Nat) : w.frozen? ⟨n, i, none⟩ = false := by
  obtain ⟨t, ht⟩ := rowOk_get w h
  exact frozen_of_row w n i _ t ht
theorem setCell_rowOk {n : Nat} (h : rowOk w n = true) (i : Nat) (v : Value) : w.setCell ⟨n, i, none⟩ v = w.setRow n ((rowAt w n).setIfInBounds i v) := by
  obtain ⟨t, ht⟩ := rowOk_get w h
  exact setCell_eq_setRow w n i _ t _ v ht
theorem setRow_alloc_at (c c' : Array Value) (t : TypeId) (n : Nat) (hn : n = w.heap.size) : (w.alloc (.cells c t)).setRow n c' = w.alloc (.cells c' t) := by
  subst hn; exact World.setRow_alloc_new w c c' t
theorem setRow_alloc_past (o : Obj) (n : Nat) (c : Array Value) (hn : n < w.heap.size) : (w.alloc o).setRow n c = (w.setRow n c).alloc o := by
  cases w with
  | mk heap tape drawn os output =>
    simp only [World.setRow, World.alloc] at *
    congr 1
    apply Array.ext
    · simp
    · intro i h1 h2
      simp only [Array.size_modify, Array.size_push] at h1
      simp only [Array.getElem_modify, Array.getElem_push, Array.size_modify]
      by_cases hi : i = heap.size
      · subst hi
        rw [if_neg (by omega)]
        simp
      · simp only [show i < heap.size by omega, dite_true]
theorem setRow_drew (n : Nat) (c : Array Value) : w.drew.setRow n c = (w.setRow n c).drew := rfl
theorem size_setRow' (n : Nat) (c : Array Value) : (w.setRow n c).heap.size = w.heap.size := setRow_size w n c
theorem below_setRow {B : Nat} {a w : World} (h : Below B a w) (n : Nat) (c : Array Value) (hn : B ≤ n) : Below B a (w.setRow n c) :=
  ⟨h.os, h.tape, h.output, by simpa using h.size, fun k hk => (setRow_other w n k c (by omega)).trans (h.block k hk)⟩
theorem below_drewN {B : Nat} {a w : World} (h : Below B a w) (n : Nat) : Below B a (w.drewN n) := ⟨h.os, h.tape, h.output, h.size, h.block⟩
end

/-- 'new a w': of the world a nothing has changed -/
abbrev New (a w : World) : Prop := Below a.heap.size a w
theorem New.rfl' (a : World) : New a a := Below.refl _ _
theorem New.call {a W w1 : World} (h : New a W) (hb : New W w1) : New a w1 := h.trans (hb.mono h.size)
theorem New.alloc' {a W : World} (h : New a W) (o : Obj) : New a (W.alloc o) := h.alloc h.size o
theorem New.drew' {a W : World} (h : New a W) : New a W.drew := h.drew
theorem New.row {a W : World} (h : New a W) (n : Nat) (c : Array Value) (hn : a.heap.size ≤ n) : New a (W.setRow n c) := below_setRow h n c hn
/-- what a call that only makes memory leaves: all that was there is as it was -/
theorem bfacts {B : Nat} {W w1 : World} (hb : Below B W w1) :
    (∀ n, n < B → rowAt w1 n = rowAt W n) ∧ (∀ n, n < B → rowOk w1 n = rowOk W n) ∧
    (∀ b o, b < B → w1.cell? ⟨b, o, none⟩ = W.cell? ⟨b, o, none⟩) ∧ W.heap.size ≤ w1.heap.size :=
  ⟨fun n h => rowAt_below hb n h, fun n h => rowOk_below hb n h, fun b o h => hb.cell (p := ⟨b, o, none⟩) h, hb.size⟩

section
variable {P : Program} (w : World)
theorem run_loadAt_row (t : TypeId) (d : TypeDesc) (k n : Nat) (hu : P.underlying t = some d) (hd : (match d with | .struct _ | .array _ _ => true | _ => false) = true) (hi : (P.info? t).map (·.size) = some k)
    (h : rowOk w n = true) (hs : (rowAt w n).size = k) : (Instr.loadAt t (.pointer (some ⟨n, 0, none⟩))).run P w = .ok (.agg (rowAt w n)) w := by
  obtain ⟨t', ht⟩ := rowOk_get w h
  simp only [Instr.loadAt, Instr.sureAddr, Sem.run_bind, Sem.run_pure, Result.andThen_ok]
  exact run_loadVar_row w n t' t (rowAt w n) (0, 0) d ht hu hd (by rw [hi, hs])
theorem run_storeAt_row (t : TypeId) (k n : Nat) (cs : Array Value) (hi : (P.info? t).map (·.size) = some k) (h : rowOk w n = true) (hs : (rowAt w n).size = k) (hc : cs.size = k) (h1 : cs.all (·.oneCell') = true) :
    (Instr.storeAt t (.pointer (some ⟨n, 0, none⟩)) (.agg cs)).run P w = .ok () (w.setRow n cs) := by
  obtain ⟨t', ht⟩ := rowOk_get w h
  simp only [Instr.storeAt, Instr.sureAddr, Sem.run_bind, Sem.run_pure, Result.andThen_ok]
  exact run_storeVar_row w n t' t _ cs ht (by rw [hi, hc]) (by rw [hs, hc]) h1
theorem run_storeCells_row (n : Nat) (cs : Array Value) (h : rowOk w n = true) (hs : (rowAt w n).size = cs.size) (h1 : cs.all (·.oneCell') = true) :
    (storeCells ⟨n, 0, none⟩ cs.toList).run P w = .ok () (w.setRow n cs) := by
  obtain ⟨t', ht⟩ := rowOk_get w h
  have := run_storeCells_from (P := P) n t' cs.toList 0 (rowAt w n) w ht (by simp [hs]) (fun v hv => (Array.all_eq_true_iff_forall_mem.1 h1) v (by simpa using hv))
  simpa using this
end

/-! ### contacts -/
abbrev Con := Vector ByteArray 8
/-- a contact's cells -/
def con (c : Con) : Array Value := #[.string c[0], .string c[1], .string c[2], .string c[3], .string c[4], .string c[5], .string c[6], .string c[7]]
theorem con_get (c : Con) (p : Nat) (h : p < 8) : (con c)[p]? = some (.string c[p]) := by
  match p, h with
  | 0, _ | 1, _ | 2, _ | 3, _ | 4, _ | 5, _ | 6, _ | 7, _ => rfl
theorem con_fold (c : Con) : #[Value.string c[0], .string c[1], .string c[2], .string c[3], .string c[4], .string c[5], .string c[6], .string c[7]] = con c := rfl
theorem con_size (c : Con) : (con c).size = 8 := rfl
theorem con_set (c : Con) (p : Nat) (h : p < 8) (s : ByteArray) : (con c).setIfInBounds p (.string s) = con (c.set p s) := by
  match p, h with
  | 0, _ | 1, _ | 2, _ | 3, _ | 4, _ | 5, _ | 6, _ | 7, _ => simp [con]
theorem set_all (n m : Con) : (((((((n.set 0 m[0]).set 1 m[1]).set 2 m[2]).set 3 m[3]).set 4 m[4]).set 5 m[5]).set 6 m[6]).set 7 m[7] = m := by
  apply Vector.ext
  intro i hi
  simp only [Vector.getElem_set]
  match i, hi with
  | 0, _ | 1, _ | 2, _ | 3, _ | 4, _ | 5, _ | 6, _ | 7, _ => rfl
theorem con_one (c : Con) : (con c).all (·.oneCell') = true := by simp [con, Value.oneCell']
def none8 : Con := Vector.replicate 8 ⟨#[]⟩
theorem none8_cells : #[Value.string ⟨#[]⟩, .string ⟨#[]⟩, .string ⟨#[]⟩, .string ⟨#[]⟩, .string ⟨#[]⟩, .string ⟨#[]⟩, .string ⟨#[]⟩, .string ⟨#[]⟩] = con none8 := rfl
theorem con_inj {a b : Con} (h : con a = con b) : a = b := by
  apply Vector.ext
  intro i hi
  have h1 := con_get a i hi
  rw [h, con_get b i hi] at h1
  injection h1 with h1; injection h1 with h1; exact h1.symm

theorem bytes_eq_iff (a b : ByteArray) : (a.toList == b.toList) = decide (a = b) := by
  rw [← beq_toListBytes]
  obtain ⟨⟨x⟩⟩ := a
  obtain ⟨⟨y⟩⟩ := b
  show ((⟨x⟩ : Array UInt8) == ⟨y⟩) = _
  by_cases h : x = y
  · subst h; simp
  · simp [h]
def eqFrom (a b : Con) : Nat → Nat → Bool
  | 0, _ => true
  | n + 1, i => a[i]! = b[i]! && eqFrom a b n (i + 1)
theorem eqFrom_iff (a b : Con) : ∀ n i, i + n = 8 → (eqFrom a b n i = true ↔ ∀ j, i ≤ j → j < 8 → a[j]! = b[j]!)
  | 0, i, h => by simp [eqFrom]; intros; omega
  | n + 1, i, h => by
    simp only [eqFrom, Bool.and_eq_true, decide_eq_true_eq, eqFrom_iff a b n (i + 1) (by omega)]
    constructor
    · rintro ⟨h0, h1⟩ j h2 h3
      by_cases e : j = i
      · subst e; exact h0
      · exact h1 j (by omega) h3
    · intro h0
      exact ⟨h0 i (Nat.le_refl _) (by omega), fun j h2 h3 => h0 j (by omega) h3⟩
theorem eqFrom_eq (a b : Con) : eqFrom a b 8 0 = decide (a = b) := by
  rw [Bool.eq_iff_iff, eqFrom_iff a b 8 0 rfl, decide_eq_true_eq]
  constructor
  · intro h
    apply Vector.ext
    intro i hi
    have := h i (by omega) hi
    simpa [hi] using this
  · rintro rfl; intros; rfl
section
variable {P : Program} (w : World)
theorem run_part_con (ts : TypeId) (hs : P.underlying ts = some .string) (c : Con) (p : Nat) (h : p < 8) : (part ts (con c) p).run P w = .ok (.string c[p]) w := by
  have hagg : (isAgg ts).run P w = .ok false w := by
    unfold isAgg
    rw [Sem.run_bind, run_underlying hs w]; simp
  simp [part, Sem.run_bind, hagg, con_get c p h]

theorem run_eq_from (a b : Con) (F : Nat → Option Bool × PUnit → Sem (ForInStep (Option Bool × PUnit)))
    (hF : ∀ i, i < 8 → ∀ r, (F i r).run P w = .ok (if a[i]! = b[i]! then .yield (none, ⟨⟩) else .done (some false, ⟨⟩)) w) :
    ∀ n i, i + n = 8 → (forIn (List.range' i n) (none, ⟨⟩) F : Sem (Option Bool × PUnit)).run P w = .ok (if eqFrom a b n i = true then none else some false, ⟨⟩) w := by
  intro n
  induction n with
  | zero => intro i hi; simp [eqFrom]
  | succ n ih =>
    intro i hi
    simp only [List.range'_succ, List.forIn_cons, Sem.run_bind]
    rw [hF i (by omega)]
    by_cases h : a[i]! = b[i]!
    · rw [if_pos h]
      simp only [Result.andThen_ok]
      rw [ih (i + 1) (by omega)]
      simp [eqFrom, h]
    · rw [if_neg h]
      simp [eqFrom, h]

theorem run_equalIn_con (d : Nat) (t ts : TypeId) (ht : P.underlying t = some (.array 8 ts)) (hs : P.underlying ts = some .string)
    (hz : (P.info? ts).map (·.size) = some 1) (a b : Con) :
    (Op.equalIn (d + 2) t (.agg (con a)) (.agg (con b))).run P w = .ok (decide (a = b)) w := by
  have hsz : (sizeOf ts).run P w = .ok 1 w := by
    cases hq : P.info? ts with
    | none => simp [hq] at hz
    | some i => simp [hq] at hz; simp [sizeOf, typeInfo, hq, hz]
  simp only [Op.equalIn, Sem.run_bind, run_underlying ht, Result.andThen_ok, hsz, Std.Legacy.Range.forIn_eq_forIn_range']
  rw [run_eq_from w a b _ (by
    intro i hi r
    simp only [Sem.run_bind, Nat.mul_one, run_part_con w ts hs _ i hi, Result.andThen_ok, run_underlying hs, Sem.run_pure]
    have e1 : a[i]! = a[i] := by simp [hi]
    have e2 : b[i]! = b[i] := by simp [hi]
    rw [e1, e2, beq_toListBytes, bytes_eq_iff]
    by_cases h : a[i] = b[i] <;> simp [h])]
  rotate_left 1
  · rfl
  rw [← eqFrom_eq]
  show (Result.ok (if eqFrom a b 8 0 = true then none else some false, PUnit.unit) w).andThen _ = _
  generalize eqFrom a b 8 0 = q
  cases q <;> rfl
theorem run_eql_con (t ts : TypeId) (ht : P.underlying t = some (.array 8 ts)) (hs : P.underlying ts = some .string) (hz : (P.info? ts).map (·.size) = some 1) (a b : Con) :
    (binOp .eql t (.agg (con a)) (.agg (con b))).run P w = .ok (.bool (decide (a = b))) w := by
  rw [run_eql_struct, run_equalIn_con w 9998 t ts ht hs hz]; rfl
theorem run_neq_con (t ts : TypeId) (ht : P.underlying t = some (.array 8 ts)) (hs : P.underlying ts = some .string) (hz : (P.info? ts).map (·.size) = some 1) (a b : Con) :
    (binOp .neq t (.agg (con a)) (.agg (con b))).run P w = .ok (.bool (!decide (a = b))) w := by
  rw [run_neq_struct, run_equalIn_con w 9998 t ts ht hs hz]; rfl
end

/-! ### this seat's numbers for contacts -/
theorem infoCon : (Try.prog.info? 26).map (·.size) = some 8 := by kernel_rfl
theorem infoStr : (Try.prog.info? 9).map (·.size) = some 1 := by kernel_rfl
theorem load_con (w : World) (n : Nat) (h : rowOk w n = true) (hs : (rowAt w n).size = 8) :
    (Instr.loadAt 26 (.pointer (some ⟨n, 0, none⟩))).run Try.prog w = .ok (.agg (rowAt w n)) w :=
  run_loadAt_row w _ _ 8 n Try.underlying26 rfl infoCon h hs
theorem store_con (w : World) (n : Nat) (c : Con) (h : rowOk w n = true) (hs : (rowAt w n).size = 8) :
    (Instr.storeAt 26 (.pointer (some ⟨n, 0, none⟩)) (.agg (con c))).run Try.prog w = .ok () (w.setRow n (con c)) :=
  run_storeAt_row w _ 8 n (con c) infoCon h hs rfl (con_one c)
theorem storeCells_con (w : World) (n : Nat) (c : Con) (h : rowOk w n = true) (hs : (rowAt w n).size = 8) :
    (storeCells ⟨n, 0, none⟩ (con c).toList).run Try.prog w = .ok () (w.setRow n (con c)) :=
  run_storeCells_row w n (con c) h hs (con_one c)
theorem eql_con (w : World) (a b : Con) : (binOp .eql 26 (.agg (con a)) (.agg (con b))).run Try.prog w = .ok (.bool (decide (a = b))) w :=
  run_eql_con w _ _ Try.underlying26 Try.underlying9 infoStr a b
theorem equalIn_con (w : World) (a b : Con) : (Op.equalIn 10000 26 (.agg (con a)) (.agg (con b))).run Try.prog w = .ok (decide (a = b)) w :=
  run_equalIn_con w 9998 _ _ Try.underlying26 Try.underlying9 infoStr a b
theorem neq_con (w : World) (a b : Con) : (binOp .neq 26 (.agg (con a)) (.agg (con b))).run Try.prog w = .ok (.bool (!decide (a = b))) w :=
  run_neq_con w _ _ Try.underlying26 Try.underlying9 infoStr a b
theorem wpList_store_con {ops : Array Oper} {rest : List Oper} {o : Oper} {a : Act} {w : World} {Q : Exit → Act → World → Prop} (hgd : o.guard = none) (x y : Operand) (ho : o.op = .store 26 x y)
    (n : Nat) (c : Con) (hx : a.eval x = .pointer (some ⟨n, 0, none⟩)) (hy : a.eval y = .agg (con c)) (hok : rowOk w n = true) (hs : (rowAt w n).size = 8)
    (h : wpList Try.prog ops Q rest (a.put o.dst undef) (w.setRow n (con c))) : wpList Try.prog ops Q (o :: rest) a w := by
  obtain ⟨t', ht⟩ := rowOk_get w hok
  exact wpList_store_row hgd _ x y ho n (con c) hx hy t' _ ht infoCon hs (con_one c) h
theorem wpList_load_con {ops : Array Oper} {rest : List Oper} {o : Oper} {a : Act} {w : World} {Q : Exit → Act → World → Prop} (hgd : o.guard = none) (x : Operand) (ho : o.op = .load 26 x)
    (n : Nat) (c : Con) (hx : a.eval x = .pointer (some ⟨n, 0, none⟩)) (hok : rowOk w n = true) (hs : rowAt w n = con c)
    (h : wpList Try.prog ops Q rest (a.put o.dst (.agg (con c))) w) : wpList Try.prog ops Q (o :: rest) a w := by
  obtain ⟨t', ht⟩ := rowOk_get w hok
  rw [hs] at ht
  exact wpList_load_row hgd _ x ho n hx t' _ _ _ ht Try.underlying26 rfl infoCon h
/-- the end of a function whose one result is a contact in memory -/
theorem results_con {fn : Func} {p : Tmp} (h : fn.results = #[.cell p 26]) (tmps : Array Value) (w : World) (n : Nat) (c : Con)
    (hp : tmps.getD p undef = .pointer (some ⟨n, 0, none⟩)) (hok : rowOk w n = true) (hc : rowAt w n = con c) : (results fn tmps).run Try.prog w = .ok (.agg (con c)) w := by
  obtain ⟨t', ht⟩ := rowOk_get w hok
  rw [hc] at ht
  exact results_cell_row h tmps w n t' (con c) (0, 0) _ hp ht Try.underlying26 rfl infoCon
end Go.Proofs.Ytkgebhmlogddcaa
/- What the rows of all laws of this seat share: arguments as values, and that they read as they did. -/
namespace Go.Proofs.Ytkgebhmlogddcaa
open Go.ChangeShapes Go.WideShapes Go.ChangeAt Go.RowKit
set_option linter.constructorNameAsVariable false

theorem ownK : ownKnob Try.prog.godebug = none := by kernel_rfl
theorem laidOut : laidOutB Try.prog = true := by kernel_rfl

section
variable {H : Type} {enc : TypeId × Value → H} {P : Program}
theorem trodAll_below (hl : laidOutB P = true) {W W' : World} (hb : Below W.heap.size W W') : ∀ {ts : List TypeId} {vs : List Value} {ds : List (DataW H)} {ps : List MemPlace},
    (∀ t ∈ ts, P.readableRec t = true ∧ t < P.types.size) → DataW.TrodAll enc P W 0 (fun _ => true) true ts vs ds ps → (∀ x ∈ ps, x.block < W.heap.size) →
    DataW.TrodAll enc P W' 0 (fun b => decide (b < W.heap.size)) true ts vs ds ps
  | [], [], [], _, _, h, _ => h
  | t :: ts, v :: vs, d :: ds, ps, ht, h, hlt => by
    obtain ⟨p, q, h1, h2, rfl⟩ := h
    exact ⟨p, q, Below.trod hl (ht t (by simp)).1 (ht t (by simp)).2 h1 hb (fun x hx => hlt x (by simp [hx])),
      trodAll_below hl hb (fun t' ht' => ht t' (by simp [ht'])) h2 (fun x hx => hlt x (by simp [hx])), rfl⟩
  | [], _ :: _, _, _, _, h, _ => h.elim
  | [], [], _ :: _, _, _, h, _ => h.elim
  | _ :: _, [], _, _, _, h, _ => h.elim
  | _ :: _, _ :: _, [], _, _, h, _ => h.elim

/-- eight strings, out of an array's cells -/
theorem con_of_cells {cs : List Value} (hl : cs.length = 8) (h : ∀ i, i < 8 → ∃ s : ByteArray, (cs.drop i).take 1 = [.string s]) : ∃ c : Con, cs.toArray = con c := by
  match cs, hl with
  | [v0, v1, v2, v3, v4, v5, v6, v7], _ =>
    obtain ⟨s0, h0⟩ := h 0 (by omega); obtain ⟨s1, h1⟩ := h 1 (by omega); obtain ⟨s2, h2⟩ := h 2 (by omega); obtain ⟨s3, h3⟩ := h 3 (by omega)
    obtain ⟨s4, h4⟩ := h 4 (by omega); obtain ⟨s5, h5⟩ := h 5 (by omega); obtain ⟨s6, h6⟩ := h 6 (by omega); obtain ⟨s7, h7⟩ := h 7 (by omega)
    simp at h0 h1 h2 h3 h4 h5 h6 h7
    exact ⟨#v[s0, s1, s2, s3, s4, s5, s6, s7], by simp [con, h0, h1, h2, h3, h4, h5, h6, h7]⟩
theorem con_of_trod {w : World} {base : Nat} {spare : Nat → Bool} {held : Bool} {fuel : Nat} {t ts : TypeId} {cs : List Value} {x : DataW H × List MemPlace}
    (ht : P.underlying t = some (.array 8 ts)) (hs : P.underlying ts = some .string) (hC : P.cellsOf t = 8) (hCs : P.cellsOf ts = 1)
    (h : DataW.trod enc P w base spare held fuel t cs = some x) : ∃ c : Con, cs.toArray = con c := by
  obtain ⟨xs, m, _, _, hl, hxl, hi⟩ := DataW.trod_array ht h
  refine con_of_cells (hl.trans hC) fun i h8 => ?_
  have h1 := hi i h8
  rw [hCs, Nat.mul_one, List.getElem?_eq_getElem (by omega)] at h1
  obtain ⟨s, hs', _⟩ := DataW.trod_string hs h1
  exact ⟨s, hs'⟩
end

section
variable {H : Type} {enc : TypeId × Value → H} {w : World} {base : Nat} {spare : Nat → Bool} {held : Bool}
theorem open_con {r : Reach} {b0 : Nat} {v : Value} {d : DataW H} {p : List MemPlace} (hv : Value.okWide Try.prog w r b0 26 v) (h : DataW.Trod enc Try.prog w base spare held 26 v d p) : ∃ c : Con, v = .agg (con c) := by
  simp only [Value.okWide, Try.underlying26] at hv
  obtain ⟨cs, rfl, _, _⟩ := hv
  obtain ⟨fuel, hf⟩ := h
  obtain ⟨c, hc⟩ := con_of_trod Try.underlying26 Try.underlying9 (by kernel_rfl) (by kernel_rfl) hf
  exact ⟨c, by simpa [Value.cells] using hc⟩
end
end Go.Proofs.Ytkgebhmlogddcaa
/- Rows of elements of any kind: slices that are read, slices that a call made itself, one more element behind them. No condition: helpers alone. -/
namespace Go.Proofs.Ytkgebhmlogddcaa
open Go.RowKit

/-- a kind of elements: how one lies in cells, and its types' numbers -/
structure Kind (α : Type) where
  enc : α → Array Value
  sz : Nat
  e : TypeId
  t : TypeId
  bytes : Nat
  i : TypeInfo
  z : Value
  pos : 0 < sz
  hsz : ∀ x, (enc x).size = sz
  one : ∀ x, (enc x).all (·.oneCell') = true
  ht : Try.prog.underlying t = some (.slice e)
  hi : Try.prog.info? e = some i
  hz : i.zero = some z
  hs : i.size = sz
  hb : i.bytes = bytes
  hzs : z.cells.size = sz

namespace Kind
variable {α : Type} (K : Kind α)
/-- the cells of a list of elements -/
def flat (l : List α) : List Value := l.flatMap fun x => (K.enc x).toList
theorem flat_nil : K.flat [] = [] := rfl
theorem flat_cons (x : α) (l : List α) : K.flat (x :: l) = (K.enc x).toList ++ K.flat l := rfl
theorem flat_append (a b : List α) : K.flat (a ++ b) = K.flat a ++ K.flat b := by simp [flat]
theorem flat_one (x : α) : K.flat [x] = (K.enc x).toList := by simp [flat]
theorem flat_length (l : List α) : (K.flat l).length = l.length * K.sz := by
  induction l with
  | nil => simp [flat]
  | cons x l ih => rw [flat_cons, List.length_append, ih, Array.length_toList, K.hsz, List.length_cons, Nat.add_mul]; omega
theorem flat_get (l : List α) (k j : Nat) (hk : k < l.length) (hj : j < K.sz) : (K.flat l)[k * K.sz + j]? = (K.enc l[k])[j]? := by
  induction l generalizing k with
  | nil => simp at hk
  | cons x l ih =>
    rw [flat_cons]
    rcases k with _ | k
    · rw [List.getElem?_append_left (by rw [Array.length_toList, K.hsz]; omega)]
      simp
    · rw [List.getElem?_append_right (by rw [Array.length_toList, K.hsz, Nat.add_mul]; omega), Array.length_toList, K.hsz,
        show (k + 1) * K.sz + j - K.sz = k * K.sz + j from by rw [Nat.add_mul]; omega, ih k (by simpa using hk)]
      simp
theorem flat_one' (l : List α) : ∀ u ∈ K.flat l, u.oneCell' = true := by
  intro u hu
  obtain ⟨x, _, hx⟩ := List.mem_flatMap.1 hu
  exact (Array.all_eq_true_iff_forall_mem.1 (K.one x)) u (by simpa using hx)

/-- a slice that reads as a list -/
def Rd (w : World) (A : Option Addr) (n : Nat) (l : List α) : Prop :=
  l.length = n ∧ (0 < n → ∃ b o, A = some ⟨b, o, none⟩ ∧ b < w.heap.size ∧ ∀ k (h : k < l.length) j, j < K.sz → w.cell? ⟨b, o + k * K.sz + j, none⟩ = (K.enc l[k])[j]?)
/-- a slice that the call made itself, from block 'base' on -/
def Own (w : World) (base : Nat) (v : Value) (l : List α) : Prop := w.ownsRow base K.e K.sz v l.length (K.flat l)

variable {K} {w w' : World} {base : Nat} {v : Value} {l : List α} {A : Option Addr} {n c : Nat}
theorem Rd.none_ : K.Rd w none 0 [] := ⟨rfl, fun h => absurd h (by omega)⟩
theorem Rd.new (h : K.Rd w A n l) (hb : New w w') : K.Rd w' A n l :=
  ⟨h.1, fun hn => by
    obtain ⟨b, o, e, hlt, hc⟩ := h.2 hn
    exact ⟨b, o, e, Nat.lt_of_lt_of_le hlt hb.size, fun k hk j hj => (hb.cell (p := ⟨b, _, none⟩) hlt).trans (hc k hk j hj)⟩⟩
theorem Rd.alloc (h : K.Rd w A n l) (o : Obj) : K.Rd (w.alloc o) A n l := h.new ((New.rfl' w).alloc' o)
theorem Rd.of_own (h : K.Own w base (.slice A n c) l) : K.Rd w A n l ∧ n ≤ c := by
  rcases h.2 with ⟨hv, hn⟩ | ⟨g, cap, cur, hv, _, hg, hnc, _, _, htake⟩
  · injection hv with h1 h2 h3
    subst h1; subst h2; subst h3
    exact ⟨⟨hn, fun h => absurd h (by omega)⟩, Nat.le_refl _⟩
  · injection hv with h1 h2 h3
    subst h1; subst h2; subst h3
    refine ⟨⟨rfl, fun _ => ⟨g, 0, rfl, (Array.getElem?_eq_some_iff.1 hg).1, fun k hk j hj => ?_⟩⟩, hnc⟩
    rw [cell_of_row w g _ cur K.e (0, 0) hg, ← K.flat_get l k j hk hj, ← htake, List.getElem?_take, if_pos]
    · simp
    · have : (k + 1) * K.sz ≤ l.length * K.sz := Nat.mul_le_mul_right _ hk
      rw [Nat.add_mul] at this; omega
theorem Own.nil : K.Own w base (.slice none 0 0) [] := World.ownsRow_nil w base _ _
theorem Own.form (h : K.Own w base v l) : ∃ A c, v = .slice A l.length c ∧ l.length ≤ c := by
  rcases h.2 with ⟨rfl, hn⟩ | ⟨g, cap, cur, rfl, _, _, hc, _⟩
  · exact ⟨none, 0, by rw [hn], by omega⟩
  · exact ⟨_, cap, rfl, hc⟩
theorem Own.rd (h : K.Own w base v l) : ∃ A c, v = .slice A l.length c ∧ l.length ≤ c ∧ K.Rd w A l.length l := by
  obtain ⟨A, c, rfl, hc⟩ := h.form
  exact ⟨A, c, rfl, hc, (Rd.of_own h).1⟩
theorem Own.new (h : K.Own w base v l) (hb : New w w') : K.Own w' base v l :=
  h.kept (row := none) ⟨hb.os, hb.tape, hb.output, hb.size, fun k hk _ => hb.block k hk⟩ (by cases hv : v.ownBlock <;> simp)
theorem Own.alloc (h : K.Own w base v l) (o : Obj) : K.Own (w.alloc o) base v l := h.new ((New.rfl' w).alloc' o)
theorem Own.lower (h : K.Own w base v l) {b : Nat} (hb : b ≤ base) : K.Own w b v l :=
  ⟨h.1, h.2.imp id fun ⟨g, cap, cur, h1, h2, r⟩ => ⟨g, cap, cur, h1, Nat.le_trans hb h2, r⟩⟩
/-- what append leaves, but the row itself, is as it was -/
theorem new_grown {a W W1 : World} {row : Option Nat} (h : New a W) (hg : W.grownBy W1 row) (hr : ∀ k, row = some k → a.heap.size ≤ k) : New a W1 :=
  Below.grown h hg h.size hr
theorem Own.block (h : K.Own w base v l) : ∀ k, v.ownBlock = some k → base ≤ k := fun k hk => (World.ownsRow.lt h k hk).1

/-- one element more behind a row of the call's own: as the walk meets it, behind the slice of one element -/
theorem wpList_append1 {ops : Array Oper} {rest : List Oper} {o : Oper} {a : Act} {Q : Exit → Act → World → Prop} (hgd : o.guard = none) (s x : Operand)
    (ho : o.op = .call { callee := .builtin .append, args := #[s, x], argTypes := #[K.t, K.t] }) (hs : a.eval s = v) (hown : K.Own w base v l)
    (y : α) (g : Nat) (hx : a.eval x = .slice (some ⟨g, 0, none⟩) 1 1) (hr : rowOk w g = true) (hy : rowAt w g = K.enc y)
    (h63 : l.length + 1 ≤ 1048576) (hbytes : K.bytes ≤ 4096) (hbase : base ≤ w.heap.size)
    (h : ∀ v' w', K.Own w' base v' (l ++ [y]) → (New w w' ∨ ∃ k, v.ownBlock = some k ∧ w.grownBy w' (some k)) → w.grownBy w' v.ownBlock → wpList Try.prog ops Q rest (a.put o.dst v') w') : wpList Try.prog ops Q (o :: rest) a w := by
  refine wpList_append_own w hgd s x K.t ho base K.e K.i K.z K.sz K.bytes K.ht K.hi K.hz K.hs K.hb K.hzs K.pos v l.length (K.flat l) hs hown
    ⟨g, 0, none⟩ 1 1 (K.enc y).toList hx (by simp [K.hsz]) ?_ (fun u hu => (Array.all_eq_true_iff_forall_mem.1 (K.one y)) u (by simpa using hu)) (by simp only [maxLen]; omega) ?_ hbase ?_
  · intro j u hu
    have hadd : (⟨g, 0, none⟩ : Addr).add j = ⟨g, j, none⟩ := by unfold Addr.add; split <;> simp_all
    rw [hadd, cell_rowOk w hr, hy]
    simpa using hu
  · have h1 : (l.length + 1) * K.bytes ≤ 1048576 * 4096 := Nat.mul_le_mul h63 hbytes
    omega
  · intro v' w' hv' hg _
    refine h v' w' (by unfold Own; rw [K.flat_append, K.flat_one, List.length_append]; exact hv') ?_ hg
    cases hb : v.ownBlock with
    | none => rw [hb] at hg; exact .inl ⟨hg.os, hg.tape, hg.output, hg.size, fun k hk => hg.block k hk (by simp)⟩
    | some k => rw [hb] at hg; exact .inr ⟨k, rfl, hg⟩
theorem Rd.cut (h : K.Rd w A n l) {k cap : Nat} (hk : k ≤ n) (hc : n ≤ cap) : K.Rd w (if cap = k then A else A.map (·.add (k * K.sz))) (n - k) (l.drop k) := by
  refine ⟨by rw [List.length_drop, h.1], fun hn => ?_⟩
  obtain ⟨b, o, rfl, hb, hcell⟩ := h.2 (by omega)
  rw [if_neg (by omega)]
  refine ⟨b, o + k * K.sz, by simp only [Option.map_some]; unfold Addr.add; split <;> simp_all, hb, fun q hq j hj => ?_⟩
  have hq' : k + q < l.length := by simp at hq; omega
  have := hcell (k + q) hq' j hj
  rw [Nat.add_mul, show o + (k * K.sz + q * K.sz) + j = o + k * K.sz + q * K.sz + j from by omega] at this
  rw [this]; simp
theorem Rd.upto (h : K.Rd w A n l) {k : Nat} (hk : k ≤ n) : K.Rd w A k (l.take k) := by
  refine ⟨by rw [List.length_take, h.1]; omega, fun hn => ?_⟩
  obtain ⟨b, o, rfl, hb, hcell⟩ := h.2 (by omega)
  refine ⟨b, o, rfl, hb, fun q hq j hj => ?_⟩
  have hq' : q < l.length := by simp at hq; omega
  rw [hcell q hq' j hj]; simp

theorem Rd.single {x : α} {g : Nat} (hok : rowOk w g = true) (hg : rowAt w g = K.enc x) : K.Rd w (some ⟨g, 0, none⟩) 1 [x] :=
  ⟨rfl, fun _ => ⟨g, 0, rfl, rowOk_lt w hok, fun k hk j hj => by
    have : k = 0 := by simpa using hk
    subst this
    rw [cell_rowOk w hok, hg]; simp⟩⟩

theorem run_appendN (ty : TypeId) (hown : K.Own w base v l) {m : List α} (hr : K.Rd w A n m) (h63 : l.length + m.length ≤ 1048576) (hbytes : K.bytes ≤ 4096) (hbase : base ≤ w.heap.size) :
    ∃ v' w', (Builtin.append_ #[K.t, K.t] ty #[v, .slice A n c]).run Try.prog w = .ok v' w' ∧ K.Own w' base v' (l ++ m) ∧ w.grownBy w' v.ownBlock := by
  have h1 : (l.length + m.length) * K.bytes ≤ 1048576 * 4096 := Nat.mul_le_mul h63 hbytes
  obtain rfl : m.length = n := hr.1
  cases A with
  | none =>
    have hm : m = [] := by
      cases m with
      | nil => rfl
      | cons x m => obtain ⟨b, o, h, _⟩ := hr.2 (by simp); cases h
    subst hm
    refine ⟨v, w, ?_, by simpa using hown, ⟨rfl, rfl, rfl, Nat.le_refl _, fun _ _ _ => rfl⟩⟩
    rcases hown.2 with ⟨rfl, _⟩ | ⟨g, cap, cur, rfl, _, _, hnc, _⟩
    · simp [Builtin.append_, run_underlying K.ht, sizeOf, typeInfo, K.hi, Builtin.lenOf, Builtin.firstCells]
    · simp [Builtin.append_, run_underlying K.ht, sizeOf, typeInfo, K.hi, Builtin.lenOf, Builtin.firstCells, hnc, storeCells]
  | some ad =>
    obtain ⟨v', w', hrun, h2, h3, _, _⟩ := run_append_own_at (P := Try.prog) w base K.t ty K.e K.i K.z K.sz K.bytes K.ht K.hi K.hz K.hs K.hb K.hzs K.pos v l.length (K.flat l) hown ad m.length c (K.flat m) (K.flat_length m) (by
      intro j u hu
      rcases Nat.eq_zero_or_pos m.length with h0 | h0
      · have : m = [] := List.eq_nil_of_length_eq_zero h0
        subst this; simp [flat] at hu
      · obtain ⟨b, o, hh, hb, hcell⟩ := hr.2 h0
        injection hh with hh
        subst hh
        have hj : j < m.length * K.sz := by rw [← K.flat_length]; exact (List.getElem?_eq_some_iff.1 hu).1
        have hdm : j / K.sz < m.length := (Nat.div_lt_iff_lt_mul K.pos).2 hj
        have hmod : j % K.sz < K.sz := Nat.mod_lt _ K.pos
        have he : j / K.sz * K.sz + j % K.sz = j := by rw [Nat.mul_comm]; exact Nat.div_add_mod j K.sz
        have hc2 := hcell (j / K.sz) hdm (j % K.sz) hmod
        rw [Nat.add_assoc, he, ← K.flat_get m _ _ hdm hmod, he, hu] at hc2
        have hadd : (⟨b, o, none⟩ : Addr).add j = ⟨b, o + j, none⟩ := by unfold Addr.add; split <;> simp_all
        rw [hadd]; exact hc2) (K.flat_one' m) (by simp only [maxLen]; omega) (by omega) hbase
    exact ⟨v', w', hrun, by unfold Own; rw [K.flat_append, List.length_append]; exact h2, h3⟩
theorem wpList_appendN {ops : Array Oper} {rest : List Oper} {o : Oper} {a : Act} {Q : Exit → Act → World → Prop} (hgd : o.guard = none) (s x : Operand)
    (ho : o.op = .call { callee := .builtin .append, args := #[s, x], argTypes := #[K.t, K.t] }) (hs : a.eval s = v) (hown : K.Own w base v l)
    {m : List α} (hx : a.eval x = .slice A n c) (hr : K.Rd w A n m) (h63 : l.length + m.length ≤ 1048576) (hbytes : K.bytes ≤ 4096) (hbase : base ≤ w.heap.size)
    (h : ∀ v' w', K.Own w' base v' (l ++ m) → w.grownBy w' v.ownBlock → wpList Try.prog ops Q rest (a.put o.dst v') w') : wpList Try.prog ops Q (o :: rest) a w := by
  obtain ⟨v', w', hrun, h2, h3⟩ := run_appendN (c := c) o.type hown hr h63 hbytes hbase
  refine wpList_plain hgd fun _ hK => ?_
  unfold Oper.wp execOp
  simp only [ho, resolve, invoke, builtin, Sem.run_bind, Sem.run_pure, Result.andThen_ok, List.map_toArray, List.map_cons, List.map_nil, hs, hx, hrun]
  exact hK _ _ (h v' w' h2 h3)
/-- what append leaves, where the row is of the call's own -/
theorem Own.grown {a W W1 : World} {v : Value} {l : List α} (hn : New a W) (hv : K.Own W a.heap.size v l) (hg : W.grownBy W1 v.ownBlock) : New a W1 :=
  new_grown hn hg hv.block
end Kind
end Go.Proofs.Ytkgebhmlogddcaa
/- Items, views, operations, numbers: as values and as kinds of elements. No condition: helpers alone. -/
namespace Go.Proofs.Ytkgebhmlogddcaa
open Go.RowKit

theorem info_all {t : TypeId} {c s b : Nat} (h : (Try.prog.info? t).map (fun i => (i.zero.map (·.cells.size), i.size, i.bytes)) = some (some c, s, b)) :
    ∃ i : TypeInfo, ∃ z : Value, Try.prog.info? t = some i ∧ i.zero = some z ∧ i.size = s ∧ i.bytes = b ∧ z.cells.size = c := by
  cases hq : Try.prog.info? t with
  | none => rw [hq] at h; cases h
  | some i =>
    rw [hq] at h
    simp only [Option.map_some, Option.some.injEq, Prod.mk.injEq] at h
    cases hz : i.zero with
    | none => rw [hz] at h; simp at h
    | some z => rw [hz] at h; exact ⟨i, z, rfl, hz, h.2.1, h.2.2, by simpa using h.1⟩
/-- a kind out of closed facts -/
noncomputable def mkKind {α : Type} (enc : α → Array Value) (sz : Nat) (e t : TypeId) (bytes : Nat) (pos : 0 < sz) (hsz : ∀ x, (enc x).size = sz) (one : ∀ x, (enc x).all (·.oneCell') = true)
    (ht : Try.prog.underlying t = some (.slice e)) (h : (Try.prog.info? e).map (fun i => (i.zero.map (·.cells.size), i.size, i.bytes)) = some (some sz, sz, bytes)) : Kind α where
  enc := enc
  sz := sz
  e := e
  t := t
  bytes := bytes
  i := (info_all h).choose
  z := (info_all h).choose_spec.choose
  pos := pos
  hsz := hsz
  one := one
  ht := ht
  hi := (info_all h).choose_spec.choose_spec.1
  hz := (info_all h).choose_spec.choose_spec.2.1
  hs := (info_all h).choose_spec.choose_spec.2.2.1
  hb := (info_all h).choose_spec.choose_spec.2.2.2.1
  hzs := (info_all h).choose_spec.choose_spec.2.2.2.2

/-! ### items -/
/-- Id, Folder, Seq, the contact -/
abbrev It := Int × Int × Int × Con
def itA (x : It) : Array Value := #[.int .u32 x.1, .int .u32 x.2.1, .int .u64 x.2.2.1, .string x.2.2.2[0], .string x.2.2.2[1], .string x.2.2.2[2], .string x.2.2.2[3], .string x.2.2.2[4], .string x.2.2.2[5], .string x.2.2.2[6], .string x.2.2.2[7]]
def itZ : It := (0, 0, 0, none8)
section
variable (x : It)
theorem it_size : (itA x).size = 11 := rfl
theorem it_0 : (itA x)[0]? = some (.int .u32 x.1) := rfl
theorem it_1 : (itA x)[1]? = some (.int .u32 x.2.1) := rfl
theorem it_2 : (itA x)[2]? = some (.int .u64 x.2.2.1) := rfl
theorem it_3 : (itA x)[3]? = some (.string x.2.2.2[0]) := rfl
theorem it_4 : (itA x)[4]? = some (.string x.2.2.2[1]) := rfl
theorem it_5 : (itA x)[5]? = some (.string x.2.2.2[2]) := rfl
theorem it_6 : (itA x)[6]? = some (.string x.2.2.2[3]) := rfl
theorem it_7 : (itA x)[7]? = some (.string x.2.2.2[4]) := rfl
theorem it_8 : (itA x)[8]? = some (.string x.2.2.2[5]) := rfl
theorem it_9 : (itA x)[9]? = some (.string x.2.2.2[6]) := rfl
theorem it_10 : (itA x)[10]? = some (.string x.2.2.2[7]) := rfl
theorem it_set0 (a : Int) : (itA x).setIfInBounds 0 (.int .u32 a) = itA (a, x.2) := by simp [itA]
theorem it_set1 (a : Int) : (itA x).setIfInBounds 1 (.int .u32 a) = itA (x.1, a, x.2.2) := by simp [itA]
theorem it_set2 (a : Int) : (itA x).setIfInBounds 2 (.int .u64 a) = itA (x.1, x.2.1, a, x.2.2.2) := by simp [itA]
theorem it_one : (itA x).all (·.oneCell') = true := by simp [itA, Value.oneCell']
end
theorem it_fold (a b c : Int) (d : Con) : #[Value.int .u32 a, .int .u32 b, .int .u64 c, .string d[0], .string d[1], .string d[2], .string d[3], .string d[4], .string d[5], .string d[6], .string d[7]] = itA (a, b, c, d) := rfl
theorem it_zero : #[Value.int .u32 0, .int .u32 0, .int .u64 0, .string ⟨#[]⟩, .string ⟨#[]⟩, .string ⟨#[]⟩, .string ⟨#[]⟩, .string ⟨#[]⟩, .string ⟨#[]⟩, .string ⟨#[]⟩, .string ⟨#[]⟩] = itA itZ := rfl
theorem it_fillg (z0 z1 z2 z3 z4 z5 z6 z7 z8 z9 z10 : Value) (x : It) : Array.foldl (fun (cs : Array Value) (y : Value × Nat) => cs.setIfInBounds y.2 y.1) #[z0, z1, z2, z3, z4, z5, z6, z7, z8, z9, z10] (itA x).zipIdx 0 11 = itA x := by
  simp [itA, List.zipIdx]
theorem it_fill (x : It) : Array.foldl (fun (cs : Array Value) (y : Value × Nat) => cs.setIfInBounds y.2 y.1) #[(itA itZ)[0]!, (itA itZ)[1]!, (itA itZ)[2]!, (itA itZ)[3]!, (itA itZ)[4]!, (itA itZ)[5]!, (itA itZ)[6]!, (itA itZ)[7]!, (itA itZ)[8]!, (itA itZ)[9]!, (itA itZ)[10]!] (itA x).zipIdx 0 11 = itA x := it_fillg _ _ _ _ _ _ _ _ _ _ _ x
theorem it_eta (x : It) : (x.1, x.2.1, x.2.2.1, x.2.2.2) = x := rfl
theorem infoIt : (Try.prog.info? 28).map (·.size) = some 11 := by kernel_rfl
theorem infoIt2 : (Try.prog.info? 28).map (fun i => (i.zero.map (·.cells.size), i.size, i.bytes)) = some (some 11, 11, 144) := by kernel_rfl
noncomputable def KI : Kind It := mkKind itA 11 28 22 144 (by decide) it_size it_one Try.underlying22 infoIt2
theorem KI_enc : KI.enc = itA := rfl
theorem KI_sz : KI.sz = 11 := rfl
theorem KI_t : KI.t = 22 := rfl
theorem KI_e : KI.e = 28 := rfl
theorem KI_b : KI.bytes ≤ 4096 := by show 144 ≤ 4096; decide
theorem run_storeCells_it (w : World) (n : Nat) (x : It) (h : rowOk w n = true) (hs : (rowAt w n).size = 11) :
    (storeCells ⟨n, 0, none⟩ (itA x).toList).run Try.prog w = .ok () (w.setRow n (itA x)) :=
  run_storeCells_row w n (itA x) h hs (it_one x)
/-! ### numbers -/
def uA (x : Int) : Array Value := #[.int .u32 x]
theorem infoU2 : (Try.prog.info? 23).map (fun i => (i.zero.map (·.cells.size), i.size, i.bytes)) = some (some 1, 1, 4) := by kernel_rfl
noncomputable def KU : Kind Int := mkKind uA 1 23 43 4 (by decide) (fun _ => rfl) (fun _ => by simp [uA, Value.oneCell']) Try.underlying43 infoU2
theorem KU_enc (x : Int) : KU.enc x = #[.int .u32 x] := rfl
theorem KU_sz : KU.sz = 1 := rfl

/-- a function value that is a function of Go's text is entered -/
theorem call_go {g : FuncId} {fn : Func} (hf : Try.prog.funcs[g]? = some fn) (hname : (fn.name == "runtime.NumGoroutine") = false) (hb : fn.body.isNone = false) (args : Array Value) (w : World) :
    (callFunc g args).run Try.prog w = .ok (.enter g args) w := by
  unfold callFunc
  simp only [Sem.run_bind, run_program, Result.andThen_ok, hf, hname, hb, Bool.false_eq_true, if_false, Sem.run_pure]

theorem run_loadVar_it (w : World) (n : Nat) (x : It) (h : rowOk w n = true) (hs : rowAt w n = itA x) : (loadVar 28 ⟨n, 0, none⟩).run Try.prog w = .ok (.agg (itA x)) w := by
  obtain ⟨t', ht⟩ := rowOk_get w h
  rw [hs] at ht
  exact run_loadVar_row w n t' _ (itA x) (0, 0) _ ht Try.underlying28 rfl infoIt
/-- the end of a function whose results are an item in memory and a value -/
theorem results_it2 {fn : Func} {p u : Tmp} (h : fn.results = #[.cell p 28, .tmp u]) (tmps : Array Value) (w : World) (n : Nat) (x : It)
    (hp : tmps.getD p undef = .pointer (some ⟨n, 0, none⟩)) (hok : rowOk w n = true) (hc : rowAt w n = itA x) : (results fn tmps).run Try.prog w = .ok (.tuple #[.agg (itA x), tmps.getD u undef]) w := by
  rw [results_cell_tmp h, hp]
  simp only [asAddr, Sem.run_pure, Result.andThen_ok, run_loadVar_it w n x hok hc]
end Go.Proofs.Ytkgebhmlogddcaa
/- Arguments that are items, slices of items, slices of numbers: opened. -/
namespace Go.Proofs.Ytkgebhmlogddcaa
open Go.ChangeShapes Go.WideShapes Go.ChangeAt Go.RowKit
set_option linter.constructorNameAsVariable false

theorem KU_e : KU.e = 23 := rfl
theorem KU_t : KU.t = 43 := rfl
def OkI (x : It) : Prop := (Lit.int .u32 x.1).wf = true ∧ (Lit.int .u32 x.2.1).wf = true ∧ (Lit.int .u64 x.2.2.1).wf = true
theorem OkI.pos {x : It} (h : OkI x) : 0 ≤ x.1 := (bounds_u32 h.1).1
section
variable {H : Type} {enc : TypeId × Value → H} {w : World} {base : Nat} {spare : Nat → Bool} {held : Bool}
theorem list11 {cs : List Value} (hl : cs.length = 11) {a b c : Value} {d : Con} (h0 : (cs.drop 0).take 1 = [a]) (h1 : (cs.drop 1).take 1 = [b]) (h2 : (cs.drop 2).take 1 = [c]) (h3 : ((cs.drop 3).take 8).toArray = con d) :
    cs = [a, b, c, .string d[0], .string d[1], .string d[2], .string d[3], .string d[4], .string d[5], .string d[6], .string d[7]] := by
  match cs, hl with
  | [v0, v1, v2, v3, v4, v5, v6, v7, v8, v9, v10], _ =>
    simp at h0 h1 h2 h3
    simp [con] at h3
    simp [h0, h1, h2, h3]
theorem item_of_trod {fuel : Nat} {cs : List Value} {x : DataW H × List MemPlace} (h : DataW.trod enc Try.prog w base spare held fuel 28 cs = some x) : ∃ y : It, cs = (itA y).toList ∧ OkI y := by
  obtain ⟨xs, m, _, _, hl, hxl, hf⟩ := DataW.trod_struct Try.underlying28 h
  have hl' : cs.length = 11 := hl.trans (by kernel_rfl)
  have hxl' : xs.length = 4 := hxl
  have f0 := hf 0 _ rfl
  have f1 := hf 1 _ rfl
  have f2 := hf 2 _ rfl
  have f3 := hf 3 _ rfl
  rw [List.getElem?_eq_getElem (by omega)] at f0 f1 f2 f3
  obtain ⟨n0, e0, _, w0⟩ := DataW.trod_int Try.underlying23 f0
  obtain ⟨n1, e1, _, w1⟩ := DataW.trod_int Try.underlying23 f1
  obtain ⟨n2, e2, _, w2⟩ := DataW.trod_int Try.underlying24 f2
  obtain ⟨d, e3⟩ := con_of_trod Try.underlying26 Try.underlying9 (by kernel_rfl) (by kernel_rfl) f3
  have c1 : Try.prog.cellsOf 23 = 1 := by kernel_rfl
  have c2 : Try.prog.cellsOf 24 = 1 := by kernel_rfl
  have c8 : Try.prog.cellsOf 26 = 8 := by kernel_rfl
  exact ⟨(n0, n1, n2, d), list11 hl' (by simpa [c1] using e0) (by simpa [c1] using e1) (by simpa [c2] using e2) (by simpa [c8] using e3), w0, w1, w2⟩

theorem add_flat (b o i : Nat) : (⟨b, o, none⟩ : Addr).add i = ⟨b, o + i, none⟩ := by unfold Addr.add; split <;> simp_all
/-- a slice of whatever elements, each of which reads as one of a kind -/
theorem open_kind {α : Type} (K : Kind α) (ok : α → Prop) {te tt : TypeId} (hee : K.e = te) (htt : K.t = tt) (hsz : Try.prog.cellsOf K.e = K.sz) (he : ∀ {fuel : Nat} {cs : List Value} {x : DataW H × List MemPlace}, DataW.trod enc Try.prog w base spare held fuel te cs = some x → ∃ y : α, cs = (K.enc y).toList ∧ ok y)
    {v : Value} {d : DataW H} {ps : List MemPlace} (hval : ∃ a n c, v = .slice a n c) (h : DataW.Trod enc Try.prog w base spare held tt v d ps) :
    ∃ A n c l, v = .slice A n c ∧ n ≤ c ∧ K.Rd w A n l ∧ (∀ x ∈ l, ok x) ∧ ((n = 0 ∧ d = .nil) ∨ ∃ el sp, d = .slice el sp ∧ el.length = n) := by
  subst hee htt
  obtain ⟨a0, n0, c0, rfl⟩ := hval
  obtain ⟨fuel, hf⟩ := h
  rcases Deep.open_slice K.ht hf with ⟨hc, hx⟩ | ⟨a, len, cap, m, n, D, Pl, hc, hb, hle, hmax, hm, hx, hel⟩
  · have hc' : [Value.slice a0 n0 c0] = [Value.slice none 0 0] := by simpa [Value.cells] using hc
    injection hc' with hc' _
    injection hc' with e1 e2 e3
    subst e1; subst e2; subst e3
    exact ⟨none, 0, 0, [], rfl, Nat.le_refl _, Kind.Rd.none_, by simp, Or.inl ⟨rfl, congrArg Prod.fst hx⟩⟩
  · have hc' : [Value.slice a0 n0 c0] = [Value.slice (some a) len cap] := by simpa [Value.cells] using hc
    injection hc' with hc' _
    injection hc' with e1 e2 e3
    subst e1; subst e2; subst e3
    have hm0 : n0 ≤ m := by rw [hm]; split <;> omega
    have hall : ∀ i, i < n0 → ∃ y : α, w.cells? base (a.add (i * K.sz)) K.sz = some (K.enc y).toList ∧ ok y := by
      intro i hi
      obtain ⟨cs', h1, h2⟩ := hel i (by omega)
      obtain ⟨y, rfl, hy⟩ := he h2
      rw [hsz] at h1
      exact ⟨y, h1, hy⟩
    refine ⟨some a, n0, c0, (List.finRange n0).map fun i => Classical.choose (hall i.1 i.2), rfl, hle, ⟨by simp, fun h0 => ?_⟩, ?_, Or.inr ⟨_, _, congrArg Prod.fst hx, by simp⟩⟩
    · obtain ⟨y0, hy0, _⟩ := hall 0 h0
      have hpos := K.pos
      obtain ⟨_, hl0, hc0⟩ := World.cells?_some hy0
      have g0 := hc0 0 hpos
      rw [List.getElem?_eq_getElem (by omega)] at g0
      obtain ⟨blk, off, spot⟩ := a
      have hspot : spot = none := by simpa [Addr.add] using World.cell?_spot g0
      subst hspot
      have hblk : blk < w.heap.size := by
        have := World.block_lt_of_cell? w _ g0
        simpa [Addr.add] using this
      refine ⟨blk, off, rfl, hblk, fun k hk j hj => ?_⟩
      have hk' : k < n0 := by simpa using hk
      have hs := (Classical.choose_spec (hall k hk')).1
      obtain ⟨_, _, hcell⟩ := World.cells?_some hs
      have hj' := hcell j hj
      rw [Deep.add_add, add_flat, ← Nat.add_assoc] at hj'
      rw [hj']
      simp
    · intro x hx2
      obtain ⟨i, _, rfl⟩ := List.mem_map.1 hx2
      exact (Classical.choose_spec (hall i.1 i.2)).2
theorem sized_kind {P : Program} {ts : List TypeId} {ds : List (DataW H)} (h : (DataW.weightsEach P ts ds).all (· ≤ reachBytes) = true) {j : Nat} {t e : TypeId} {d : DataW H} {n : Nat} (ht : ts[j]? = some t) (hd : ds[j]? = some d) (hu : P.underlying t = some (.slice e)) (hb : 1 ≤ P.bytesOf e)
    (hn : (n = 0 ∧ d = .nil) ∨ ∃ el sp, d = .slice el sp ∧ el.length = n) : n ≤ 140737488355328 := by
  rcases hn with ⟨rfl, _⟩ | ⟨el, sp, rfl, rfl⟩
  · omega
  · have := sized_slice h ht hd hu
    have h2 := reachBytes_lt
    have h3 : el.length + sp.length ≤ (el.length + sp.length) * P.bytesOf e := Nat.le_mul_of_pos_right _ hb
    omega
set_option maxRecDepth 100000 in
theorem open_items {r : Reach} {b0 : Nat} {v : Value} {d : DataW H} {p : List MemPlace} (hv : Value.okWide Try.prog w r b0 22 v) (h : DataW.Trod enc Try.prog w base spare held 22 v d p) :
    ∃ A n c l, v = .slice A n c ∧ n ≤ c ∧ KI.Rd w A n l ∧ (∀ x ∈ l, OkI x) ∧ ((n = 0 ∧ d = .nil) ∨ ∃ el sp, d = .slice el sp ∧ el.length = n) :=
  by
  have hs := Go.WideShapes.okWide_slice (P := Try.prog) (w := w) (r := r) (base := b0) (v := v) Try.underlying22 hv
  have hc : Try.prog.cellsOf KI.e = KI.sz := by rw [KI_e, KI_sz]; kernel_rfl
  exact open_kind KI OkI KI_e KI_t hc (fun h => by rw [KI_enc]; exact item_of_trod h) hs h
set_option maxRecDepth 100000 in
theorem open_u32s {r : Reach} {b0 : Nat} {v : Value} {d : DataW H} {p : List MemPlace} (hv : Value.okWide Try.prog w r b0 43 v) (h : DataW.Trod enc Try.prog w base spare held 43 v d p) :
    ∃ A n c l, v = .slice A n c ∧ n ≤ c ∧ KU.Rd w A n l ∧ (∀ x ∈ l, (Lit.int .u32 x).wf = true) ∧ ((n = 0 ∧ d = .nil) ∨ ∃ el sp, d = .slice el sp ∧ el.length = n) :=
  by
  have hs := Go.WideShapes.okWide_slice (P := Try.prog) (w := w) (r := r) (base := b0) (v := v) Try.underlying43 hv
  have hc : Try.prog.cellsOf KU.e = KU.sz := by rw [KU_e, KU_sz]; kernel_rfl
  exact open_kind KU (fun x => (Lit.int .u32 x).wf = true) KU_e KU_t hc (fun h => by obtain ⟨n, rfl, _, hw⟩ := DataW.trod_int Try.underlying23 h; exact ⟨n, by rw [KU_enc], hw⟩) hs h
theorem open_item {r : Reach} {b0 : Nat} {v : Value} {d : DataW H} {p : List MemPlace} (hv : Value.okWide Try.prog w r b0 28 v) (h : DataW.Trod enc Try.prog w base spare held 28 v d p) : ∃ x : It, v = .agg (itA x) ∧ OkI x := by
  simp only [Value.okWide, Try.underlying28] at hv
  obtain ⟨cs, rfl, _, _⟩ := hv
  obtain ⟨fuel, hf⟩ := h
  obtain ⟨x, hx, hok⟩ := item_of_trod hf
  have hx' : cs.toList = (itA x).toList := by simpa [Value.cells] using hx
  exact ⟨x, by rw [Array.toList_inj.1 hx'], hok⟩
end
end Go.Proofs.Ytkgebhmlogddcaa
/- '==' of items: one Bool. No condition. -/
namespace Go.Proofs.Ytkgebhmlogddcaa
open Go.RowKit
section
variable {P : Program} {d : Nat} {xs ys : Array Value} {f : Field} {fs : List Field} {a b : Value} {r s : Bool} {w : World}
theorem eqf_cons (hn : (f.name == "_") = false) (ha : (part f.type xs f.offset).run P w = .ok a w) (hb : (part f.type ys f.offset).run P w = .ok b w) (he : (Op.equalIn d f.type a b).run P w = .ok r w) (hr : (Op.eqFields d xs ys fs).run P w = .ok s w) : (Op.eqFields d xs ys (f :: fs)).run P w = .ok (r && s) w := by
  have hn' : f.name ≠ "_" := by simpa using hn
  rw [Op.eqFields]
  simp only [if_pos hn', Sem.run_bind, ha, hb, he, Result.andThen_ok]
  cases r
  · simp
  · simpa using hr
theorem eqf_nil : (Op.eqFields d xs ys []).run P w = .ok true w := by simp [Op.eqFields]
theorem eqA_of {t : TypeId} {fs : Array Field} (hu : P.underlying t = some (.struct fs)) (hp : P.stoodInHeld t = false) (h : (Op.eqFields d xs ys fs.toList).run P w = .ok r w) : (Op.equalIn (d + 1) t (.agg xs) (.agg ys)).run P w = .ok r w := by
  have hf : P.fieldsOf t = fs := by simp [Program.fieldsOf, hu]
  rw [run_equalIn_struct (P := P) w d t xs ys (by rw [hf]; exact hu) hp, hf]
  exact h
theorem part_int {t : TypeId} {k : IntKind} (h : P.underlying t = some (.int k)) (cs : Array Value) (o : Nat) (v : Value) (hv : cs[o]? = some v) : (part t cs o).run P w = .ok v w := by
  have hagg : (isAgg t).run P w = .ok false w := by unfold isAgg; rw [Sem.run_bind, run_underlying h w]; simp
  simp [part, Sem.run_bind, hagg, hv]
theorem part_arr {t e : TypeId} {n m : Nat} (h : P.underlying t = some (.array n e)) (hz : (P.info? t).map (·.size) = some m) (cs : Array Value) (o : Nat) : (part t cs o).run P w = .ok (.agg (cs.extract o (o + m))) w := by
  have hagg : (isAgg t).run P w = .ok true w := by unfold isAgg; rw [Sem.run_bind, run_underlying h w]; simp
  have hsz : (sizeOf t).run P w = .ok m w := by
    cases hq : P.info? t with
    | none => simp [hq] at hz
    | some i => simp [hq] at hz; simp [sizeOf, typeInfo, hq, hz]
  simp [part, Sem.run_bind, hagg, hsz]
end
theorem it_con (x : It) : (itA x).extract 3 (3 + 8) = con x.2.2.2 := by
  obtain ⟨a, b, c, d⟩ := x
  apply Array.ext
  · simp [itA, con]
  · intro i h1 h2
    have hi : i < 8 := by simpa [itA] using h1
    match i, hi with
    | 0, _ => simp [itA, con]
    | 1, _ => simp [itA, con]
    | 2, _ => simp [itA, con]
    | 3, _ => simp [itA, con]
    | 4, _ => simp [itA, con]
    | 5, _ => simp [itA, con]
    | 6, _ => simp [itA, con]
    | 7, _ => simp [itA, con]
theorem it_eq_bool (x y : It) : ((x.1 == y.1) && ((x.2.1 == y.2.1) && ((x.2.2.1 == y.2.2.1) && (decide (x.2.2.2 = y.2.2.2) && true)))) = decide (x = y) := by
  obtain ⟨a, b, c, d⟩ := x
  obtain ⟨a', b', c', d'⟩ := y
  rw [Bool.eq_iff_iff]
  simp
theorem equalIn_it (w : World) (x y : It) : (Op.equalIn 10000 28 (.agg (itA x)) (.agg (itA y))).run Try.prog w = .ok (decide (x = y)) w := by
  have h := eqA_of (d := 9999) (xs := itA x) (ys := itA y) (w := w) Try.underlying28 (by kernel_rfl) (r := ((x.1 == y.1) && ((x.2.1 == y.2.1) && ((x.2.2.1 == y.2.2.1) && (decide (x.2.2.2 = y.2.2.2) && true)))))
    (eqf_cons (by decide) (part_int Try.underlying23 _ _ _ (it_0 x)) (part_int Try.underlying23 _ _ _ (it_0 y)) (run_equalIn_int w 9998 _ _ _ _ _ Try.underlying23)
    (eqf_cons (by decide) (part_int Try.underlying23 _ _ _ (it_1 x)) (part_int Try.underlying23 _ _ _ (it_1 y)) (run_equalIn_int w 9998 _ _ _ _ _ Try.underlying23)
    (eqf_cons (by decide) (part_int Try.underlying24 _ _ _ (it_2 x)) (part_int Try.underlying24 _ _ _ (it_2 y)) (run_equalIn_int w 9998 _ _ _ _ _ Try.underlying24)
    (eqf_cons (by decide) (part_arr Try.underlying26 infoCon _ _) (part_arr Try.underlying26 infoCon _ _) (by
      have h := run_equalIn_con w 9997 _ _ Try.underlying26 Try.underlying9 infoStr x.2.2.2 y.2.2.2
      rw [← it_con x, ← it_con y] at h
      exact h) eqf_nil))))
  rw [h, it_eq_bool]
theorem eqg_it : Try.prog.eqGuardType Try.prog.depth 28 = false := by kernel_rfl
end Go.Proofs.Ytkgebhmlogddcaa
/- What a device was told (Id, Seq): as a value and as a kind of elements. No condition: helpers alone. -/
namespace Go.Proofs.Ytkgebhmlogddcaa
open Go.RowKit

/-- Id, Seq -/
abbrev Sn := Int × Int
def snA (x : Sn) : Array Value := #[.int .u32 x.1, .int .u64 x.2]
def snZ : Sn := (0, 0)
section
variable (x : Sn)
theorem sn_size : (snA x).size = 2 := rfl
theorem sn_0 : (snA x)[0]? = some (.int .u32 x.1) := rfl
theorem sn_1 : (snA x)[1]? = some (.int .u64 x.2) := rfl
theorem sn_set0 (a : Int) : (snA x).setIfInBounds 0 (.int .u32 a) = snA (a, x.2) := by simp [snA]
theorem sn_set1 (a : Int) : (snA x).setIfInBounds 1 (.int .u64 a) = snA (x.1, a) := by simp [snA]
theorem sn_one : (snA x).all (·.oneCell') = true := by simp [snA, Value.oneCell']
end
theorem sn_fold (a b : Int) : #[Value.int .u32 a, .int .u64 b] = snA (a, b) := rfl
theorem sn_zero : #[Value.int .u32 0, .int .u64 0] = snA snZ := rfl
theorem sn_fillg (z0 z1 : Value) (x : Sn) : Array.foldl (fun (cs : Array Value) (y : Value × Nat) => cs.setIfInBounds y.2 y.1) #[z0, z1] (snA x).zipIdx 0 2 = snA x := by
  simp [snA, List.zipIdx]
theorem sn_fill (x : Sn) : Array.foldl (fun (cs : Array Value) (y : Value × Nat) => cs.setIfInBounds y.2 y.1) #[(snA (0, 0))[0]!, (snA (0, 0))[1]!] (snA x).zipIdx 0 2 = snA x := sn_fillg _ _ x
theorem sn_eta (x : Sn) : snA (x.1, x.2) = snA x := rfl
theorem infoSn : (Try.prog.info? 68).map (·.size) = some 2 := by kernel_rfl
theorem infoSn2 : (Try.prog.info? 68).map (fun i => (i.zero.map (·.cells.size), i.size, i.bytes)) = some (some 2, 2, 16) := by kernel_rfl
noncomputable def KS : Kind Sn := mkKind snA 2 68 46 16 (by decide) sn_size sn_one Try.underlying46 infoSn2
theorem KS_enc : KS.enc = snA := rfl
theorem KS_sz : KS.sz = 2 := rfl
theorem KS_t : KS.t = 46 := rfl
theorem KS_e : KS.e = 68 := rfl
theorem KS_b : KS.bytes ≤ 4096 := by show 16 ≤ 4096; decide
theorem run_storeCells_sn (w : World) (n : Nat) (x : Sn) (h : rowOk w n = true) (hs : (rowAt w n).size = 2) :
    (storeCells ⟨n, 0, none⟩ (snA x).toList).run Try.prog w = .ok () (w.setRow n (snA x)) :=
  run_storeCells_row w n (snA x) h hs (sn_one x)
theorem sn_eq_bool (x y : Sn) : ((x.1 == y.1) && ((x.2 == y.2) && true)) = decide (x = y) := by
  obtain ⟨a, b⟩ := x
  obtain ⟨a', b'⟩ := y
  rw [Bool.eq_iff_iff]
  simp
theorem equalIn_sn (w : World) (x y : Sn) : (Op.equalIn 10000 68 (.agg (snA x)) (.agg (snA y))).run Try.prog w = .ok (decide (x = y)) w := by
  have h := eqA_of (d := 9999) (xs := snA x) (ys := snA y) (w := w) Try.underlying68 (by kernel_rfl) (r := ((x.1 == y.1) && ((x.2 == y.2) && true)))
    (eqf_cons (by decide) (part_int Try.underlying23 _ _ _ (sn_0 x)) (part_int Try.underlying23 _ _ _ (sn_0 y)) (run_equalIn_int w 9998 _ _ _ _ _ Try.underlying23)
    (eqf_cons (by decide) (part_int Try.underlying24 _ _ _ (sn_1 x)) (part_int Try.underlying24 _ _ _ (sn_1 y)) (run_equalIn_int w 9998 _ _ _ _ _ Try.underlying24)
    eqf_nil))
  rw [h, sn_eq_bool]
theorem eqg_sn : Try.prog.eqGuardType Try.prog.depth 68 = false := by kernel_rfl
end Go.Proofs.Ytkgebhmlogddcaa
/- Operations, and what is known of a device's synchronisation: as values, and operations as a kind of elements. No condition: helpers alone. -/
namespace Go.Proofs.Ytkgebhmlogddcaa
open Go.RowKit

/-- Kind, Client, Id, Given, the contact -/
abbrev Opr := Int × Int × Int × Int × Con
def opA (x : Opr) : Array Value := #[.int .u8 x.1, .int .u32 x.2.1, .int .u32 x.2.2.1, .int .u8 x.2.2.2.1, .string x.2.2.2.2[0], .string x.2.2.2.2[1], .string x.2.2.2.2[2], .string x.2.2.2.2[3], .string x.2.2.2.2[4], .string x.2.2.2.2[5], .string x.2.2.2.2[6], .string x.2.2.2.2[7]]
def opZ : Opr := (0, 0, 0, 0, none8)
section
variable (x : Opr)
theorem op_size : (opA x).size = 12 := rfl
theorem op_0 : (opA x)[0]? = some (.int .u8 x.1) := rfl
theorem op_1 : (opA x)[1]? = some (.int .u32 x.2.1) := rfl
theorem op_2 : (opA x)[2]? = some (.int .u32 x.2.2.1) := rfl
theorem op_3 : (opA x)[3]? = some (.int .u8 x.2.2.2.1) := rfl
theorem op_4 : (opA x)[4]? = some (.string x.2.2.2.2[0]) := rfl
theorem op_5 : (opA x)[5]? = some (.string x.2.2.2.2[1]) := rfl
theorem op_6 : (opA x)[6]? = some (.string x.2.2.2.2[2]) := rfl
theorem op_7 : (opA x)[7]? = some (.string x.2.2.2.2[3]) := rfl
theorem op_8 : (opA x)[8]? = some (.string x.2.2.2.2[4]) := rfl
theorem op_9 : (opA x)[9]? = some (.string x.2.2.2.2[5]) := rfl
theorem op_10 : (opA x)[10]? = some (.string x.2.2.2.2[6]) := rfl
theorem op_11 : (opA x)[11]? = some (.string x.2.2.2.2[7]) := rfl
theorem op_one : (opA x).all (·.oneCell') = true := by simp [opA, Value.oneCell']
end
theorem op_fold (a b c d : Int) (e : Con) : #[Value.int .u8 a, .int .u32 b, .int .u32 c, .int .u8 d, .string e[0], .string e[1], .string e[2], .string e[3], .string e[4], .string e[5], .string e[6], .string e[7]] = opA (a, b, c, d, e) := rfl
theorem op_fold0 (a b c d : Int) : #[Value.int .u8 a, .int .u32 b, .int .u32 c, .int .u8 d, .string ⟨#[]⟩, .string ⟨#[]⟩, .string ⟨#[]⟩, .string ⟨#[]⟩, .string ⟨#[]⟩, .string ⟨#[]⟩, .string ⟨#[]⟩, .string ⟨#[]⟩] = opA (a, b, c, d, none8) := rfl
theorem op_fillg (z0 z1 z2 z3 z4 z5 z6 z7 z8 z9 z10 z11 : Value) (x : Opr) : Array.foldl (fun (cs : Array Value) (y : Value × Nat) => cs.setIfInBounds y.2 y.1) #[z0, z1, z2, z3, z4, z5, z6, z7, z8, z9, z10, z11] (opA x).zipIdx 0 12 = opA x := by
  simp [opA, List.zipIdx]
theorem op_fill (x : Opr) : Array.foldl (fun (cs : Array Value) (y : Value × Nat) => cs.setIfInBounds y.2 y.1) #[(opA opZ)[0]!, (opA opZ)[1]!, (opA opZ)[2]!, (opA opZ)[3]!, (opA opZ)[4]!, (opA opZ)[5]!, (opA opZ)[6]!, (opA opZ)[7]!, (opA opZ)[8]!, (opA opZ)[9]!, (opA opZ)[10]!, (opA opZ)[11]!] (opA x).zipIdx 0 12 = opA x := op_fillg _ _ _ _ _ _ _ _ _ _ _ _ x
theorem op_fillz (x : Opr) : Array.foldl (fun (cs : Array Value) (y : Value × Nat) => cs.setIfInBounds y.2 y.1) #[(opA (0, 0, 0, 0, none8))[0]!, (opA (0, 0, 0, 0, none8))[1]!, (opA (0, 0, 0, 0, none8))[2]!, (opA (0, 0, 0, 0, none8))[3]!, (opA (0, 0, 0, 0, none8))[4]!, (opA (0, 0, 0, 0, none8))[5]!, (opA (0, 0, 0, 0, none8))[6]!, (opA (0, 0, 0, 0, none8))[7]!, (opA (0, 0, 0, 0, none8))[8]!, (opA (0, 0, 0, 0, none8))[9]!, (opA (0, 0, 0, 0, none8))[10]!, (opA (0, 0, 0, 0, none8))[11]!] (opA x).zipIdx 0 12 = opA x := op_fillg _ _ _ _ _ _ _ _ _ _ _ _ x
theorem op_set0 (x : Opr) (a : Int) : (opA x).setIfInBounds 0 (.int .u8 a) = opA (a, x.2) := by simp [opA]
theorem op_set1 (x : Opr) (a : Int) : (opA x).setIfInBounds 1 (.int .u32 a) = opA (x.1, a, x.2.2) := by simp [opA]
theorem op_set2 (x : Opr) (a : Int) : (opA x).setIfInBounds 2 (.int .u32 a) = opA (x.1, x.2.1, a, x.2.2.2) := by simp [opA]
theorem op_set3 (x : Opr) (a : Int) : (opA x).setIfInBounds 3 (.int .u8 a) = opA (x.1, x.2.1, x.2.2.1, a, x.2.2.2.2) := by simp [opA]
theorem op_ne (x : Opr) : (opA x = #[]) = False := by simp [opA]
theorem op_fillC (x : Opr) (c : Con) : Array.foldl (fun (cs : Array Value) (y : Value × Nat) => cs.setIfInBounds (4 + y.2) y.1) (opA x) (con c).zipIdx 0 8 = opA (x.1, x.2.1, x.2.2.1, x.2.2.2.1, c) := by
  simp [opA, con, List.zipIdx]
theorem op_eta (x : Opr) : opA (x.1, x.2.1, x.2.2.1, x.2.2.2.1, x.2.2.2.2) = opA x := rfl
theorem infoOp : (Try.prog.info? 48).map (·.size) = some 12 := by kernel_rfl
theorem infoOp2 : (Try.prog.info? 48).map (fun i => (i.zero.map (·.cells.size), i.size, i.bytes)) = some (some 12, 12, 144) := by kernel_rfl
noncomputable def KO : Kind Opr := mkKind opA 12 48 71 144 (by decide) op_size op_one Try.underlying71 infoOp2
theorem KO_enc : KO.enc = opA := rfl
theorem KO_sz : KO.sz = 12 := rfl
theorem KO_t : KO.t = 71 := rfl
theorem KO_e : KO.e = 48 := rfl
theorem KO_b : KO.bytes ≤ 4096 := by show 144 ≤ 4096; decide
theorem run_storeCells_op (w : World) (n : Nat) (x : Opr) (h : rowOk w n = true) (hs : (rowAt w n).size = 12) :
    (storeCells ⟨n, 0, none⟩ (opA x).toList).run Try.prog w = .ok () (w.setRow n (opA x)) :=
  run_storeCells_row w n (opA x) h hs (op_one x)
theorem op_con (x : Opr) : (opA x).extract 4 12 = con x.2.2.2.2 := by
  obtain ⟨a, b, c, d, e⟩ := x
  apply Array.ext
  · simp [opA, con]
  · intro i h1 h2
    have hi : i < 8 := by simpa [opA] using h1
    match i, hi with
    | 0, _ | 1, _ | 2, _ | 3, _ | 4, _ | 5, _ | 6, _ | 7, _ => simp [opA, con]

theorem it_extr (x : It) : (itA x).extract 3 11 = con x.2.2.2 := by
  obtain ⟨a, b, c, d⟩ := x
  apply Array.ext
  · simp [itA, con]
  · intro i h1 h2
    have hi : i < 8 := by simpa [itA] using h1
    match i, hi with
    | 0, _ | 1, _ | 2, _ | 3, _ | 4, _ | 5, _ | 6, _ | 7, _ => simp [itA, con]
/-! ### what is known of a device's synchronisation -/
abbrev Sli := Option Addr × Nat × Nat
abbrev Gn := Int × Sli × Sli × Int × Sli × Sli × Sli × Sli × Bool × Int × Int
def sl (s : Sli) : Value := .slice s.1 s.2.1 s.2.2
def gnA (x : Gn) : Array Value :=
  match x with
  | (k, v, c, k2, v2, c2, rq, rp, li, su, wi) => #[.int .u32 k, sl v, sl c, .int .u32 k2, sl v2, sl c2, sl rq, sl rp, .bool li, .int .u8 su, .int .u8 wi]
def gnLi (x : Gn) : Bool := x.2.2.2.2.2.2.2.2.1
def gnSu (x : Gn) : Int := x.2.2.2.2.2.2.2.2.2.1
def gnWi (x : Gn) : Int := x.2.2.2.2.2.2.2.2.2.2
theorem gn_size (x : Gn) : (gnA x).size = 11 := rfl
theorem gn_8 (x : Gn) : (gnA x)[8]? = some (.bool (gnLi x)) := rfl
theorem gn_9 (x : Gn) : (gnA x)[9]? = some (.int .u8 (gnSu x)) := rfl
theorem gn_10 (x : Gn) : (gnA x)[10]? = some (.int .u8 (gnWi x)) := rfl
theorem gn_0 (x : Gn) : (gnA x)[0]? = some (.int .u32 x.1) := rfl
theorem gn_1 (x : Gn) : (gnA x)[1]? = some (sl x.2.1) := rfl
theorem gn_2 (x : Gn) : (gnA x)[2]? = some (sl x.2.2.1) := rfl
theorem gn_3 (x : Gn) : (gnA x)[3]? = some (.int .u32 x.2.2.2.1) := rfl
theorem gn_4 (x : Gn) : (gnA x)[4]? = some (sl x.2.2.2.2.1) := rfl
theorem gn_5 (x : Gn) : (gnA x)[5]? = some (sl x.2.2.2.2.2.1) := rfl
theorem gn_6 (x : Gn) : (gnA x)[6]? = some (sl x.2.2.2.2.2.2.1) := rfl
theorem gn_7 (x : Gn) : (gnA x)[7]? = some (sl x.2.2.2.2.2.2.2.1) := rfl
theorem gn_fold (x : Gn) : #[Value.int .u32 x.1, sl x.2.1, sl x.2.2.1, .int .u32 x.2.2.2.1, sl x.2.2.2.2.1, sl x.2.2.2.2.2.1, sl x.2.2.2.2.2.2.1, sl x.2.2.2.2.2.2.2.1, .bool (gnLi x), .int .u8 (gnSu x), .int .u8 (gnWi x)] = gnA x := rfl
theorem gn_one (x : Gn) : (gnA x).all (·.oneCell') = true := by simp [gnA, Value.oneCell', sl]
/-- one element more behind a row of the call's own: where the new row lies -/
theorem Kind.run_append1A {α : Type} {Kd : Kind α} {w : World} {base g : Nat} {v : Value} {l : List α} (ty : TypeId) (hown : Kd.Own w base v l) (y : α) (hr : rowOk w g = true) (hy : rowAt w g = Kd.enc y) (h63 : l.length + 1 ≤ 1048576) (hbytes : Kd.bytes ≤ 4096) (hbase : base ≤ w.heap.size) :
    ∃ v' w', (Builtin.append_ #[Kd.t, Kd.t] ty #[v, .slice (some ⟨g, 0, none⟩) 1 1]).run Try.prog w = .ok v' w' ∧ Kd.Own w' base v' (l ++ [y]) ∧ w.grownBy w' v.ownBlock ∧ (v'.ownBlock = v.ownBlock ∨ v'.ownBlock = some w.heap.size) := by
  have h1 : (l.length + 1) * Kd.bytes ≤ 1048576 * 4096 := Nat.mul_le_mul h63 hbytes
  obtain ⟨v', w', hrun, h2, h3, _, h5⟩ := run_append_own_at (P := Try.prog) w base Kd.t ty Kd.e Kd.i Kd.z Kd.sz Kd.bytes Kd.ht Kd.hi Kd.hz Kd.hs Kd.hb Kd.hzs Kd.pos v l.length (Kd.flat l) hown ⟨g, 0, none⟩ 1 1 (Kd.enc y).toList (by simp [Kd.hsz]) (by
      intro j u hu
      have hadd : (⟨g, 0, none⟩ : Addr).add j = ⟨g, j, none⟩ := by unfold Addr.add; split <;> simp_all
      rw [hadd, cell_rowOk w hr, hy]
      simpa using hu) (fun u hu => (Array.all_eq_true_iff_forall_mem.1 (Kd.one y)) u (by simpa using hu)) (by simp only [maxLen]; omega) (by omega) hbase
  exact ⟨v', w', hrun, by unfold Kind.Own; rw [Kd.flat_append, Kd.flat_one, List.length_append]; exact h2, h3, h5⟩
/-- the same, as a step of a region that draws -/
theorem Kind.step_append1 {α : Type} {Kd : Kind α} {w : World} {base : Nat} {v : Value} {l : List α} {ops : Array Oper} {o : Oper} {a : Act} {K : Act → World → Prop} {Q : Exit → Act → World → Prop} {E : Prop} (hgd : o.guard = none) (s x : Operand)
    (ho : o.op = .call { callee := .builtin .append, args := #[s, x], argTypes := #[Kd.t, Kd.t] }) (hs : a.eval s = v) (hown : Kd.Own w base v l)
    (y : α) (g : Nat) (hx : a.eval x = .slice (some ⟨g, 0, none⟩) 1 1) (hr : rowOk w g = true) (hy : rowAt w g = Kd.enc y)
    (h63 : l.length + 1 ≤ 1048576) (hbytes : Kd.bytes ≤ 4096) (hbase : base ≤ w.heap.size)
    (h : ∀ v' w', Kd.Own w' base v' (l ++ [y]) → w.grownBy w' v.ownBlock → (v'.ownBlock = v.ownBlock ∨ v'.ownBlock = some w.heap.size) → K (a.put o.dst v') w') : if Region.wanted o (yielded ops a.tmps) = true then Oper.wp Try.prog o a w K Q else E := by
  obtain ⟨v', w', hrun, h2, h3, h4⟩ := Kind.run_append1A o.type hown y hr hy h63 hbytes hbase
  have hw : Region.wanted o (yielded ops a.tmps) = true := by simp [Region.wanted, hgd]
  rw [if_pos hw]
  unfold Oper.wp execOp
  simp only [ho, resolve, invoke, builtin, Sem.run_bind, Sem.run_pure, Result.andThen_ok, List.map_toArray, List.map_cons, List.map_nil, hs, hx, hrun]
  exact h v' w' h2 h3 h4
/-- a row of another block than the one that has grown is as it was -/
theorem Kind.Own.far {α : Type} {Kd : Kind α} {w w' : World} {base n c g : Nat} {l : List α} (h : Kd.Own w base (.slice (some ⟨g, 0, none⟩) n c) l) {row : Option Nat} (hg : w.grownBy w' row) (hne : row ≠ some g) : Kd.Own w' base (.slice (some ⟨g, 0, none⟩) n c) l :=
  World.ownsRow.kept h hg (.inr (fun e => hne e.symm))
end Go.Proofs.Ytkgebhmlogddcaa
/- Arguments that are views, operations, what is known of a device's synchronisation: opened. -/
namespace Go.Proofs.Ytkgebhmlogddcaa
open Go.ChangeShapes Go.WideShapes Go.ChangeAt Go.RowKit
set_option linter.constructorNameAsVariable false

def OkS (x : Sn) : Prop := (Lit.int .u32 x.1).wf = true ∧ (Lit.int .u64 x.2).wf = true
theorem OkS.pos {x : Sn} (h : OkS x) : 0 ≤ x.1 := (bounds_u32 h.1).1
def OkO (x : Opr) : Prop := (Lit.int .u8 x.1).wf = true ∧ (Lit.int .u32 x.2.1).wf = true ∧ (Lit.int .u32 x.2.2.1).wf = true ∧ (Lit.int .u8 x.2.2.2.1).wf = true
def OkG (x : Gn) : Prop := (Lit.int .u8 (gnSu x)).wf = true ∧ (Lit.int .u8 (gnWi x)).wf = true
section
variable {H : Type} {enc : TypeId × Value → H} {w : World} {base : Nat} {spare : Nat → Bool} {held : Bool}
theorem list2 {cs : List Value} (hl : cs.length = 2) {a b : Value} (h0 : (cs.drop 0).take 1 = [a]) (h1 : (cs.drop 1).take 1 = [b]) : cs = [a, b] := by
  match cs, hl with
  | [v0, v1], _ => simp at h0 h1; simp [h0, h1]
theorem seen_of_trod {fuel : Nat} {cs : List Value} {x : DataW H × List MemPlace} (h : DataW.trod enc Try.prog w base spare held fuel 68 cs = some x) : ∃ y : Sn, cs = (snA y).toList ∧ OkS y := by
  obtain ⟨xs, m, _, _, hl, hxl, hf⟩ := DataW.trod_struct Try.underlying68 h
  have hl' : cs.length = 2 := hl.trans (by kernel_rfl)
  have hxl' : xs.length = 2 := hxl
  have f0 := hf 0 _ rfl
  have f1 := hf 1 _ rfl
  rw [List.getElem?_eq_getElem (by omega)] at f0 f1
  obtain ⟨n0, e0, _, w0⟩ := DataW.trod_int Try.underlying23 f0
  obtain ⟨n1, e1, _, w1⟩ := DataW.trod_int Try.underlying24 f1
  have c1 : Try.prog.cellsOf 23 = 1 := by kernel_rfl
  have c2 : Try.prog.cellsOf 24 = 1 := by kernel_rfl
  exact ⟨(n0, n1), list2 hl' (by simpa [c1] using e0) (by simpa [c2] using e1), w0, w1⟩
set_option maxRecDepth 100000 in
theorem open_seens {r : Reach} {b0 : Nat} {v : Value} {d : DataW H} {p : List MemPlace} (hv : Value.okWide Try.prog w r b0 46 v) (h : DataW.Trod enc Try.prog w base spare held 46 v d p) :
    ∃ A n c l, v = .slice A n c ∧ n ≤ c ∧ KS.Rd w A n l ∧ (∀ x ∈ l, OkS x) ∧ ((n = 0 ∧ d = .nil) ∨ ∃ el sp, d = .slice el sp ∧ el.length = n) :=
  by
  have hs := Go.WideShapes.okWide_slice (P := Try.prog) (w := w) (r := r) (base := b0) (v := v) Try.underlying46 hv
  have hc : Try.prog.cellsOf KS.e = KS.sz := by rw [KS_e, KS_sz]; kernel_rfl
  exact open_kind KS OkS KS_e KS_t hc (fun h => by rw [KS_enc]; exact seen_of_trod h) hs h
theorem list12 {cs : List Value} (hl : cs.length = 12) {a b c e : Value} {d : Con} (h0 : (cs.drop 0).take 1 = [a]) (h1 : (cs.drop 1).take 1 = [b]) (h2 : (cs.drop 2).take 1 = [c]) (h3 : (cs.drop 3).take 1 = [e]) (h4 : ((cs.drop 4).take 8).toArray = con d) :
    cs = [a, b, c, e, .string d[0], .string d[1], .string d[2], .string d[3], .string d[4], .string d[5], .string d[6], .string d[7]] := by
  match cs, hl with
  | [v0, v1, v2, v3, v4, v5, v6, v7, v8, v9, v10, v11], _ =>
    simp at h0 h1 h2 h3 h4
    simp [con] at h4
    simp [h0, h1, h2, h3, h4]
theorem op_of_trod {fuel : Nat} {cs : List Value} {x : DataW H × List MemPlace} (h : DataW.trod enc Try.prog w base spare held fuel 48 cs = some x) : ∃ y : Opr, cs = (opA y).toList ∧ OkO y := by
  obtain ⟨xs, m, _, _, hl, hxl, hf⟩ := DataW.trod_struct Try.underlying48 h
  have hl' : cs.length = 12 := hl.trans (by kernel_rfl)
  have hxl' : xs.length = 5 := hxl
  have f0 := hf 0 _ rfl
  have f1 := hf 1 _ rfl
  have f2 := hf 2 _ rfl
  have f3 := hf 3 _ rfl
  have f4 := hf 4 _ rfl
  rw [List.getElem?_eq_getElem (by omega)] at f0 f1 f2 f3 f4
  obtain ⟨n0, e0, _, w0⟩ := DataW.trod_int Try.underlying5 f0
  obtain ⟨n1, e1, _, w1⟩ := DataW.trod_int Try.underlying23 f1
  obtain ⟨n2, e2, _, w2⟩ := DataW.trod_int Try.underlying23 f2
  obtain ⟨n3, e3, _, w3⟩ := DataW.trod_int Try.underlying5 f3
  obtain ⟨d, e4⟩ := con_of_trod Try.underlying26 Try.underlying9 (by kernel_rfl) (by kernel_rfl) f4
  have c0 : Try.prog.cellsOf 5 = 1 := by kernel_rfl
  have c1 : Try.prog.cellsOf 23 = 1 := by kernel_rfl
  have c8 : Try.prog.cellsOf 26 = 8 := by kernel_rfl
  exact ⟨(n0, n1, n2, n3, d), list12 hl' (by simpa [c0] using e0) (by simpa [c1] using e1) (by simpa [c1] using e2) (by simpa [c0] using e3) (by simpa [c8] using e4), w0, w1, w2, w3⟩
theorem open_op {r : Reach} {b0 : Nat} {v : Value} {d : DataW H} {p : List MemPlace} (hv : Value.okWide Try.prog w r b0 48 v) (h : DataW.Trod enc Try.prog w base spare held 48 v d p) : ∃ x : Opr, v = .agg (opA x) ∧ OkO x := by
  simp only [Value.okWide, Try.underlying48] at hv
  obtain ⟨cs, rfl, _, _⟩ := hv
  obtain ⟨fuel, hf⟩ := h
  obtain ⟨x, hx, hok⟩ := op_of_trod hf
  have hx' : cs.toList = (opA x).toList := by simpa [Value.cells] using hx
  exact ⟨x, by rw [Array.toList_inj.1 hx'], hok⟩
theorem sli_of_trod {t e : TypeId} {fuel : Nat} {cs : List Value} {x : DataW H × List MemPlace} (ht : Try.prog.underlying t = some (.slice e)) (h : DataW.trod enc Try.prog w base spare held fuel t cs = some x) : ∃ s : Sli, cs = [sl s] := by
  rcases Deep.open_slice ht h with ⟨hc, _⟩ | ⟨a, len, cap, m, n, D, Pl, hc, _⟩
  · exact ⟨(none, 0, 0), hc⟩
  · exact ⟨(some a, len, cap), hc⟩
theorem list3 {cs : List Value} (hl : cs.length = 3) {a b c : Value} (h0 : (cs.drop 0).take 1 = [a]) (h1 : (cs.drop 1).take 1 = [b]) (h2 : (cs.drop 2).take 1 = [c]) : cs = [a, b, c] := by
  match cs, hl with
  | [v0, v1, v2], _ => simp at h0 h1 h2; simp [h0, h1, h2]
theorem half_of_trod {fuel : Nat} {cs : List Value} {x : DataW H × List MemPlace} (h : DataW.trod enc Try.prog w base spare held fuel 51 cs = some x) : ∃ (k : Int) (v c : Sli), cs = [.int .u32 k, sl v, sl c] := by
  obtain ⟨xs, m, _, _, hl, hxl, hf⟩ := DataW.trod_struct Try.underlying51 h
  have hl' : cs.length = 3 := hl.trans (by kernel_rfl)
  have hxl' : xs.length = 3 := hxl
  have f0 := hf 0 _ rfl
  have f1 := hf 1 _ rfl
  have f2 := hf 2 _ rfl
  rw [List.getElem?_eq_getElem (by omega)] at f0 f1 f2
  obtain ⟨n0, e0, _, w0⟩ := DataW.trod_int Try.underlying23 f0
  obtain ⟨s1, e1⟩ := sli_of_trod Try.underlying46 f1
  obtain ⟨s2, e2⟩ := sli_of_trod Try.underlying49 f2
  have c0 : Try.prog.cellsOf 23 = 1 := by kernel_rfl
  have c1 : Try.prog.cellsOf 46 = 1 := by kernel_rfl
  have c2 : Try.prog.cellsOf 49 = 1 := by kernel_rfl
  exact ⟨n0, s1, s2, list3 hl' (by simpa [c0] using e0) (by simpa [c1] using e1) (by simpa [c2] using e2)⟩
theorem listG {cs : List Value} (hl : cs.length = 11) {a0 a1 a2 b0 b1 b2 c d e f g : Value} (h0 : (cs.drop 0).take 3 = [a0, a1, a2]) (h1 : (cs.drop 3).take 3 = [b0, b1, b2]) (h2 : (cs.drop 6).take 1 = [c]) (h3 : (cs.drop 7).take 1 = [d]) (h4 : (cs.drop 8).take 1 = [e]) (h5 : (cs.drop 9).take 1 = [f]) (h6 : (cs.drop 10).take 1 = [g]) :
    cs = [a0, a1, a2, b0, b1, b2, c, d, e, f, g] := by
  match cs, hl with
  | [v0, v1, v2, v3, v4, v5, v6, v7, v8, v9, v10], _ =>
    simp at h0 h1 h2 h3 h4 h5 h6
    simp [h0, h1, h2, h3, h4, h5, h6]
theorem gen_of_trod {fuel : Nat} {cs : List Value} {x : DataW H × List MemPlace} (h : DataW.trod enc Try.prog w base spare held fuel 54 cs = some x) : ∃ y : Gn, cs = (gnA y).toList ∧ OkG y := by
  obtain ⟨xs, m, _, _, hl, hxl, hf⟩ := DataW.trod_struct Try.underlying54 h
  have hl' : cs.length = 11 := hl.trans (by kernel_rfl)
  have hxl' : xs.length = 7 := hxl
  have f0 := hf 0 _ rfl
  have f1 := hf 1 _ rfl
  have f2 := hf 2 _ rfl
  have f3 := hf 3 _ rfl
  have f4 := hf 4 _ rfl
  have f5 := hf 5 _ rfl
  have f6 := hf 6 _ rfl
  rw [List.getElem?_eq_getElem (by omega)] at f0 f1 f2 f3 f4 f5 f6
  obtain ⟨k0, s0, t0, e0⟩ := half_of_trod f0
  obtain ⟨k1, s1, t1, e1⟩ := half_of_trod f1
  obtain ⟨s2, e2⟩ := sli_of_trod Try.underlying52 f2
  obtain ⟨s3, e3⟩ := sli_of_trod Try.underlying52 f3
  obtain ⟨b4, e4, _⟩ := DataW.trod_bool Try.underlying4 f4
  obtain ⟨n5, e5, _, w5⟩ := DataW.trod_int Try.underlying5 f5
  obtain ⟨n6, e6, _, w6⟩ := DataW.trod_int Try.underlying5 f6
  have ch : Try.prog.cellsOf 51 = 3 := by kernel_rfl
  have c2 : Try.prog.cellsOf 52 = 1 := by kernel_rfl
  have c4 : Try.prog.cellsOf 4 = 1 := by kernel_rfl
  have c5 : Try.prog.cellsOf 5 = 1 := by kernel_rfl
  exact ⟨(k0, s0, t0, k1, s1, t1, s2, s3, b4, n5, n6), listG hl' (by simpa [ch] using e0) (by simpa [ch] using e1) (by simpa [c2] using e2) (by simpa [c2] using e3) (by simpa [c4] using e4) (by simpa [c5] using e5) (by simpa [c5] using e6), w5, w6⟩
theorem open_gen {r : Reach} {b0 : Nat} {v : Value} {d : DataW H} {p : List MemPlace} (hv : Value.okWide Try.prog w r b0 54 v) (h : DataW.Trod enc Try.prog w base spare held 54 v d p) : ∃ x : Gn, v = .agg (gnA x) ∧ OkG x := by
  simp only [Value.okWide, Try.underlying54] at hv
  obtain ⟨cs, rfl, _, _⟩ := hv
  obtain ⟨fuel, hf⟩ := h
  obtain ⟨x, hx, hok⟩ := gen_of_trod hf
  have hx' : cs.toList = (gnA x).toList := by simpa [Value.cells] using hx
  exact ⟨x, by rw [Array.toList_inj.1 hx'], hok⟩
end
end Go.Proofs.Ytkgebhmlogddcaa
/- Contracts of the layer item and of its reference. -/
namespace Go.Proofs.Ytkgebhmlogddcaa
open Go.RowKit
set_option linter.unusedSimpArgs false
attribute [local go_sem] rowAt_alloc_at rowAt_alloc_past rowOk_alloc_at rowOk_alloc_past rowAt_drew rowOk_drew setRow_alloc_at setRow_alloc_past rowAt_setRow rowAt_setRow_far rowOk_setRow cell_rowOk frozen_rowOk setCell_rowOk setRow_setRow con_fold con_get con_size con_set set_all none8_cells equalIn_con storeCells_con
attribute [local go_sem] it_size it_0 it_1 it_2 it_3 it_4 it_5 it_6 it_7 it_8 it_9 it_10 it_set0 it_set1 it_set2 it_fold it_zero it_eta it_fill run_storeCells_it

/-! ### which items may be -/
def risI : Int → List It → Bool
  | _, [] => true
  | a, x :: r => decide (a < x.1) && (x.2.1 != 0) && risI x.1 r
def mayI (l : List It) : Bool := decide (l.length ≤ 40) && risI 0 l
def lastI (a : Int) (l : List It) : Int := (l.getLast?.map (·.1)).getD a
theorem lastI_snoc (a : Int) (l : List It) (x : It) : lastI a (l ++ [x]) = x.1 := by simp [lastI]
theorem risI_snoc (a : Int) (l : List It) (x : It) : risI a (l ++ [x]) = (risI a l && decide (lastI a l < x.1) && (x.2.1 != 0)) := by
  induction l generalizing a with
  | nil => show (decide (a < x.1) && (x.2.1 != 0) && true) = (true && decide (a < x.1) && (x.2.1 != 0)); rw [Bool.and_true, Bool.true_and]
  | cons y l ih =>
    have h : lastI a (y :: l) = lastI y.1 l := by
      cases l with
      | nil => simp [lastI]
      | cons z l => simp only [lastI, List.getLast?_cons_cons, List.getLast?_cons]; rfl
    simp only [List.cons_append, risI, ih, h, Bool.and_assoc]
theorem risI_pre (a : Int) (l m : List It) (h : risI a (l ++ m) = true) : risI a l = true := by
  induction l generalizing a with
  | nil => rfl
  | cons x l ih =>
    simp only [List.cons_append, risI, Bool.and_eq_true] at h ⊢
    exact ⟨h.1, ih _ h.2⟩
theorem risI_take (a : Int) (l : List It) (k : Nat) (h : risI a l = true) : risI a (l.take k) = true := risI_pre a (l.take k) (l.drop k) (by rwa [List.take_append_drop])
theorem risI_step (a : Int) (l : List It) (k : Nat) (hk : k < l.length) : risI a (l.take (k + 1)) = (risI a (l.take k) && decide (lastI a (l.take k) < l[k].1) && (l[k].2.1 != 0)) := by
  rw [List.take_succ_eq_append_getElem hk, risI_snoc]
theorem lastI_step (a : Int) (l : List It) (k : Nat) (hk : k < l.length) : lastI a (l.take (k + 1)) = l[k].1 := by
  rw [List.take_succ_eq_append_getElem hk, lastI_snoc]

set_option maxHeartbeats 400000 in
theorem imay_any (A : Option Addr) (n c : Nat) (l : List It) (w : World) (hl : KI.Rd w A n l) (hn : n ≤ 140737488355328) :
    Calls Try.prog 21 #[.slice A n c] w fun e w' => e = .returned (.bool (mayI l)) ∧ New w w' := by
  obtain rfl : l.length = n := hl.1
  by_cases h40 : l.length ≤ 40
  · have hm : mayI l = risI 0 l := by simp [mayI, h40]
    rw [hm]
    have HM := Lib.hid hm
    clear hm
    go_enter Try.func21, Try.ntmps21
    go_wp2_with fail
    have hwA := fun w' (h : New w w') n hn => rowAt_below h n hn
    have hwO := fun w' (h : New w w') n hn => rowOk_below h n hn
    have hwS := fun w' (h : New w w') n (hn : n < w.heap.size) => eq_true (Nat.lt_of_lt_of_le hn h.size)
    go_loopw [3, 11] (fun v i wr => ∃ k : Nat, k ≤ l.length ∧ i = .int .i64 k ∧ v = .int .u32 (lastI 0 (l.take k)) ∧ New w wr ∧ Hid (risI 0 (l.take k) = true)) (fun _ i _ => l.length - (intOf i).toNat)
    case atStart => exact ⟨0, by omega, rfl, rfl, New.rfl' w, rfl⟩
    case round =>
      obtain ⟨k, hk, rfl, rfl, hr, hq⟩ := hrel
      by_cases hlt : k < l.length
      · have hst := Lib.hid (risI_step 0 l k hlt)
        have hla := Lib.hid (lastI_step 0 l k hlt)
        obtain ⟨bhl, ohl, rfl, hbhl, hchl⟩ := hl.2 (by omega)
        have hrhl : ∀ w', New w w' → ∀ k (hk : k < l.length), w'.cell? ⟨bhl, ohl + k * 11, none⟩ = (itA l[k])[0]? := fun w' hw k hk => (hw.cell (p := ⟨bhl, _, none⟩) hbhl).trans (hchl k hk 0 (by decide))
        have hshl : ∀ w', New w w' → ∀ k (hk : k < l.length) j, j < 11 → w'.cell? ⟨bhl, ohl + k * 11 + j, none⟩ = (itA l[k])[j]? := fun w' hw k hk j hj => (hw.cell (p := ⟨bhl, _, none⟩) hbhl).trans (hchl k hk j hj)
        clear hchl
        generalize lastI 0 (l.take k) = a at *
        by_cases h1 : l[k].1 ≤ a
        · go_wp2_with fail
          go_ret
          refine ⟨?_, hr.alloc' _⟩
          have : risI 0 l = false := by
            rw [← Bool.not_eq_true]
            intro h
            have h2 := risI_take 0 l (k + 1) h
            rw [hst.out] at h2
            simp at h2
            omega
          rw [this]; rfl
        · by_cases h2 : l[k].2.1 = 0
          · have h2' : (l[k].2.1 == 0) = true := by simpa using h2
            have H2 := Lib.hid h2
            clear h2
            go_wp2_with fail
            go_ret
            refine ⟨?_, hr.alloc' _⟩
            have : risI 0 l = false := by
              rw [← Bool.not_eq_true]
              intro h
              have h3 := risI_take 0 l (k + 1) h
              rw [hst.out] at h3
              simp [H2.out] at h3
            rw [this]; rfl
          · have h2' : (l[k].2.1 == 0) = false := by simpa using h2
            go_wp2_with fail
            go_roundw
            case rel => exact ⟨k + 1, by omega, by go_num, by rw [hla.out], hr.alloc' _, by rw [Hid, hst.out, hq.out]; simp [h2]; omega⟩
            case measure => simp [intOf]; omega
      · go_wp2_with fail
        go_ret
        exact ⟨by have h := hq.out; rw [List.take_of_length_le (by omega)] at h; rw [h]; rfl, hr⟩
  · have hm : mayI l = false := by simp [mayI, h40]
    rw [hm]
    clear hm
    go_enter Try.func21, Try.ntmps21
    go_wp2_with fail
    go_ret
    exact ⟨rfl, New.rfl' w⟩

/-! ### where an Id stands, or would -/
def cmpI (a b : Int) : Int := if a < b then -1 else if b < a then 1 else 0
set_option maxHeartbeats 400000 in
theorem ifind1_any (x : It) (id : Int) (w : World) :
    Calls Try.prog 70 #[.agg (itA x), .int .u32 id] w fun e w' => e = .returned (.int .i64 (cmpI x.1 id)) ∧ New w w' := by
  by_cases h1 : x.1 < id
  · go_enter Try.func70, Try.ntmps70
    go_wp2
    go_ret
    exact ⟨by simp only [cmpI, if_pos h1]; rfl, (New.rfl' w).alloc' _⟩
  · by_cases h2 : id < x.1
    · go_enter Try.func70, Try.ntmps70
      go_wp2
      go_ret
      exact ⟨by rw [cmpI, if_neg (by omega), if_pos (by omega)]; rfl, (New.rfl' w).alloc' _⟩
    · go_enter Try.func70, Try.ntmps70
      go_wp2
      go_ret
      exact ⟨by rw [cmpI, if_neg (by omega), if_neg (by omega)]; rfl, (New.rfl' w).alloc' _⟩

def posI (l : List It) (id : Int) : Nat := (l.takeWhile fun x => decide (x.1 < id)).length
def hasI (l : List It) (id : Int) : Bool := l.any fun x => x.1 == id
theorem posI_of (l : List It) (id : Int) (i : Nat) (hi : i ≤ l.length) (h1 : ∀ q, (h : q < l.length) → q < i → l[q].1 < id) (h2 : ∀ q, (h : q < l.length) → i ≤ q → id ≤ l[q].1) : posI l id = i := by
  induction l generalizing i with
  | nil => simp at hi; subst hi; rfl
  | cons x l ih =>
    rcases i with _ | i
    · have := h2 0 (by simp) (by omega)
      simp only [List.getElem_cons_zero] at this
      simp [posI, List.takeWhile_cons, show ¬ x.1 < id from by omega]
    · have := h1 0 (by simp) (by omega)
      simp only [List.getElem_cons_zero] at this
      have h := ih i (by simpa using hi) (fun q hq hqi => by have := h1 (q + 1) (by simpa using hq) (by omega); simpa using this) (fun q hq hqi => by have := h2 (q + 1) (by simpa using hq) (by omega); simpa using this)
      simp only [posI, List.takeWhile_cons, this, decide_true, if_true, List.length_cons] at h ⊢
      rw [h]
theorem risI_lt (a : Int) (l : List It) (h : risI a l = true) : ∀ p q, (hq : q < l.length) → (hpq : p < q) → l[p].1 < l[q].1 := by
  induction l generalizing a with
  | nil => intro p q hq; simp at hq
  | cons x l ih =>
    simp only [risI, Bool.and_eq_true, decide_eq_true_eq] at h
    have hlow : ∀ (l : List It) (a : Int), risI a l = true → ∀ q, (hq : q < l.length) → a < l[q].1 := by
      intro l
      induction l with
      | nil => intro a _ q hq; simp at hq
      | cons y l ihl =>
        intro a ha q hq
        simp only [risI, Bool.and_eq_true, decide_eq_true_eq] at ha
        rcases q with _ | q
        · simpa using ha.1.1
        · have := ihl y.1 ha.2 q (by simpa using hq)
          simp only [List.getElem_cons_succ]; omega
    intro p q hq hpq
    rcases q with _ | q
    · omega
    · rcases p with _ | p
      · simpa using hlow l x.1 h.2 q (by simpa using hq)
      · simpa using ih x.1 h.2 p q (by simpa using hq) (by omega)

theorem hasI_iff (l : List It) (id : Int) : hasI l id = true ↔ ∃ q, ∃ h : q < l.length, l[q].1 = id := by
  simp only [hasI, List.any_eq_true, beq_iff_eq]
  constructor
  · rintro ⟨x, hx, he⟩
    obtain ⟨q, hq, rfl⟩ := List.getElem_of_mem hx
    exact ⟨q, hq, he⟩
  · rintro ⟨q, hq, he⟩
    exact ⟨l[q], List.getElem_mem hq, he⟩
theorem hasI_at (l : List It) (id : Int) (i : Nat) (hi : i < l.length) (h1 : ∀ q, (h : q < l.length) → q < i → l[q].1 < id) (h2 : ∀ q, (h : q < l.length) → i ≤ q → id ≤ l[q].1)
    (hlt : ∀ p q, (hq : q < l.length) → (hpq : p < q) → l[p].1 < l[q].1) : hasI l id = decide (l[i].1 = id) := by
  rw [Bool.eq_iff_iff, hasI_iff, decide_eq_true_eq]
  constructor
  · rintro ⟨q, hq, he⟩
    by_cases hqi : q < i
    · have := h1 q hq hqi; omega
    · by_cases hqi2 : q = i
      · subst hqi2; exact he
      · have := hlt i q hq (by omega)
        have := h2 i hi (Nat.le_refl _)
        omega
  · intro h; exact ⟨i, hi, h⟩
theorem hasI_end (l : List It) (id : Int) (h1 : ∀ q, (h : q < l.length) → q < l.length → l[q].1 < id) : hasI l id = false := by
  rw [← Bool.not_eq_true, hasI_iff]
  rintro ⟨q, hq, he⟩
  have := h1 q hq hq; omega
theorem cmpI_zero (a b : Int) : (cmpI a b == 0) = decide (a = b) := by
  unfold cmpI
  by_cases h1 : a < b
  · simp [h1]; omega
  · by_cases h2 : b < a
    · simp [h1, h2]; omega
    · simp [h1, h2]; omega

set_option maxHeartbeats 800000 in
theorem ibs_any (A : Option Addr) (n c : Nat) (l : List It) (id : Int) (w : World) (hl : KI.Rd w A n l) (hn : n ≤ 140737488355328) (hm : risI 0 l = true) :
    Calls Try.prog 69 #[.slice A n c, .int .u32 id, .func (.func 70) #[] #[]] w fun e w' => e = .returned (.tuple #[.int .i64 (posI l id : Nat), .bool (hasI l id)]) ∧ New w w' := by
  obtain rfl : l.length = n := hl.1
  have HM := Lib.hid (risI_lt 0 l hm)
  clear hm
  go_enter Try.func69, Try.ntmps69
  go_wp2_with fail
  have hwA := fun w' (h : New w w') n hn => rowAt_below h n hn
  have hwO := fun w' (h : New w w') n hn => rowOk_below h n hn
  have hwS := fun w' (h : New w w') n (hn : n < w.heap.size) => eq_true (Nat.lt_of_lt_of_le hn h.size)
  go_loopw [9, 10] (fun v u wr => ∃ i j : Nat, i ≤ j ∧ j ≤ l.length ∧ v = .int .i64 i ∧ u = .int .i64 j ∧ New w wr ∧ Hid ((∀ q, (h : q < l.length) → q < i → l[q].1 < id) ∧ ∀ q, (h : q < l.length) → j ≤ q → id ≤ l[q].1)) (fun v u _ => (intOf u).toNat - (intOf v).toNat)
  case atStart => exact ⟨0, l.length, by omega, by omega, rfl, rfl, New.rfl' w, fun q _ h => by omega, fun q h1 h2 => by omega⟩
  case round =>
    obtain ⟨i, j, hij, hj, rfl, rfl, hr, hq⟩ := hrel
    by_cases hlt : i < j
    · have hk : (i + j) / 2 < l.length := by omega
      have e1 : ((i : Int) + (j : Int)) / 2 = (((i + j) / 2 : Nat) : Int) := by omega
      have hk1 : i ≤ (i + j) / 2 := by omega
      have hk2 : (i + j) / 2 < j := by omega
      generalize hkk : (i + j) / 2 = k at *
      clear hkk
      obtain ⟨bhl, ohl, rfl, hbhl, hchl⟩ := hl.2 (by omega)
      have hrhl : ∀ w', New w w' → ∀ k (hk : k < l.length), w'.cell? ⟨bhl, ohl + k * 11, none⟩ = (itA l[k])[0]? := fun w' hw k hk => (hw.cell (p := ⟨bhl, _, none⟩) hbhl).trans (hchl k hk 0 (by decide))
      have hshl : ∀ w', New w w' → ∀ k (hk : k < l.length) j, j < 11 → w'.cell? ⟨bhl, ohl + k * 11 + j, none⟩ = (itA l[k])[j]? := fun w' hw k hk j hj => (hw.cell (p := ⟨bhl, _, none⟩) hbhl).trans (hchl k hk j hj)
      clear hchl
      go_wp2_with (first | (go_at_call 70; refine (ifind1_any _ _ _).mono ?_; rintro e w1 ⟨rfl, hb⟩; have hb' := New.call (by assumption) hb; clear hb))
      · have ht : cmpI l[k].1 id < 0 := by assumption
        have ht' : l[k].1 < id := by
          by_cases h1 : l[k].1 < id
          · exact h1
          · by_cases h2 : id < l[k].1 <;> simp [cmpI, h1, h2] at ht
        go_roundw
        case rel =>
          refine ⟨k + 1, j, by omega, hj, by go_num, rfl, hb', ?_⟩
          refine ⟨fun q h hqk => ?_, hq.out.2⟩
          by_cases e : q = k
          · subst e; exact ht'
          · have := HM.out q k hk (by omega); omega
        case measure => simp [intOf]; omega
      · have ht : 0 ≤ cmpI l[k].1 id := by assumption
        have ht' : id ≤ l[k].1 := by
          by_cases h1 : l[k].1 < id
          · simp [cmpI, h1] at ht
          · omega
        go_roundw
        case rel =>
          refine ⟨i, k, by omega, by omega, rfl, rfl, hb', ?_⟩
          refine ⟨hq.out.1, fun q h hqk => ?_⟩
          by_cases e : q = k
          · subst e; exact ht'
          · have := HM.out k q h (by omega); omega
        case measure => simp [intOf]; omega
    · obtain rfl : i = j := by omega
      clear hij hlt
      have hp := Lib.hid (posI_of l id i hj hq.out.1 hq.out.2)
      by_cases hin : i < l.length
      · skip
        obtain ⟨bhl, ohl, rfl, hbhl, hchl⟩ := hl.2 (by omega)
        have hrhl : ∀ w', New w w' → ∀ k (hk : k < l.length), w'.cell? ⟨bhl, ohl + k * 11, none⟩ = (itA l[k])[0]? := fun w' hw k hk => (hw.cell (p := ⟨bhl, _, none⟩) hbhl).trans (hchl k hk 0 (by decide))
        have hshl : ∀ w', New w w' → ∀ k (hk : k < l.length) j, j < 11 → w'.cell? ⟨bhl, ohl + k * 11 + j, none⟩ = (itA l[k])[j]? := fun w' hw k hk j hj => (hw.cell (p := ⟨bhl, _, none⟩) hbhl).trans (hchl k hk j hj)
        clear hchl
        go_wp2_with (first | (go_at_call 70; refine (ifind1_any _ _ _).mono ?_; rintro e w1 ⟨rfl, hb⟩; have hb' := New.call (by assumption) hb; clear hb))
        go_ret2
        exact ⟨by rw [hp.out, hasI_at l id i hin hq.out.1 hq.out.2 HM.out, ← cmpI_zero]; rfl, hb'⟩
      · obtain rfl : i = l.length := by omega
        clear hin
        go_wp2_with fail
        go_ret2
        exact ⟨by rw [hp.out, hasI_end l id hq.out.1]; rfl, hr⟩

set_option maxHeartbeats 400000 in
theorem ifind_any (A : Option Addr) (n c : Nat) (l : List It) (id : Int) (w : World) (hl : KI.Rd w A n l) (hn : n ≤ 140737488355328) (hm : risI 0 l = true) :
    Calls Try.prog 47 #[.slice A n c, .int .u32 id] w fun e w' => e = .returned (.tuple #[.int .i64 (posI l id : Nat), .bool (hasI l id)]) ∧ New w w' := by
  have hm' := Lib.hid hm
  go_enter Try.func47, Try.ntmps47
  go_wp2_with (first | (go_at_call 69; refine (ibs_any A n c l id _ hl hn hm'.out).mono ?_; rintro e w1 ⟨rfl, hb⟩))
  go_ret2
  exact ⟨rfl, hb⟩

/-- the item of an Id -/
def findI (l : List It) (id : Int) : Option It := if mayI l then l.find? (fun x => x.1 == id) else none
theorem risI_of (l : List It) (h : mayI l = true) : risI 0 l = true := by simp [mayI] at h; exact h.2
theorem mayI_len (l : List It) (h : mayI l = true) : l.length ≤ 40 := by simp [mayI] at h; exact h.1
theorem findI_has (l : List It) (id : Int) (hm : mayI l = true) : (findI l id).isSome = hasI l id := by
  simp only [findI, hm, if_true, hasI, List.find?_isSome]
  rw [Bool.eq_iff_iff]; simp
theorem pos_has (l : List It) (id : Int) (hm : risI 0 l = true) (h : hasI l id = true) : ∃ hp : posI l id < l.length, l[posI l id].1 = id ∧ l.find? (fun x => x.1 == id) = some l[posI l id] := by
  obtain ⟨q, hq, he⟩ := (hasI_iff l id).1 h
  have hlt := risI_lt 0 l hm
  have hp : posI l id = q := posI_of l id q (by omega) (fun p hp hpq => by have := hlt p q hq hpq; omega) (fun p hp hpq => by
    by_cases e : p = q
    · subst e; omega
    · have := hlt q p hp (by omega); omega)
  rw [hp]
  refine ⟨hq, he, ?_⟩
  rw [List.find?_eq_some_iff_getElem]
  refine ⟨by simpa using he, q, hq, rfl, fun j hj => ?_⟩
  have := hlt j q hq hj
  simp; omega

end Go.Proofs.Ytkgebhmlogddcaa
/- Items as sets: rising by Id, found by Id. -/
namespace Go.Proofs.Ytkgebhmlogddcaa
open Go.RowKit

def LtI (x y : It) : Prop := x.1 < y.1
theorem ris_pw (l : List It) : ∀ a : Int, risI a l = true ↔ (∀ x ∈ l, a < x.1 ∧ x.2.1 ≠ 0) ∧ l.Pairwise LtI := by
  induction l with
  | nil => intro a; simp [risI]
  | cons x r ih =>
    intro a
    simp only [risI, Bool.and_eq_true, decide_eq_true_eq, bne_iff_ne, ih, List.pairwise_cons, List.mem_cons]
    constructor
    · rintro ⟨⟨h1, h2⟩, h3, h4⟩
      refine ⟨?_, fun y hy => (h3 y hy).1, h4⟩
      rintro y (rfl | hy)
      · exact ⟨h1, h2⟩
      · have := h3 y hy; exact ⟨by omega, this.2⟩
    · rintro ⟨h1, h2, h3⟩
      exact ⟨h1 x (Or.inl rfl), fun y hy => ⟨h2 y hy, (h1 y (Or.inr hy)).2⟩, h3⟩
theorem may_iff (l : List It) : mayI l = true ↔ l.length ≤ 40 ∧ risI 0 l = true := by simp [mayI]


/-! ### views and items as sets -/
theorem uniqI {l : List It} (h : l.Pairwise LtI) {x y : It} (hx : x ∈ l) (hy : y ∈ l) (e : x.1 = y.1) : x = y := by
  induction l with
  | nil => cases hx
  | cons z l ih =>
    rw [List.pairwise_cons] at h
    rcases List.mem_cons.1 hx with hx | hx <;> rcases List.mem_cons.1 hy with hy | hy
    · rw [hx, hy]
    · have := h.1 _ hy; unfold LtI at this; rw [← hx] at this; omega
    · have := h.1 _ hx; unfold LtI at this; rw [← hy] at this; omega
    · exact ih h.2 hx hy
theorem findI_iff {l : List It} (hm : mayI l = true) (id : Int) (y : It) : findI l id = some y ↔ y ∈ l ∧ y.1 = id := by
  have hp := ((ris_pw l 0).1 (risI_of l hm)).2
  rw [findI, if_pos hm]
  constructor
  · intro hx
    exact ⟨List.mem_of_find?_eq_some hx, by simpa using List.find?_some hx⟩
  · rintro ⟨h, rfl⟩
    cases hf : l.find? (fun x => x.1 == y.1) with
    | none => rw [List.find?_eq_none] at hf; exact absurd (hf _ h) (by simp)
    | some x =>
      have h1 := List.find?_some hf
      have h2 := List.mem_of_find?_eq_some hf
      simp only [beq_iff_eq] at h1
      rw [uniqI hp h2 h h1]
theorem findI_none_iff {l : List It} (hm : mayI l = true) (id : Int) : findI l id = none ↔ ∀ x ∈ l, x.1 ≠ id := by
  constructor
  · intro h x hx e
    rw [(findI_iff hm id x).2 ⟨hx, e⟩] at h; cases h
  · intro h
    cases hf : findI l id with
    | none => rfl
    | some s => have := (findI_iff hm id s).1 hf; exact absurd this.2 (h _ this.1)
end Go.Proofs.Ytkgebhmlogddcaa
/- Contracts of the layer view: which may be, where an Id stands. -/
namespace Go.Proofs.Ytkgebhmlogddcaa
open Go.RowKit
set_option linter.unusedSimpArgs false
attribute [local go_sem] rowAt_alloc_at rowAt_alloc_past rowOk_alloc_at rowOk_alloc_past rowAt_drew rowOk_drew setRow_alloc_at setRow_alloc_past rowAt_setRow rowAt_setRow_far rowOk_setRow cell_rowOk frozen_rowOk setCell_rowOk setRow_setRow con_fold con_get con_size con_set set_all none8_cells equalIn_con storeCells_con
attribute [local go_sem] it_size it_0 it_1 it_2 it_3 it_4 it_5 it_6 it_7 it_8 it_9 it_10 it_set0 it_set1 it_set2 it_fold it_zero it_eta it_fill run_storeCells_it
attribute [local go_sem] sn_size sn_0 sn_1 sn_set0 sn_set1 sn_fold sn_eta sn_fill run_storeCells_sn eqg_sn eqg_it
attribute [local go_sem high] equalIn_sn equalIn_it

/-! ### which views may be -/
def risS : Int → List Sn → Bool
  | _, [] => true
  | a, x :: r => decide (a < x.1) && risS x.1 r
def lastS (a : Int) (l : List Sn) : Int := (l.getLast?.map (·.1)).getD a
theorem lastS_snoc (a : Int) (l : List Sn) (x : Sn) : lastS a (l ++ [x]) = x.1 := by simp [lastS]
theorem risS_snoc (a : Int) (l : List Sn) (x : Sn) : risS a (l ++ [x]) = (risS a l && decide (lastS a l < x.1)) := by
  induction l generalizing a with
  | nil => show (decide (a < x.1) && true) = (true && decide (a < x.1)); rw [Bool.and_true, Bool.true_and]
  | cons y l ih =>
    have h : lastS a (y :: l) = lastS y.1 l := by
      cases l with
      | nil => simp [lastS]
      | cons z l => simp only [lastS, List.getLast?_cons_cons, List.getLast?_cons]; rfl
    simp only [List.cons_append, risS, ih, h, Bool.and_assoc]
theorem risS_pre (a : Int) (l m : List Sn) (h : risS a (l ++ m) = true) : risS a l = true := by
  induction l generalizing a with
  | nil => rfl
  | cons x l ih =>
    simp only [List.cons_append, risS, Bool.and_eq_true] at h ⊢
    exact ⟨h.1, ih _ h.2⟩
theorem risS_take (a : Int) (l : List Sn) (k : Nat) (h : risS a l = true) : risS a (l.take k) = true := risS_pre a (l.take k) (l.drop k) (by rwa [List.take_append_drop])
theorem risS_step (a : Int) (l : List Sn) (k : Nat) (hk : k < l.length) : risS a (l.take (k + 1)) = (risS a (l.take k) && decide (lastS a (l.take k) < l[k].1)) := by
  rw [List.take_succ_eq_append_getElem hk, risS_snoc]
theorem lastS_step (a : Int) (l : List Sn) (k : Nat) (hk : k < l.length) : lastS a (l.take (k + 1)) = l[k].1 := by
  rw [List.take_succ_eq_append_getElem hk, lastS_snoc]

set_option maxHeartbeats 400000 in
theorem vmay_any (A : Option Addr) (n c : Nat) (l : List Sn) (w : World) (hl : KS.Rd w A n l) (hn : n ≤ 140737488355328) :
    Calls Try.prog 42 #[.slice A n c] w fun e w' => e = .returned (.bool (risS 0 l)) ∧ New w w' := by
  obtain rfl : l.length = n := hl.1
  go_enter Try.func42, Try.ntmps42
  go_wp2_with fail
  have hwA := fun w' (h : New w w') n hn => rowAt_below h n hn
  have hwO := fun w' (h : New w w') n hn => rowOk_below h n hn
  have hwS := fun w' (h : New w w') n (hn : n < w.heap.size) => eq_true (Nat.lt_of_lt_of_le hn h.size)
  go_loopw [3, 8] (fun v i wr => ∃ k : Nat, k ≤ l.length ∧ i = .int .i64 k ∧ v = .int .u32 (lastS 0 (l.take k)) ∧ New w wr ∧ Hid (risS 0 (l.take k) = true)) (fun _ i _ => l.length - (intOf i).toNat)
  case atStart => exact ⟨0, by omega, rfl, rfl, New.rfl' w, rfl⟩
  case round =>
    obtain ⟨k, hk, rfl, rfl, hr, hq⟩ := hrel
    by_cases hlt : k < l.length
    · have hst := Lib.hid (risS_step 0 l k hlt)
      have hla := Lib.hid (lastS_step 0 l k hlt)
      obtain ⟨bhl, ohl, rfl, hbhl, hchl⟩ := hl.2 (by omega)
      have hrhl : ∀ w', New w w' → ∀ k (hk : k < l.length), w'.cell? ⟨bhl, ohl + k * 2, none⟩ = (snA l[k])[0]? := fun w' hw k hk => (hw.cell (p := ⟨bhl, _, none⟩) hbhl).trans (hchl k hk 0 (by decide))
      have hshl : ∀ w', New w w' → ∀ k (hk : k < l.length) j, j < 2 → w'.cell? ⟨bhl, ohl + k * 2 + j, none⟩ = (snA l[k])[j]? := fun w' hw k hk j hj => (hw.cell (p := ⟨bhl, _, none⟩) hbhl).trans (hchl k hk j hj)
      clear hchl
      generalize lastS 0 (l.take k) = a at *
      by_cases h1 : l[k].1 ≤ a
      · go_wp2_with fail
        go_ret
        refine ⟨?_, hr.alloc' _⟩
        have : risS 0 l = false := by
          rw [← Bool.not_eq_true]
          intro h
          have h2 := risS_take 0 l (k + 1) h
          rw [hst.out] at h2
          simp at h2
          omega
        rw [this]; rfl
      · go_wp2_with fail
        go_roundw
        case rel => exact ⟨k + 1, by omega, by go_num, by rw [hla.out], hr.alloc' _, by rw [Hid, hst.out, hq.out]; simp; omega⟩
        case measure => simp [intOf]; omega
    · go_wp2_with fail
      go_ret
      exact ⟨by have h := hq.out; rw [List.take_of_length_le (by omega)] at h; rw [h]; rfl, hr⟩

/-! ### where an Id stands, or would -/
set_option maxHeartbeats 400000 in
theorem vfind1_any (x : Sn) (id : Int) (w : World) :
    Calls Try.prog 78 #[.agg (snA x), .int .u32 id] w fun e w' => e = .returned (.int .i64 (cmpI x.1 id)) ∧ New w w' := by
  by_cases h1 : x.1 < id
  · go_enter Try.func78, Try.ntmps78
    go_wp2
    go_ret
    exact ⟨by simp only [cmpI, if_pos h1]; rfl, (New.rfl' w).alloc' _⟩
  · by_cases h2 : id < x.1
    · go_enter Try.func78, Try.ntmps78
      go_wp2
      go_ret
      exact ⟨by rw [cmpI, if_neg (by omega), if_pos (by omega)]; rfl, (New.rfl' w).alloc' _⟩
    · go_enter Try.func78, Try.ntmps78
      go_wp2
      go_ret
      exact ⟨by rw [cmpI, if_neg (by omega), if_neg (by omega)]; rfl, (New.rfl' w).alloc' _⟩

def posS (l : List Sn) (id : Int) : Nat := (l.takeWhile fun x => decide (x.1 < id)).length
def hasS (l : List Sn) (id : Int) : Bool := l.any fun x => x.1 == id
theorem posS_of (l : List Sn) (id : Int) (i : Nat) (hi : i ≤ l.length) (h1 : ∀ q, (h : q < l.length) → q < i → l[q].1 < id) (h2 : ∀ q, (h : q < l.length) → i ≤ q → id ≤ l[q].1) : posS l id = i := by
  induction l generalizing i with
  | nil => simp at hi; subst hi; rfl
  | cons x l ih =>
    rcases i with _ | i
    · have := h2 0 (by simp) (by omega)
      simp only [List.getElem_cons_zero] at this
      simp [posS, List.takeWhile_cons, show ¬ x.1 < id from by omega]
    · have := h1 0 (by simp) (by omega)
      simp only [List.getElem_cons_zero] at this
      have h := ih i (by simpa using hi) (fun q hq hqi => by have := h1 (q + 1) (by simpa using hq) (by omega); simpa using this) (fun q hq hqi => by have := h2 (q + 1) (by simpa using hq) (by omega); simpa using this)
      simp only [posS, List.takeWhile_cons, this, decide_true, if_true, List.length_cons] at h ⊢
      rw [h]
theorem risS_lt (a : Int) (l : List Sn) (h : risS a l = true) : ∀ p q, (hq : q < l.length) → (hpq : p < q) → l[p].1 < l[q].1 := by
  induction l generalizing a with
  | nil => intro p q hq; simp at hq
  | cons x l ih =>
    simp only [risS, Bool.and_eq_true, decide_eq_true_eq] at h
    have hlow : ∀ (l : List Sn) (a : Int), risS a l = true → ∀ q, (hq : q < l.length) → a < l[q].1 := by
      intro l
      induction l with
      | nil => intro a _ q hq; simp at hq
      | cons y l ihl =>
        intro a ha q hq
        simp only [risS, Bool.and_eq_true, decide_eq_true_eq] at ha
        rcases q with _ | q
        · simpa using ha.1
        · have := ihl y.1 ha.2 q (by simpa using hq)
          simp only [List.getElem_cons_succ]; omega
    intro p q hq hpq
    rcases q with _ | q
    · omega
    · rcases p with _ | p
      · simpa using hlow l x.1 h.2 q (by simpa using hq)
      · simpa using ih x.1 h.2 p q (by simpa using hq) (by omega)

theorem hasS_iff (l : List Sn) (id : Int) : hasS l id = true ↔ ∃ q, ∃ h : q < l.length, l[q].1 = id := by
  simp only [hasS, List.any_eq_true, beq_iff_eq]
  constructor
  · rintro ⟨x, hx, he⟩
    obtain ⟨q, hq, rfl⟩ := List.getElem_of_mem hx
    exact ⟨q, hq, he⟩
  · rintro ⟨q, hq, he⟩
    exact ⟨l[q], List.getElem_mem hq, he⟩
theorem hasS_at (l : List Sn) (id : Int) (i : Nat) (hi : i < l.length) (h1 : ∀ q, (h : q < l.length) → q < i → l[q].1 < id) (h2 : ∀ q, (h : q < l.length) → i ≤ q → id ≤ l[q].1)
    (hlt : ∀ p q, (hq : q < l.length) → (hpq : p < q) → l[p].1 < l[q].1) : hasS l id = decide (l[i].1 = id) := by
  rw [Bool.eq_iff_iff, hasS_iff, decide_eq_true_eq]
  constructor
  · rintro ⟨q, hq, he⟩
    by_cases hqi : q < i
    · have := h1 q hq hqi; omega
    · by_cases hqi2 : q = i
      · subst hqi2; exact he
      · have := hlt i q hq (by omega)
        have := h2 i hi (Nat.le_refl _)
        omega
  · intro h; exact ⟨i, hi, h⟩
theorem hasS_end (l : List Sn) (id : Int) (h1 : ∀ q, (h : q < l.length) → q < l.length → l[q].1 < id) : hasS l id = false := by
  rw [← Bool.not_eq_true, hasS_iff]
  rintro ⟨q, hq, he⟩
  have := h1 q hq hq; omega
set_option maxHeartbeats 800000 in
theorem vbs_any (A : Option Addr) (n c : Nat) (l : List Sn) (id : Int) (w : World) (hl : KS.Rd w A n l) (hn : n ≤ 140737488355328) (hm : risS 0 l = true) :
    Calls Try.prog 77 #[.slice A n c, .int .u32 id, .func (.func 78) #[] #[]] w fun e w' => e = .returned (.tuple #[.int .i64 (posS l id : Nat), .bool (hasS l id)]) ∧ New w w' := by
  obtain rfl : l.length = n := hl.1
  have HM := Lib.hid (risS_lt 0 l hm)
  clear hm
  go_enter Try.func77, Try.ntmps77
  go_wp2_with fail
  have hwA := fun w' (h : New w w') n hn => rowAt_below h n hn
  have hwO := fun w' (h : New w w') n hn => rowOk_below h n hn
  have hwS := fun w' (h : New w w') n (hn : n < w.heap.size) => eq_true (Nat.lt_of_lt_of_le hn h.size)
  go_loopw [9, 10] (fun v u wr => ∃ i j : Nat, i ≤ j ∧ j ≤ l.length ∧ v = .int .i64 i ∧ u = .int .i64 j ∧ New w wr ∧ Hid ((∀ q, (h : q < l.length) → q < i → l[q].1 < id) ∧ ∀ q, (h : q < l.length) → j ≤ q → id ≤ l[q].1)) (fun v u _ => (intOf u).toNat - (intOf v).toNat)
  case atStart => exact ⟨0, l.length, by omega, by omega, rfl, rfl, New.rfl' w, fun q _ h => by omega, fun q h1 h2 => by omega⟩
  case round =>
    obtain ⟨i, j, hij, hj, rfl, rfl, hr, hq⟩ := hrel
    by_cases hlt : i < j
    · have hk : (i + j) / 2 < l.length := by omega
      have e1 : ((i : Int) + (j : Int)) / 2 = (((i + j) / 2 : Nat) : Int) := by omega
      have hk1 : i ≤ (i + j) / 2 := by omega
      have hk2 : (i + j) / 2 < j := by omega
      generalize hkk : (i + j) / 2 = k at *
      clear hkk
      obtain ⟨bhl, ohl, rfl, hbhl, hchl⟩ := hl.2 (by omega)
      have hrhl : ∀ w', New w w' → ∀ k (hk : k < l.length), w'.cell? ⟨bhl, ohl + k * 2, none⟩ = (snA l[k])[0]? := fun w' hw k hk => (hw.cell (p := ⟨bhl, _, none⟩) hbhl).trans (hchl k hk 0 (by decide))
      have hshl : ∀ w', New w w' → ∀ k (hk : k < l.length) j, j < 2 → w'.cell? ⟨bhl, ohl + k * 2 + j, none⟩ = (snA l[k])[j]? := fun w' hw k hk j hj => (hw.cell (p := ⟨bhl, _, none⟩) hbhl).trans (hchl k hk j hj)
      clear hchl
      go_wp2_with (first | (go_at_call 78; refine (vfind1_any _ _ _).mono ?_; rintro e w1 ⟨rfl, hb⟩; have hb' := New.call (by assumption) hb; clear hb))
      · have ht : cmpI l[k].1 id < 0 := by assumption
        have ht' : l[k].1 < id := by
          by_cases h1 : l[k].1 < id
          · exact h1
          · by_cases h2 : id < l[k].1 <;> simp [cmpI, h1, h2] at ht
        go_roundw
        case rel =>
          refine ⟨k + 1, j, by omega, hj, by go_num, rfl, hb', ?_⟩
          refine ⟨fun q h hqk => ?_, hq.out.2⟩
          by_cases e : q = k
          · subst e; exact ht'
          · have := HM.out q k hk (by omega); omega
        case measure => simp [intOf]; omega
      · have ht : 0 ≤ cmpI l[k].1 id := by assumption
        have ht' : id ≤ l[k].1 := by
          by_cases h1 : l[k].1 < id
          · simp [cmpI, h1] at ht
          · omega
        go_roundw
        case rel =>
          refine ⟨i, k, by omega, by omega, rfl, rfl, hb', ?_⟩
          refine ⟨hq.out.1, fun q h hqk => ?_⟩
          by_cases e : q = k
          · subst e; exact ht'
          · have := HM.out k q h (by omega); omega
        case measure => simp [intOf]; omega
    · obtain rfl : i = j := by omega
      clear hij hlt
      have hp := Lib.hid (posS_of l id i hj hq.out.1 hq.out.2)
      by_cases hin : i < l.length
      · skip
        obtain ⟨bhl, ohl, rfl, hbhl, hchl⟩ := hl.2 (by omega)
        have hrhl : ∀ w', New w w' → ∀ k (hk : k < l.length), w'.cell? ⟨bhl, ohl + k * 2, none⟩ = (snA l[k])[0]? := fun w' hw k hk => (hw.cell (p := ⟨bhl, _, none⟩) hbhl).trans (hchl k hk 0 (by decide))
        have hshl : ∀ w', New w w' → ∀ k (hk : k < l.length) j, j < 2 → w'.cell? ⟨bhl, ohl + k * 2 + j, none⟩ = (snA l[k])[j]? := fun w' hw k hk j hj => (hw.cell (p := ⟨bhl, _, none⟩) hbhl).trans (hchl k hk j hj)
        clear hchl
        go_wp2_with (first | (go_at_call 78; refine (vfind1_any _ _ _).mono ?_; rintro e w1 ⟨rfl, hb⟩; have hb' := New.call (by assumption) hb; clear hb))
        go_ret2
        exact ⟨by rw [hp.out, hasS_at l id i hin hq.out.1 hq.out.2 HM.out, ← cmpI_zero]; rfl, hb'⟩
      · obtain rfl : i = l.length := by omega
        clear hin
        go_wp2_with fail
        go_ret2
        exact ⟨by rw [hp.out, hasS_end l id hq.out.1]; rfl, hr⟩

set_option maxHeartbeats 400000 in
theorem vfind_any (A : Option Addr) (n c : Nat) (l : List Sn) (id : Int) (w : World) (hl : KS.Rd w A n l) (hn : n ≤ 140737488355328) (hm : risS 0 l = true) :
    Calls Try.prog 63 #[.slice A n c, .int .u32 id] w fun e w' => e = .returned (.tuple #[.int .i64 (posS l id : Nat), .bool (hasS l id)]) ∧ New w w' := by
  have hm' := Lib.hid hm
  go_enter Try.func63, Try.ntmps63
  go_wp2_with (first | (go_at_call 77; refine (vbs_any A n c l id _ hl hn hm'.out).mono ?_; rintro e w1 ⟨rfl, hb⟩))
  go_ret2
  exact ⟨rfl, hb⟩


end Go.Proofs.Ytkgebhmlogddcaa

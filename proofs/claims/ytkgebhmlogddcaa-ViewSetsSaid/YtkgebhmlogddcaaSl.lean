/- Rows of elements of any kind: slices that are read, slices that a call made itself, one more element behind them. No condition: helpers alone. -/
import Derived.Test.YtkgebhmlogddcaaKit
import Derived.Maps.AppendAt
import Derived.Laws.OwnMore
import Derived.Laws.CopyOwn
namespace Go.Proofs.Ytkgebhmlogddcaa
open Go.RowKit

/-- a kind of elements: how one lies in cells, and its types' numbers -/
structure Kind (α : Type) where
  enc : α → Array Value
  sz : Nat
  e : TypeId
  t : TypeId
  bytes : Nat
  i : TypeInfo
  z : Value
  pos : 0 < sz
  hsz : ∀ x, (enc x).size = sz
  one : ∀ x, (enc x).all (·.oneCell') = true
  ht : Try.prog.underlying t = some (.slice e)
  hi : Try.prog.info? e = some i
  hz : i.zero = some z
  hs : i.size = sz
  hb : i.bytes = bytes
  hzs : z.cells.size = sz

namespace Kind
variable {α : Type} (K : Kind α)
/-- the cells of a list of elements -/
def flat (l : List α) : List Value := l.flatMap fun x => (K.enc x).toList
theorem flat_nil : K.flat [] = [] := rfl
theorem flat_cons (x : α) (l : List α) : K.flat (x :: l) = (K.enc x).toList ++ K.flat l := rfl
theorem flat_append (a b : List α) : K.flat (a ++ b) = K.flat a ++ K.flat b := by simp [flat]
theorem flat_one (x : α) : K.flat [x] = (K.enc x).toList := by simp [flat]
theorem flat_length (l : List α) : (K.flat l).length = l.length * K.sz := by
  induction l with
  | nil => simp [flat]
  | cons x l ih => rw [flat_cons, List.length_append, ih, Array.length_toList, K.hsz, List.length_cons, Nat.add_mul]; omega
theorem flat_get (l : List α) (k j : Nat) (hk : k < l.length) (hj : j < K.sz) : (K.flat l)[k * K.sz + j]? = (K.enc l[k])[j]? := by
  induction l generalizing k with
  | nil => simp at hk
  | cons x l ih =>
    rw [flat_cons]
    rcases k with _ | k
    · rw [List.getElem?_append_left (by rw [Array.length_toList, K.hsz]; omega)]
      simp
    · rw [List.getElem?_append_right (by rw [Array.length_toList, K.hsz, Nat.add_mul]; omega), Array.length_toList, K.hsz,
        show (k + 1) * K.sz + j - K.sz = k * K.sz + j from by rw [Nat.add_mul]; omega, ih k (by simpa using hk)]
      simp
theorem flat_one' (l : List α) : ∀ u ∈ K.flat l, u.oneCell' = true := by
  intro u hu
  obtain ⟨x, _, hx⟩ := List.mem_flatMap.1 hu
  exact (Array.all_eq_true_iff_forall_mem.1 (K.one x)) u (by simpa using hx)

/-- a slice that reads as a list -/
def Rd (w : World) (A : Option Addr) (n : Nat) (l : List α) : Prop :=
  l.length = n ∧ (0 < n → ∃ b o, A = some ⟨b, o, none⟩ ∧ b < w.heap.size ∧ ∀ k (h : k < l.length) j, j < K.sz → w.cell? ⟨b, o + k * K.sz + j, none⟩ = (K.enc l[k])[j]?)
/-- a slice that the call made itself, from block 'base' on -/
def Own (w : World) (base : Nat) (v : Value) (l : List α) : Prop := w.ownsRow base K.e K.sz v l.length (K.flat l)

variable {K} {w w' : World} {base : Nat} {v : Value} {l : List α} {A : Option Addr} {n c : Nat}
theorem Rd.none_ : K.Rd w none 0 [] := ⟨rfl, fun h => absurd h (by omega)⟩
theorem Rd.new (h : K.Rd w A n l) (hb : New w w') : K.Rd w' A n l :=
  ⟨h.1, fun hn => by
    obtain ⟨b, o, e, hlt, hc⟩ := h.2 hn
    exact ⟨b, o, e, Nat.lt_of_lt_of_le hlt hb.size, fun k hk j hj => (hb.cell (p := ⟨b, _, none⟩) hlt).trans (hc k hk j hj)⟩⟩
theorem Rd.alloc (h : K.Rd w A n l) (o : Obj) : K.Rd (w.alloc o) A n l := h.new ((New.rfl' w).alloc' o)
theorem Rd.of_own (h : K.Own w base (.slice A n c) l) : K.Rd w A n l ∧ n ≤ c := by
  rcases h.2 with ⟨hv, hn⟩ | ⟨g, cap, cur, hv, _, hg, hnc, _, _, htake⟩
  · injection hv with h1 h2 h3
    subst h1; subst h2; subst h3
    exact ⟨⟨hn, fun h => absurd h (by omega)⟩, Nat.le_refl _⟩
  · injection hv with h1 h2 h3
    subst h1; subst h2; subst h3
    refine ⟨⟨rfl, fun _ => ⟨g, 0, rfl, (Array.getElem?_eq_some_iff.1 hg).1, fun k hk j hj => ?_⟩⟩, hnc⟩
    rw [cell_of_row w g _ cur K.e (0, 0) hg, ← K.flat_get l k j hk hj, ← htake, List.getElem?_take, if_pos]
    · simp
    · have : (k + 1) * K.sz ≤ l.length * K.sz := Nat.mul_le_mul_right _ hk
      rw [Nat.add_mul] at this; omega
theorem Own.nil : K.Own w base (.slice none 0 0) [] := World.ownsRow_nil w base _ _
theorem Own.form (h : K.Own w base v l) : ∃ A c, v = .slice A l.length c ∧ l.length ≤ c := by
  rcases h.2 with ⟨rfl, hn⟩ | ⟨g, cap, cur, rfl, _, _, hc, _⟩
  · exact ⟨none, 0, by rw [hn], by omega⟩
  · exact ⟨_, cap, rfl, hc⟩
theorem Own.rd (h : K.Own w base v l) : ∃ A c, v = .slice A l.length c ∧ l.length ≤ c ∧ K.Rd w A l.length l := by
  obtain ⟨A, c, rfl, hc⟩ := h.form
  exact ⟨A, c, rfl, hc, (Rd.of_own h).1⟩
theorem Own.new (h : K.Own w base v l) (hb : New w w') : K.Own w' base v l :=
  h.kept (row := none) ⟨hb.os, hb.tape, hb.output, hb.size, fun k hk _ => hb.block k hk⟩ (by cases hv : v.ownBlock <;> simp)
theorem Own.alloc (h : K.Own w base v l) (o : Obj) : K.Own (w.alloc o) base v l := h.new ((New.rfl' w).alloc' o)
theorem Own.lower (h : K.Own w base v l) {b : Nat} (hb : b ≤ base) : K.Own w b v l :=
  ⟨h.1, h.2.imp id fun ⟨g, cap, cur, h1, h2, r⟩ => ⟨g, cap, cur, h1, Nat.le_trans hb h2, r⟩⟩
/-- what append leaves, but the row itself, is as it was -/
theorem new_grown {a W W1 : World} {row : Option Nat} (h : New a W) (hg : W.grownBy W1 row) (hr : ∀ k, row = some k → a.heap.size ≤ k) : New a W1 :=
  Below.grown h hg h.size hr
theorem Own.block (h : K.Own w base v l) : ∀ k, v.ownBlock = some k → base ≤ k := fun k hk => (World.ownsRow.lt h k hk).1

/-- one element more behind a row of the call's own: as the walk meets it, behind the slice of one element -/
theorem wpList_append1 {ops : Array Oper} {rest : List Oper} {o : Oper} {a : Act} {Q : Exit → Act → World → Prop} (hgd : o.guard = none) (s x : Operand)
    (ho : o.op = .call { callee := .builtin .append, args := #[s, x], argTypes := #[K.t, K.t] }) (hs : a.eval s = v) (hown : K.Own w base v l)
    (y : α) (g : Nat) (hx : a.eval x = .slice (some ⟨g, 0, none⟩) 1 1) (hr : rowOk w g = true) (hy : rowAt w g = K.enc y)
    (h63 : l.length + 1 ≤ 1048576) (hbytes : K.bytes ≤ 4096) (hbase : base ≤ w.heap.size)
    (h : ∀ v' w', K.Own w' base v' (l ++ [y]) → (New w w' ∨ ∃ k, v.ownBlock = some k ∧ w.grownBy w' (some k)) → w.grownBy w' v.ownBlock → wpList Try.prog ops Q rest (a.put o.dst v') w') : wpList Try.prog ops Q (o :: rest) a w := by
  refine wpList_append_own w hgd s x K.t ho base K.e K.i K.z K.sz K.bytes K.ht K.hi K.hz K.hs K.hb K.hzs K.pos v l.length (K.flat l) hs hown
    ⟨g, 0, none⟩ 1 1 (K.enc y).toList hx (by simp [K.hsz]) ?_ (fun u hu => (Array.all_eq_true_iff_forall_mem.1 (K.one y)) u (by simpa using hu)) (by simp only [maxLen]; omega) ?_ hbase ?_
  · intro j u hu
    have hadd : (⟨g, 0, none⟩ : Addr).add j = ⟨g, j, none⟩ := by unfold Addr.add; split <;> simp_all
    rw [hadd, cell_rowOk w hr, hy]
    simpa using hu
  · have h1 : (l.length + 1) * K.bytes ≤ 1048576 * 4096 := Nat.mul_le_mul h63 hbytes
    omega
  · intro v' w' hv' hg _
    refine h v' w' (by unfold Own; rw [K.flat_append, K.flat_one, List.length_append]; exact hv') ?_ hg
    cases hb : v.ownBlock with
    | none => rw [hb] at hg; exact .inl ⟨hg.os, hg.tape, hg.output, hg.size, fun k hk => hg.block k hk (by simp)⟩
    | some k => rw [hb] at hg; exact .inr ⟨k, rfl, hg⟩
theorem Rd.cut (h : K.Rd w A n l) {k cap : Nat} (hk : k ≤ n) (hc : n ≤ cap) : K.Rd w (if cap = k then A else A.map (·.add (k * K.sz))) (n - k) (l.drop k) := by
  refine ⟨by rw [List.length_drop, h.1], fun hn => ?_⟩
  obtain ⟨b, o, rfl, hb, hcell⟩ := h.2 (by omega)
  rw [if_neg (by omega)]
  refine ⟨b, o + k * K.sz, by simp only [Option.map_some]; unfold Addr.add; split <;> simp_all, hb, fun q hq j hj => ?_⟩
  have hq' : k + q < l.length := by simp at hq; omega
  have := hcell (k + q) hq' j hj
  rw [Nat.add_mul, show o + (k * K.sz + q * K.sz) + j = o + k * K.sz + q * K.sz + j from by omega] at this
  rw [this]; simp
theorem Rd.upto (h : K.Rd w A n l) {k : Nat} (hk : k ≤ n) : K.Rd w A k (l.take k) := by
  refine ⟨by rw [List.length_take, h.1]; omega, fun hn => ?_⟩
  obtain ⟨b, o, rfl, hb, hcell⟩ := h.2 (by omega)
  refine ⟨b, o, rfl, hb, fun q hq j hj => ?_⟩
  have hq' : q < l.length := by simp at hq; omega
  rw [hcell q hq' j hj]; simp

theorem Rd.single {x : α} {g : Nat} (hok : rowOk w g = true) (hg : rowAt w g = K.enc x) : K.Rd w (some ⟨g, 0, none⟩) 1 [x] :=
  ⟨rfl, fun _ => ⟨g, 0, rfl, rowOk_lt w hok, fun k hk j hj => by
    have : k = 0 := by simpa using hk
    subst this
    rw [cell_rowOk w hok, hg]; simp⟩⟩

theorem run_appendN (ty : TypeId) (hown : K.Own w base v l) {m : List α} (hr : K.Rd w A n m) (h63 : l.length + m.length ≤ 1048576) (hbytes : K.bytes ≤ 4096) (hbase : base ≤ w.heap.size) :
    ∃ v' w', (Builtin.append_ #[K.t, K.t] ty #[v, .slice A n c]).run Try.prog w = .ok v' w' ∧ K.Own w' base v' (l ++ m) ∧ w.grownBy w' v.ownBlock := by
  have h1 : (l.length + m.length) * K.bytes ≤ 1048576 * 4096 := Nat.mul_le_mul h63 hbytes
  obtain rfl : m.length = n := hr.1
  cases A with
  | none =>
    have hm : m = [] := by
      cases m with
      | nil => rfl
      | cons x m => obtain ⟨b, o, h, _⟩ := hr.2 (by simp); cases h
    subst hm
    refine ⟨v, w, ?_, by simpa using hown, ⟨rfl, rfl, rfl, Nat.le_refl _, fun _ _ _ => rfl⟩⟩
    rcases hown.2 with ⟨rfl, _⟩ | ⟨g, cap, cur, rfl, _, _, hnc, _⟩
    · simp [Builtin.append_, run_underlying K.ht, sizeOf, typeInfo, K.hi, Builtin.lenOf, Builtin.firstCells]
    · simp [Builtin.append_, run_underlying K.ht, sizeOf, typeInfo, K.hi, Builtin.lenOf, Builtin.firstCells, hnc, storeCells]
  | some ad =>
    obtain ⟨v', w', hrun, h2, h3, _, _⟩ := run_append_own_at (P := Try.prog) w base K.t ty K.e K.i K.z K.sz K.bytes K.ht K.hi K.hz K.hs K.hb K.hzs K.pos v l.length (K.flat l) hown ad m.length c (K.flat m) (K.flat_length m) (by
      intro j u hu
      rcases Nat.eq_zero_or_pos m.length with h0 | h0
      · have : m = [] := List.eq_nil_of_length_eq_zero h0
        subst this; simp [flat] at hu
      · obtain ⟨b, o, hh, hb, hcell⟩ := hr.2 h0
        injection hh with hh
        subst hh
        have hj : j < m.length * K.sz := by rw [← K.flat_length]; exact (List.getElem?_eq_some_iff.1 hu).1
        have hdm : j / K.sz < m.length := (Nat.div_lt_iff_lt_mul K.pos).2 hj
        have hmod : j % K.sz < K.sz := Nat.mod_lt _ K.pos
        have he : j / K.sz * K.sz + j % K.sz = j := by rw [Nat.mul_comm]; exact Nat.div_add_mod j K.sz
        have hc2 := hcell (j / K.sz) hdm (j % K.sz) hmod
        rw [Nat.add_assoc, he, ← K.flat_get m _ _ hdm hmod, he, hu] at hc2
        have hadd : (⟨b, o, none⟩ : Addr).add j = ⟨b, o + j, none⟩ := by unfold Addr.add; split <;> simp_all
        rw [hadd]; exact hc2) (K.flat_one' m) (by simp only [maxLen]; omega) (by omega) hbase
    exact ⟨v', w', hrun, by unfold Own; rw [K.flat_append, List.length_append]; exact h2, h3⟩
theorem wpList_appendN {ops : Array Oper} {rest : List Oper} {o : Oper} {a : Act} {Q : Exit → Act → World → Prop} (hgd : o.guard = none) (s x : Operand)
    (ho : o.op = .call { callee := .builtin .append, args := #[s, x], argTypes := #[K.t, K.t] }) (hs : a.eval s = v) (hown : K.Own w base v l)
    {m : List α} (hx : a.eval x = .slice A n c) (hr : K.Rd w A n m) (h63 : l.length + m.length ≤ 1048576) (hbytes : K.bytes ≤ 4096) (hbase : base ≤ w.heap.size)
    (h : ∀ v' w', K.Own w' base v' (l ++ m) → w.grownBy w' v.ownBlock → wpList Try.prog ops Q rest (a.put o.dst v') w') : wpList Try.prog ops Q (o :: rest) a w := by
  obtain ⟨v', w', hrun, h2, h3⟩ := run_appendN (c := c) o.type hown hr h63 hbytes hbase
  refine wpList_plain hgd fun _ hK => ?_
  unfold Oper.wp execOp
  simp only [ho, resolve, invoke, builtin, Sem.run_bind, Sem.run_pure, Result.andThen_ok, List.map_toArray, List.map_cons, List.map_nil, hs, hx, hrun]
  exact hK _ _ (h v' w' h2 h3)
/-- what append leaves, where the row is of the call's own -/
theorem Own.grown {a W W1 : World} {v : Value} {l : List α} (hn : New a W) (hv : K.Own W a.heap.size v l) (hg : W.grownBy W1 v.ownBlock) : New a W1 :=
  new_grown hn hg hv.block
end Kind
end Go.Proofs.Ytkgebhmlogddcaa

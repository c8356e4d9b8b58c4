/- Append to an own row inside a fence, and where the new row lies; what KpL keeps. -/
import Derived.Test.YtkgebhmlogddcaaIter2
import Derived.Test.YtkgebhmlogddcaaGone
import Derived.Test.YtkgebhmlogddcaaOp
namespace Go.Proofs.Ytkgebhmlogddcaa
open Go.RowKit Go.Shelf

theorem Kind.wpListIn_append1A {α : Type} {K : Kind α} {F : Fence} {n : Nat} {w : World} {base : Nat} {v : Value} {l : List α} {ops : Array Oper} {rest : List Oper} {o : Oper} {a : Act} {Q : Exit → Act → World → Prop} (hgd : o.guard = none) (s x : Operand)
    (ho : o.op = .call { callee := .builtin .append, args := #[s, x], argTypes := #[K.t, K.t] }) (hs : a.eval s = v) (hown : K.Own w base v l)
    (y : α) (g : Nat) (hx : a.eval x = .slice (some ⟨g, 0, none⟩) 1 1) (hr : rowOk w g = true) (hy : rowAt w g = K.enc y)
    (h63 : l.length + 1 ≤ 1048576) (hbytes : K.bytes ≤ 4096) (hbase : base ≤ w.heap.size)
    (h : ∀ v' w', K.Own w' base v' (l ++ [y]) → w.grownBy w' v.ownBlock → (v'.ownBlock = v.ownBlock ∨ v'.ownBlock = some w.heap.size) → wpListIn F n Try.prog ops Q rest (a.put o.dst v') w') : wpListIn F n Try.prog ops Q (o :: rest) a w := by
  refine wpListIn_plain hgd fun K' hK' => ?_
  obtain ⟨v', w', hrun, h2, h3, h4⟩ := Kind.run_append1A (Kd := K) o.type hown y hr hy h63 hbytes hbase
  unfold Oper.wpIn
  refine ⟨by simp [Oper.about, ho, resolve, Target.leads, Sem.run_pure], ?_⟩
  rw [Oper.semAt_plain F _ _ (by rw [ho]; intro c hc'; cases hc')]
  simp [execOp, ho, resolve, invoke, builtin, hs, hx, hrun, Result.andThen]
  exact hK' _ _ (h v' w' h2 h3 h4)

/-- a block that is no cells is put behind n₀ and outside of bs -/
theorem KpL.put {n₀ : Nat} {bs : List Nat} {w : World} (hn : n₀ ≤ w.heap.size) (hbs : ∀ b ∈ bs, b < w.heap.size) (W : World) (l : Nat) (o o' : Obj) (hl : w.heap.size ≤ l) (h : W.heap[l]? = some o) (hc : o.isCells = false) (hw : o.isWalk = false) : KpL n₀ bs W (W.putObj l o') := by
  refine ⟨belowK_b hn W l o o' hl h hc hw, fun b hb => ?_⟩
  have hlt : l < W.heap.size := (Array.getElem?_eq_some_iff.1 h).1
  exact (grownBy_putObj' W l o').block b (by have := hbs b hb; omega) (fun e => by cases e; have := hbs _ hb; omega)
end Go.Proofs.Ytkgebhmlogddcaa

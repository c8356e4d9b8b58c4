/- Arguments that are items, slices of items, slices of numbers: opened. -/
import Derived.Test.YtkgebhmlogddcaaLaw
import Derived.Test.YtkgebhmlogddcaaIt
import Derived.Deep.Slices
namespace Go.Proofs.Ytkgebhmlogddcaa
open Go.ChangeShapes Go.WideShapes Go.ChangeAt Go.RowKit
set_option linter.constructorNameAsVariable false

theorem KU_e : KU.e = 23 := rfl
theorem KU_t : KU.t = 43 := rfl
def OkI (x : It) : Prop := (Lit.int .u32 x.1).wf = true ∧ (Lit.int .u32 x.2.1).wf = true ∧ (Lit.int .u64 x.2.2.1).wf = true
theorem OkI.pos {x : It} (h : OkI x) : 0 ≤ x.1 := (bounds_u32 h.1).1
section
variable {H : Type} {enc : TypeId × Value → H} {w : World} {base : Nat} {spare : Nat → Bool} {held : Bool}
theorem list11 {cs : List Value} (hl : cs.length = 11) {a b c : Value} {d : Con} (h0 : (cs.drop 0).take 1 = [a]) (h1 : (cs.drop 1).take 1 = [b]) (h2 : (cs.drop 2).take 1 = [c]) (h3 : ((cs.drop 3).take 8).toArray = con d) :
    cs = [a, b, c, .string d[0], .string d[1], .string d[2], .string d[3], .string d[4], .string d[5], .string d[6], .string d[7]] := by
  match cs, hl with
  | [v0, v1, v2, v3, v4, v5, v6, v7, v8, v9, v10], _ =>
    simp at h0 h1 h2 h3
    simp [con] at h3
    simp [h0, h1, h2, h3]
theorem item_of_trod {fuel : Nat} {cs : List Value} {x : DataW H × List MemPlace} (h : DataW.trod enc Try.prog w base spare held fuel 28 cs = some x) : ∃ y : It, cs = (itA y).toList ∧ OkI y := by
  obtain ⟨xs, m, _, _, hl, hxl, hf⟩ := DataW.trod_struct Try.underlying28 h
  have hl' : cs.length = 11 := hl.trans (by kernel_rfl)
  have hxl' : xs.length = 4 := hxl
  have f0 := hf 0 _ rfl
  have f1 := hf 1 _ rfl
  have f2 := hf 2 _ rfl
  have f3 := hf 3 _ rfl
  rw [List.getElem?_eq_getElem (by omega)] at f0 f1 f2 f3
  obtain ⟨n0, e0, _, w0⟩ := DataW.trod_int Try.underlying23 f0
  obtain ⟨n1, e1, _, w1⟩ := DataW.trod_int Try.underlying23 f1
  obtain ⟨n2, e2, _, w2⟩ := DataW.trod_int Try.underlying24 f2
  obtain ⟨d, e3⟩ := con_of_trod Try.underlying26 Try.underlying9 (by kernel_rfl) (by kernel_rfl) f3
  have c1 : Try.prog.cellsOf 23 = 1 := by kernel_rfl
  have c2 : Try.prog.cellsOf 24 = 1 := by kernel_rfl
  have c8 : Try.prog.cellsOf 26 = 8 := by kernel_rfl
  exact ⟨(n0, n1, n2, d), list11 hl' (by simpa [c1] using e0) (by simpa [c1] using e1) (by simpa [c2] using e2) (by simpa [c8] using e3), w0, w1, w2⟩

theorem add_flat (b o i : Nat) : (⟨b, o, none⟩ : Addr).add i = ⟨b, o + i, none⟩ := by unfold Addr.add; split <;> simp_all
/-- a slice of whatever elements, each of which reads as one of a kind -/
theorem open_kind {α : Type} (K : Kind α) (ok : α → Prop) {te tt : TypeId} (hee : K.e = te) (htt : K.t = tt) (hsz : Try.prog.cellsOf K.e = K.sz) (he : ∀ {fuel : Nat} {cs : List Value} {x : DataW H × List MemPlace}, DataW.trod enc Try.prog w base spare held fuel te cs = some x → ∃ y : α, cs = (K.enc y).toList ∧ ok y)
    {v : Value} {d : DataW H} {ps : List MemPlace} (hval : ∃ a n c, v = .slice a n c) (h : DataW.Trod enc Try.prog w base spare held tt v d ps) :
    ∃ A n c l, v = .slice A n c ∧ n ≤ c ∧ K.Rd w A n l ∧ (∀ x ∈ l, ok x) ∧ ((n = 0 ∧ d = .nil) ∨ ∃ el sp, d = .slice el sp ∧ el.length = n) := by
  subst hee htt
  obtain ⟨a0, n0, c0, rfl⟩ := hval
  obtain ⟨fuel, hf⟩ := h
  rcases Deep.open_slice K.ht hf with ⟨hc, hx⟩ | ⟨a, len, cap, m, n, D, Pl, hc, hb, hle, hmax, hm, hx, hel⟩
  · have hc' : [Value.slice a0 n0 c0] = [Value.slice none 0 0] := by simpa [Value.cells] using hc
    injection hc' with hc' _
    injection hc' with e1 e2 e3
    subst e1; subst e2; subst e3
    exact ⟨none, 0, 0, [], rfl, Nat.le_refl _, Kind.Rd.none_, by simp, Or.inl ⟨rfl, congrArg Prod.fst hx⟩⟩
  · have hc' : [Value.slice a0 n0 c0] = [Value.slice (some a) len cap] := by simpa [Value.cells] using hc
    injection hc' with hc' _
    injection hc' with e1 e2 e3
    subst e1; subst e2; subst e3
    have hm0 : n0 ≤ m := by rw [hm]; split <;> omega
    have hall : ∀ i, i < n0 → ∃ y : α, w.cells? base (a.add (i * K.sz)) K.sz = some (K.enc y).toList ∧ ok y := by
      intro i hi
      obtain ⟨cs', h1, h2⟩ := hel i (by omega)
      obtain ⟨y, rfl, hy⟩ := he h2
      rw [hsz] at h1
      exact ⟨y, h1, hy⟩
    refine ⟨some a, n0, c0, (List.finRange n0).map fun i => Classical.choose (hall i.1 i.2), rfl, hle, ⟨by simp, fun h0 => ?_⟩, ?_, Or.inr ⟨_, _, congrArg Prod.fst hx, by simp⟩⟩
    · obtain ⟨y0, hy0, _⟩ := hall 0 h0
      have hpos := K.pos
      obtain ⟨_, hl0, hc0⟩ := World.cells?_some hy0
      have g0 := hc0 0 hpos
      rw [List.getElem?_eq_getElem (by omega)] at g0
      obtain ⟨blk, off, spot⟩ := a
      have hspot : spot = none := by simpa [Addr.add] using World.cell?_spot g0
      subst hspot
      have hblk : blk < w.heap.size := by
        have := World.block_lt_of_cell? w _ g0
        simpa [Addr.add] using this
      refine ⟨blk, off, rfl, hblk, fun k hk j hj => ?_⟩
      have hk' : k < n0 := by simpa using hk
      have hs := (Classical.choose_spec (hall k hk')).1
      obtain ⟨_, _, hcell⟩ := World.cells?_some hs
      have hj' := hcell j hj
      rw [Deep.add_add, add_flat, ← Nat.add_assoc] at hj'
      rw [hj']
      simp
    · intro x hx2
      obtain ⟨i, _, rfl⟩ := List.mem_map.1 hx2
      exact (Classical.choose_spec (hall i.1 i.2)).2
theorem sized_kind {P : Program} {ts : List TypeId} {ds : List (DataW H)} (h : (DataW.weightsEach P ts ds).all (· ≤ reachBytes) = true) {j : Nat} {t e : TypeId} {d : DataW H} {n : Nat} (ht : ts[j]? = some t) (hd : ds[j]? = some d) (hu : P.underlying t = some (.slice e)) (hb : 1 ≤ P.bytesOf e)
    (hn : (n = 0 ∧ d = .nil) ∨ ∃ el sp, d = .slice el sp ∧ el.length = n) : n ≤ 140737488355328 := by
  rcases hn with ⟨rfl, _⟩ | ⟨el, sp, rfl, rfl⟩
  · omega
  · have := sized_slice h ht hd hu
    have h2 := reachBytes_lt
    have h3 : el.length + sp.length ≤ (el.length + sp.length) * P.bytesOf e := Nat.le_mul_of_pos_right _ hb
    omega
set_option maxRecDepth 100000 in
theorem open_items {r : Reach} {b0 : Nat} {v : Value} {d : DataW H} {p : List MemPlace} (hv : Value.okWide Try.prog w r b0 22 v) (h : DataW.Trod enc Try.prog w base spare held 22 v d p) :
    ∃ A n c l, v = .slice A n c ∧ n ≤ c ∧ KI.Rd w A n l ∧ (∀ x ∈ l, OkI x) ∧ ((n = 0 ∧ d = .nil) ∨ ∃ el sp, d = .slice el sp ∧ el.length = n) :=
  by
  have hs := Go.WideShapes.okWide_slice (P := Try.prog) (w := w) (r := r) (base := b0) (v := v) Try.underlying22 hv
  have hc : Try.prog.cellsOf KI.e = KI.sz := by rw [KI_e, KI_sz]; kernel_rfl
  exact open_kind KI OkI KI_e KI_t hc (fun h => by rw [KI_enc]; exact item_of_trod h) hs h
set_option maxRecDepth 100000 in
theorem open_u32s {r : Reach} {b0 : Nat} {v : Value} {d : DataW H} {p : List MemPlace} (hv : Value.okWide Try.prog w r b0 43 v) (h : DataW.Trod enc Try.prog w base spare held 43 v d p) :
    ∃ A n c l, v = .slice A n c ∧ n ≤ c ∧ KU.Rd w A n l ∧ (∀ x ∈ l, (Lit.int .u32 x).wf = true) ∧ ((n = 0 ∧ d = .nil) ∨ ∃ el sp, d = .slice el sp ∧ el.length = n) :=
  by
  have hs := Go.WideShapes.okWide_slice (P := Try.prog) (w := w) (r := r) (base := b0) (v := v) Try.underlying43 hv
  have hc : Try.prog.cellsOf KU.e = KU.sz := by rw [KU_e, KU_sz]; kernel_rfl
  exact open_kind KU (fun x => (Lit.int .u32 x).wf = true) KU_e KU_t hc (fun h => by obtain ⟨n, rfl, _, hw⟩ := DataW.trod_int Try.underlying23 h; exact ⟨n, by rw [KU_enc], hw⟩) hs h
theorem open_item {r : Reach} {b0 : Nat} {v : Value} {d : DataW H} {p : List MemPlace} (hv : Value.okWide Try.prog w r b0 28 v) (h : DataW.Trod enc Try.prog w base spare held 28 v d p) : ∃ x : It, v = .agg (itA x) ∧ OkI x := by
  simp only [Value.okWide, Try.underlying28] at hv
  obtain ⟨cs, rfl, _, _⟩ := hv
  obtain ⟨fuel, hf⟩ := h
  obtain ⟨x, hx, hok⟩ := item_of_trod hf
  have hx' : cs.toList = (itA x).toList := by simpa [Value.cells] using hx
  exact ⟨x, by rw [Array.toList_inj.1 hx'], hok⟩
end
end Go.Proofs.Ytkgebhmlogddcaa

/- Arguments that are views, operations, what is known of a device's synchronisation: opened. -/
import Derived.Test.YtkgebhmlogddcaaLawIt
import Derived.Test.YtkgebhmlogddcaaOp
namespace Go.Proofs.Ytkgebhmlogddcaa
open Go.ChangeShapes Go.WideShapes Go.ChangeAt Go.RowKit
set_option linter.constructorNameAsVariable false

def OkS (x : Sn) : Prop := (Lit.int .u32 x.1).wf = true ∧ (Lit.int .u64 x.2).wf = true
theorem OkS.pos {x : Sn} (h : OkS x) : 0 ≤ x.1 := (bounds_u32 h.1).1
def OkO (x : Opr) : Prop := (Lit.int .u8 x.1).wf = true ∧ (Lit.int .u32 x.2.1).wf = true ∧ (Lit.int .u32 x.2.2.1).wf = true ∧ (Lit.int .u8 x.2.2.2.1).wf = true
def OkG (x : Gn) : Prop := (Lit.int .u8 (gnSu x)).wf = true ∧ (Lit.int .u8 (gnWi x)).wf = true
section
variable {H : Type} {enc : TypeId × Value → H} {w : World} {base : Nat} {spare : Nat → Bool} {held : Bool}
theorem list2 {cs : List Value} (hl : cs.length = 2) {a b : Value} (h0 : (cs.drop 0).take 1 = [a]) (h1 : (cs.drop 1).take 1 = [b]) : cs = [a, b] := by
  match cs, hl with
  | [v0, v1], _ => simp at h0 h1; simp [h0, h1]
theorem seen_of_trod {fuel : Nat} {cs : List Value} {x : DataW H × List MemPlace} (h : DataW.trod enc Try.prog w base spare held fuel 68 cs = some x) : ∃ y : Sn, cs = (snA y).toList ∧ OkS y := by
  obtain ⟨xs, m, _, _, hl, hxl, hf⟩ := DataW.trod_struct Try.underlying68 h
  have hl' : cs.length = 2 := hl.trans (by kernel_rfl)
  have hxl' : xs.length = 2 := hxl
  have f0 := hf 0 _ rfl
  have f1 := hf 1 _ rfl
  rw [List.getElem?_eq_getElem (by omega)] at f0 f1
  obtain ⟨n0, e0, _, w0⟩ := DataW.trod_int Try.underlying23 f0
  obtain ⟨n1, e1, _, w1⟩ := DataW.trod_int Try.underlying24 f1
  have c1 : Try.prog.cellsOf 23 = 1 := by kernel_rfl
  have c2 : Try.prog.cellsOf 24 = 1 := by kernel_rfl
  exact ⟨(n0, n1), list2 hl' (by simpa [c1] using e0) (by simpa [c2] using e1), w0, w1⟩
set_option maxRecDepth 100000 in
theorem open_seens {r : Reach} {b0 : Nat} {v : Value} {d : DataW H} {p : List MemPlace} (hv : Value.okWide Try.prog w r b0 46 v) (h : DataW.Trod enc Try.prog w base spare held 46 v d p) :
    ∃ A n c l, v = .slice A n c ∧ n ≤ c ∧ KS.Rd w A n l ∧ (∀ x ∈ l, OkS x) ∧ ((n = 0 ∧ d = .nil) ∨ ∃ el sp, d = .slice el sp ∧ el.length = n) :=
  by
  have hs := Go.WideShapes.okWide_slice (P := Try.prog) (w := w) (r := r) (base := b0) (v := v) Try.underlying46 hv
  have hc : Try.prog.cellsOf KS.e = KS.sz := by rw [KS_e, KS_sz]; kernel_rfl
  exact open_kind KS OkS KS_e KS_t hc (fun h => by rw [KS_enc]; exact seen_of_trod h) hs h
theorem list12 {cs : List Value} (hl : cs.length = 12) {a b c e : Value} {d : Con} (h0 : (cs.drop 0).take 1 = [a]) (h1 : (cs.drop 1).take 1 = [b]) (h2 : (cs.drop 2).take 1 = [c]) (h3 : (cs.drop 3).take 1 = [e]) (h4 : ((cs.drop 4).take 8).toArray = con d) :
    cs = [a, b, c, e, .string d[0], .string d[1], .string d[2], .string d[3], .string d[4], .string d[5], .string d[6], .string d[7]] := by
  match cs, hl with
  | [v0, v1, v2, v3, v4, v5, v6, v7, v8, v9, v10, v11], _ =>
    simp at h0 h1 h2 h3 h4
    simp [con] at h4
    simp [h0, h1, h2, h3, h4]
theorem op_of_trod {fuel : Nat} {cs : List Value} {x : DataW H × List MemPlace} (h : DataW.trod enc Try.prog w base spare held fuel 48 cs = some x) : ∃ y : Opr, cs = (opA y).toList ∧ OkO y := by
  obtain ⟨xs, m, _, _, hl, hxl, hf⟩ := DataW.trod_struct Try.underlying48 h
  have hl' : cs.length = 12 := hl.trans (by kernel_rfl)
  have hxl' : xs.length = 5 := hxl
  have f0 := hf 0 _ rfl
  have f1 := hf 1 _ rfl
  have f2 := hf 2 _ rfl
  have f3 := hf 3 _ rfl
  have f4 := hf 4 _ rfl
  rw [List.getElem?_eq_getElem (by omega)] at f0 f1 f2 f3 f4
  obtain ⟨n0, e0, _, w0⟩ := DataW.trod_int Try.underlying5 f0
  obtain ⟨n1, e1, _, w1⟩ := DataW.trod_int Try.underlying23 f1
  obtain ⟨n2, e2, _, w2⟩ := DataW.trod_int Try.underlying23 f2
  obtain ⟨n3, e3, _, w3⟩ := DataW.trod_int Try.underlying5 f3
  obtain ⟨d, e4⟩ := con_of_trod Try.underlying26 Try.underlying9 (by kernel_rfl) (by kernel_rfl) f4
  have c0 : Try.prog.cellsOf 5 = 1 := by kernel_rfl
  have c1 : Try.prog.cellsOf 23 = 1 := by kernel_rfl
  have c8 : Try.prog.cellsOf 26 = 8 := by kernel_rfl
  exact ⟨(n0, n1, n2, n3, d), list12 hl' (by simpa [c0] using e0) (by simpa [c1] using e1) (by simpa [c1] using e2) (by simpa [c0] using e3) (by simpa [c8] using e4), w0, w1, w2, w3⟩
theorem open_op {r : Reach} {b0 : Nat} {v : Value} {d : DataW H} {p : List MemPlace} (hv : Value.okWide Try.prog w r b0 48 v) (h : DataW.Trod enc Try.prog w base spare held 48 v d p) : ∃ x : Opr, v = .agg (opA x) ∧ OkO x := by
  simp only [Value.okWide, Try.underlying48] at hv
  obtain ⟨cs, rfl, _, _⟩ := hv
  obtain ⟨fuel, hf⟩ := h
  obtain ⟨x, hx, hok⟩ := op_of_trod hf
  have hx' : cs.toList = (opA x).toList := by simpa [Value.cells] using hx
  exact ⟨x, by rw [Array.toList_inj.1 hx'], hok⟩
theorem sli_of_trod {t e : TypeId} {fuel : Nat} {cs : List Value} {x : DataW H × List MemPlace} (ht : Try.prog.underlying t = some (.slice e)) (h : DataW.trod enc Try.prog w base spare held fuel t cs = some x) : ∃ s : Sli, cs = [sl s] := by
  rcases Deep.open_slice ht h with ⟨hc, _⟩ | ⟨a, len, cap, m, n, D, Pl, hc, _⟩
  · exact ⟨(none, 0, 0), hc⟩
  · exact ⟨(some a, len, cap), hc⟩
theorem list3 {cs : List Value} (hl : cs.length = 3) {a b c : Value} (h0 : (cs.drop 0).take 1 = [a]) (h1 : (cs.drop 1).take 1 = [b]) (h2 : (cs.drop 2).take 1 = [c]) : cs = [a, b, c] := by
  match cs, hl with
  | [v0, v1, v2], _ => simp at h0 h1 h2; simp [h0, h1, h2]
theorem half_of_trod {fuel : Nat} {cs : List Value} {x : DataW H × List MemPlace} (h : DataW.trod enc Try.prog w base spare held fuel 51 cs = some x) : ∃ (k : Int) (v c : Sli), cs = [.int .u32 k, sl v, sl c] := by
  obtain ⟨xs, m, _, _, hl, hxl, hf⟩ := DataW.trod_struct Try.underlying51 h
  have hl' : cs.length = 3 := hl.trans (by kernel_rfl)
  have hxl' : xs.length = 3 := hxl
  have f0 := hf 0 _ rfl
  have f1 := hf 1 _ rfl
  have f2 := hf 2 _ rfl
  rw [List.getElem?_eq_getElem (by omega)] at f0 f1 f2
  obtain ⟨n0, e0, _, w0⟩ := DataW.trod_int Try.underlying23 f0
  obtain ⟨s1, e1⟩ := sli_of_trod Try.underlying46 f1
  obtain ⟨s2, e2⟩ := sli_of_trod Try.underlying49 f2
  have c0 : Try.prog.cellsOf 23 = 1 := by kernel_rfl
  have c1 : Try.prog.cellsOf 46 = 1 := by kernel_rfl
  have c2 : Try.prog.cellsOf 49 = 1 := by kernel_rfl
  exact ⟨n0, s1, s2, list3 hl' (by simpa [c0] using e0) (by simpa [c1] using e1) (by simpa [c2] using e2)⟩
theorem listG {cs : List Value} (hl : cs.length = 11) {a0 a1 a2 b0 b1 b2 c d e f g : Value} (h0 : (cs.drop 0).take 3 = [a0, a1, a2]) (h1 : (cs.drop 3).take 3 = [b0, b1, b2]) (h2 : (cs.drop 6).take 1 = [c]) (h3 : (cs.drop 7).take 1 = [d]) (h4 : (cs.drop 8).take 1 = [e]) (h5 : (cs.drop 9).take 1 = [f]) (h6 : (cs.drop 10).take 1 = [g]) :
    cs = [a0, a1, a2, b0, b1, b2, c, d, e, f, g] := by
  match cs, hl with
  | [v0, v1, v2, v3, v4, v5, v6, v7, v8, v9, v10], _ =>
    simp at h0 h1 h2 h3 h4 h5 h6
    simp [h0, h1, h2, h3, h4, h5, h6]
theorem gen_of_trod {fuel : Nat} {cs : List Value} {x : DataW H × List MemPlace} (h : DataW.trod enc Try.prog w base spare held fuel 54 cs = some x) : ∃ y : Gn, cs = (gnA y).toList ∧ OkG y := by
  obtain ⟨xs, m, _, _, hl, hxl, hf⟩ := DataW.trod_struct Try.underlying54 h
  have hl' : cs.length = 11 := hl.trans (by kernel_rfl)
  have hxl' : xs.length = 7 := hxl
  have f0 := hf 0 _ rfl
  have f1 := hf 1 _ rfl
  have f2 := hf 2 _ rfl
  have f3 := hf 3 _ rfl
  have f4 := hf 4 _ rfl
  have f5 := hf 5 _ rfl
  have f6 := hf 6 _ rfl
  rw [List.getElem?_eq_getElem (by omega)] at f0 f1 f2 f3 f4 f5 f6
  obtain ⟨k0, s0, t0, e0⟩ := half_of_trod f0
  obtain ⟨k1, s1, t1, e1⟩ := half_of_trod f1
  obtain ⟨s2, e2⟩ := sli_of_trod Try.underlying52 f2
  obtain ⟨s3, e3⟩ := sli_of_trod Try.underlying52 f3
  obtain ⟨b4, e4, _⟩ := DataW.trod_bool Try.underlying4 f4
  obtain ⟨n5, e5, _, w5⟩ := DataW.trod_int Try.underlying5 f5
  obtain ⟨n6, e6, _, w6⟩ := DataW.trod_int Try.underlying5 f6
  have ch : Try.prog.cellsOf 51 = 3 := by kernel_rfl
  have c2 : Try.prog.cellsOf 52 = 1 := by kernel_rfl
  have c4 : Try.prog.cellsOf 4 = 1 := by kernel_rfl
  have c5 : Try.prog.cellsOf 5 = 1 := by kernel_rfl
  exact ⟨(k0, s0, t0, k1, s1, t1, s2, s3, b4, n5, n6), listG hl' (by simpa [ch] using e0) (by simpa [ch] using e1) (by simpa [c2] using e2) (by simpa [c2] using e3) (by simpa [c4] using e4) (by simpa [c5] using e5) (by simpa [c5] using e6), w5, w6⟩
theorem open_gen {r : Reach} {b0 : Nat} {v : Value} {d : DataW H} {p : List MemPlace} (hv : Value.okWide Try.prog w r b0 54 v) (h : DataW.Trod enc Try.prog w base spare held 54 v d p) : ∃ x : Gn, v = .agg (gnA x) ∧ OkG x := by
  simp only [Value.okWide, Try.underlying54] at hv
  obtain ⟨cs, rfl, _, _⟩ := hv
  obtain ⟨fuel, hf⟩ := h
  obtain ⟨x, hx, hok⟩ := gen_of_trod hf
  have hx' : cs.toList = (gnA x).toList := by simpa [Value.cells] using hx
  exact ⟨x, by rw [Array.toList_inj.1 hx'], hok⟩
end
end Go.Proofs.Ytkgebhmlogddcaa

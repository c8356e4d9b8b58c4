/- What the rows of all laws of this seat share: arguments as values, and that they read as they did. -/
import Derived.Test.YtkgebhmlogddcaaRows
import Derived.Test.YtkgebhmlogddcaaKit
import Derived.ProofKit
import Derived.OpenShut
import Derived.ShutString
import Derived.ChangeOld
import Derived.Carry
import Derived.SizedLaws
namespace Go.Proofs.Ytkgebhmlogddcaa
open Go.ChangeShapes Go.WideShapes Go.ChangeAt Go.RowKit
set_option linter.constructorNameAsVariable false

theorem ownK : ownKnob Try.prog.godebug = none := by kernel_rfl
theorem laidOut : laidOutB Try.prog = true := by kernel_rfl

section
variable {H : Type} {enc : TypeId × Value → H} {P : Program}
theorem trodAll_below (hl : laidOutB P = true) {W W' : World} (hb : Below W.heap.size W W') : ∀ {ts : List TypeId} {vs : List Value} {ds : List (DataW H)} {ps : List MemPlace},
    (∀ t ∈ ts, P.readableRec t = true ∧ t < P.types.size) → DataW.TrodAll enc P W 0 (fun _ => true) true ts vs ds ps → (∀ x ∈ ps, x.block < W.heap.size) →
    DataW.TrodAll enc P W' 0 (fun b => decide (b < W.heap.size)) true ts vs ds ps
  | [], [], [], _, _, h, _ => h
  | t :: ts, v :: vs, d :: ds, ps, ht, h, hlt => by
    obtain ⟨p, q, h1, h2, rfl⟩ := h
    exact ⟨p, q, Below.trod hl (ht t (by simp)).1 (ht t (by simp)).2 h1 hb (fun x hx => hlt x (by simp [hx])),
      trodAll_below hl hb (fun t' ht' => ht t' (by simp [ht'])) h2 (fun x hx => hlt x (by simp [hx])), rfl⟩
  | [], _ :: _, _, _, _, h, _ => h.elim
  | [], [], _ :: _, _, _, h, _ => h.elim
  | _ :: _, [], _, _, _, h, _ => h.elim
  | _ :: _, _ :: _, [], _, _, h, _ => h.elim

/-- eight strings, out of an array's cells -/
theorem con_of_cells {cs : List Value} (hl : cs.length = 8) (h : ∀ i, i < 8 → ∃ s : ByteArray, (cs.drop i).take 1 = [.string s]) : ∃ c : Con, cs.toArray = con c := by
  match cs, hl with
  | [v0, v1, v2, v3, v4, v5, v6, v7], _ =>
    obtain ⟨s0, h0⟩ := h 0 (by omega); obtain ⟨s1, h1⟩ := h 1 (by omega); obtain ⟨s2, h2⟩ := h 2 (by omega); obtain ⟨s3, h3⟩ := h 3 (by omega)
    obtain ⟨s4, h4⟩ := h 4 (by omega); obtain ⟨s5, h5⟩ := h 5 (by omega); obtain ⟨s6, h6⟩ := h 6 (by omega); obtain ⟨s7, h7⟩ := h 7 (by omega)
    simp at h0 h1 h2 h3 h4 h5 h6 h7
    exact ⟨#v[s0, s1, s2, s3, s4, s5, s6, s7], by simp [con, h0, h1, h2, h3, h4, h5, h6, h7]⟩
theorem con_of_trod {w : World} {base : Nat} {spare : Nat → Bool} {held : Bool} {fuel : Nat} {t ts : TypeId} {cs : List Value} {x : DataW H × List MemPlace}
    (ht : P.underlying t = some (.array 8 ts)) (hs : P.underlying ts = some .string) (hC : P.cellsOf t = 8) (hCs : P.cellsOf ts = 1)
    (h : DataW.trod enc P w base spare held fuel t cs = some x) : ∃ c : Con, cs.toArray = con c := by
  obtain ⟨xs, m, _, _, hl, hxl, hi⟩ := DataW.trod_array ht h
  refine con_of_cells (hl.trans hC) fun i h8 => ?_
  have h1 := hi i h8
  rw [hCs, Nat.mul_one, List.getElem?_eq_getElem (by omega)] at h1
  obtain ⟨s, hs', _⟩ := DataW.trod_string hs h1
  exact ⟨s, hs'⟩
end

section
variable {H : Type} {enc : TypeId × Value → H} {w : World} {base : Nat} {spare : Nat → Bool} {held : Bool}
theorem open_con {r : Reach} {b0 : Nat} {v : Value} {d : DataW H} {p : List MemPlace} (hv : Value.okWide Try.prog w r b0 26 v) (h : DataW.Trod enc Try.prog w base spare held 26 v d p) : ∃ c : Con, v = .agg (con c) := by
  simp only [Value.okWide, Try.underlying26] at hv
  obtain ⟨cs, rfl, _, _⟩ := hv
  obtain ⟨fuel, hf⟩ := h
  obtain ⟨c, hc⟩ := con_of_trod Try.underlying26 Try.underlying9 (by kernel_rfl) (by kernel_rfl) hf
  exact ⟨c, by simpa [Value.cells] using hc⟩
end
end Go.Proofs.Ytkgebhmlogddcaa

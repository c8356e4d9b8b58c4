/- Items, views, operations, numbers: as values and as kinds of elements. No condition: helpers alone. -/
import Derived.Test.YtkgebhmlogddcaaSl
namespace Go.Proofs.Ytkgebhmlogddcaa
open Go.RowKit

theorem info_all {t : TypeId} {c s b : Nat} (h : (Try.prog.info? t).map (fun i => (i.zero.map (·.cells.size), i.size, i.bytes)) = some (some c, s, b)) :
    ∃ i : TypeInfo, ∃ z : Value, Try.prog.info? t = some i ∧ i.zero = some z ∧ i.size = s ∧ i.bytes = b ∧ z.cells.size = c := by
  cases hq : Try.prog.info? t with
  | none => rw [hq] at h; cases h
  | some i =>
    rw [hq] at h
    simp only [Option.map_some, Option.some.injEq, Prod.mk.injEq] at h
    cases hz : i.zero with
    | none => rw [hz] at h; simp at h
    | some z => rw [hz] at h; exact ⟨i, z, rfl, hz, h.2.1, h.2.2, by simpa using h.1⟩
/-- a kind out of closed facts -/
noncomputable def mkKind {α : Type} (enc : α → Array Value) (sz : Nat) (e t : TypeId) (bytes : Nat) (pos : 0 < sz) (hsz : ∀ x, (enc x).size = sz) (one : ∀ x, (enc x).all (·.oneCell') = true)
    (ht : Try.prog.underlying t = some (.slice e)) (h : (Try.prog.info? e).map (fun i => (i.zero.map (·.cells.size), i.size, i.bytes)) = some (some sz, sz, bytes)) : Kind α where
  enc := enc
  sz := sz
  e := e
  t := t
  bytes := bytes
  i := (info_all h).choose
  z := (info_all h).choose_spec.choose
  pos := pos
  hsz := hsz
  one := one
  ht := ht
  hi := (info_all h).choose_spec.choose_spec.1
  hz := (info_all h).choose_spec.choose_spec.2.1
  hs := (info_all h).choose_spec.choose_spec.2.2.1
  hb := (info_all h).choose_spec.choose_spec.2.2.2.1
  hzs := (info_all h).choose_spec.choose_spec.2.2.2.2

/-! ### items -/
/-- Id, Folder, Seq, the contact -/
abbrev It := Int × Int × Int × Con
def itA (x : It) : Array Value := #[.int .u32 x.1, .int .u32 x.2.1, .int .u64 x.2.2.1, .string x.2.2.2[0], .string x.2.2.2[1], .string x.2.2.2[2], .string x.2.2.2[3], .string x.2.2.2[4], .string x.2.2.2[5], .string x.2.2.2[6], .string x.2.2.2[7]]
def itZ : It := (0, 0, 0, none8)
section
variable (x : It)
theorem it_size : (itA x).size = 11 := rfl
theorem it_0 : (itA x)[0]? = some (.int .u32 x.1) := rfl
theorem it_1 : (itA x)[1]? = some (.int .u32 x.2.1) := rfl
theorem it_2 : (itA x)[2]? = some (.int .u64 x.2.2.1) := rfl
theorem it_3 : (itA x)[3]? = some (.string x.2.2.2[0]) := rfl
theorem it_4 : (itA x)[4]? = some (.string x.2.2.2[1]) := rfl
theorem it_5 : (itA x)[5]? = some (.string x.2.2.2[2]) := rfl
theorem it_6 : (itA x)[6]? = some (.string x.2.2.2[3]) := rfl
theorem it_7 : (itA x)[7]? = some (.string x.2.2.2[4]) := rfl
theorem it_8 : (itA x)[8]? = some (.string x.2.2.2[5]) := rfl
theorem it_9 : (itA x)[9]? = some (.string x.2.2.2[6]) := rfl
theorem it_10 : (itA x)[10]? = some (.string x.2.2.2[7]) := rfl
theorem it_set0 (a : Int) : (itA x).setIfInBounds 0 (.int .u32 a) = itA (a, x.2) := by simp [itA]
theorem it_set1 (a : Int) : (itA x).setIfInBounds 1 (.int .u32 a) = itA (x.1, a, x.2.2) := by simp [itA]
theorem it_set2 (a : Int) : (itA x).setIfInBounds 2 (.int .u64 a) = itA (x.1, x.2.1, a, x.2.2.2) := by simp [itA]
theorem it_one : (itA x).all (·.oneCell') = true := by simp [itA, Value.oneCell']
end
theorem it_fold (a b c : Int) (d : Con) : #[Value.int .u32 a, .int .u32 b, .int .u64 c, .string d[0], .string d[1], .string d[2], .string d[3], .string d[4], .string d[5], .string d[6], .string d[7]] = itA (a, b, c, d) := rfl
theorem it_zero : #[Value.int .u32 0, .int .u32 0, .int .u64 0, .string ⟨#[]⟩, .string ⟨#[]⟩, .string ⟨#[]⟩, .string ⟨#[]⟩, .string ⟨#[]⟩, .string ⟨#[]⟩, .string ⟨#[]⟩, .string ⟨#[]⟩] = itA itZ := rfl
theorem it_fillg (z0 z1 z2 z3 z4 z5 z6 z7 z8 z9 z10 : Value) (x : It) : Array.foldl (fun (cs : Array Value) (y : Value × Nat) => cs.setIfInBounds y.2 y.1) #[z0, z1, z2, z3, z4, z5, z6, z7, z8, z9, z10] (itA x).zipIdx 0 11 = itA x := by
  simp [itA, List.zipIdx]
theorem it_fill (x : It) : Array.foldl (fun (cs : Array Value) (y : Value × Nat) => cs.setIfInBounds y.2 y.1) #[(itA itZ)[0]!, (itA itZ)[1]!, (itA itZ)[2]!, (itA itZ)[3]!, (itA itZ)[4]!, (itA itZ)[5]!, (itA itZ)[6]!, (itA itZ)[7]!, (itA itZ)[8]!, (itA itZ)[9]!, (itA itZ)[10]!] (itA x).zipIdx 0 11 = itA x := it_fillg _ _ _ _ _ _ _ _ _ _ _ x
theorem it_eta (x : It) : (x.1, x.2.1, x.2.2.1, x.2.2.2) = x := rfl
theorem infoIt : (Try.prog.info? 28).map (·.size) = some 11 := by kernel_rfl
theorem infoIt2 : (Try.prog.info? 28).map (fun i => (i.zero.map (·.cells.size), i.size, i.bytes)) = some (some 11, 11, 144) := by kernel_rfl
noncomputable def KI : Kind It := mkKind itA 11 28 22 144 (by decide) it_size it_one Try.underlying22 infoIt2
theorem KI_enc : KI.enc = itA := rfl
theorem KI_sz : KI.sz = 11 := rfl
theorem KI_t : KI.t = 22 := rfl
theorem KI_e : KI.e = 28 := rfl
theorem KI_b : KI.bytes ≤ 4096 := by show 144 ≤ 4096; decide
theorem run_storeCells_it (w : World) (n : Nat) (x : It) (h : rowOk w n = true) (hs : (rowAt w n).size = 11) :
    (storeCells ⟨n, 0, none⟩ (itA x).toList).run Try.prog w = .ok () (w.setRow n (itA x)) :=
  run_storeCells_row w n (itA x) h hs (it_one x)
/-! ### numbers -/
def uA (x : Int) : Array Value := #[.int .u32 x]
theorem infoU2 : (Try.prog.info? 23).map (fun i => (i.zero.map (·.cells.size), i.size, i.bytes)) = some (some 1, 1, 4) := by kernel_rfl
noncomputable def KU : Kind Int := mkKind uA 1 23 43 4 (by decide) (fun _ => rfl) (fun _ => by simp [uA, Value.oneCell']) Try.underlying43 infoU2
theorem KU_enc (x : Int) : KU.enc x = #[.int .u32 x] := rfl
theorem KU_sz : KU.sz = 1 := rfl

/-- a function value that is a function of Go's text is entered -/
theorem call_go {g : FuncId} {fn : Func} (hf : Try.prog.funcs[g]? = some fn) (hname : (fn.name == "runtime.NumGoroutine") = false) (hb : fn.body.isNone = false) (args : Array Value) (w : World) :
    (callFunc g args).run Try.prog w = .ok (.enter g args) w := by
  unfold callFunc
  simp only [Sem.run_bind, run_program, Result.andThen_ok, hf, hname, hb, Bool.false_eq_true, if_false, Sem.run_pure]

theorem run_loadVar_it (w : World) (n : Nat) (x : It) (h : rowOk w n = true) (hs : rowAt w n = itA x) : (loadVar 28 ⟨n, 0, none⟩).run Try.prog w = .ok (.agg (itA x)) w := by
  obtain ⟨t', ht⟩ := rowOk_get w h
  rw [hs] at ht
  exact run_loadVar_row w n t' _ (itA x) (0, 0) _ ht Try.underlying28 rfl infoIt
/-- the end of a function whose results are an item in memory and a value -/
theorem results_it2 {fn : Func} {p u : Tmp} (h : fn.results = #[.cell p 28, .tmp u]) (tmps : Array Value) (w : World) (n : Nat) (x : It)
    (hp : tmps.getD p undef = .pointer (some ⟨n, 0, none⟩)) (hok : rowOk w n = true) (hc : rowAt w n = itA x) : (results fn tmps).run Try.prog w = .ok (.tuple #[.agg (itA x), tmps.getD u undef]) w := by
  rw [results_cell_tmp h, hp]
  simp only [asAddr, Sem.run_pure, Result.andThen_ok, run_loadVar_it w n x hok hc]
end Go.Proofs.Ytkgebhmlogddcaa

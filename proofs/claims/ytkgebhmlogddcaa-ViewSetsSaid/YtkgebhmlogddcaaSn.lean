/- What a device was told (Id, Seq): as a value and as a kind of elements. No condition: helpers alone. -/
import Derived.Test.YtkgebhmlogddcaaEqIt
import Derived.Laws.CopyRow
namespace Go.Proofs.Ytkgebhmlogddcaa
open Go.RowKit

/-- Id, Seq -/
abbrev Sn := Int × Int
def snA (x : Sn) : Array Value := #[.int .u32 x.1, .int .u64 x.2]
def snZ : Sn := (0, 0)
section
variable (x : Sn)
theorem sn_size : (snA x).size = 2 := rfl
theorem sn_0 : (snA x)[0]? = some (.int .u32 x.1) := rfl
theorem sn_1 : (snA x)[1]? = some (.int .u64 x.2) := rfl
theorem sn_set0 (a : Int) : (snA x).setIfInBounds 0 (.int .u32 a) = snA (a, x.2) := by simp [snA]
theorem sn_set1 (a : Int) : (snA x).setIfInBounds 1 (.int .u64 a) = snA (x.1, a) := by simp [snA]
theorem sn_one : (snA x).all (·.oneCell') = true := by simp [snA, Value.oneCell']
end
theorem sn_fold (a b : Int) : #[Value.int .u32 a, .int .u64 b] = snA (a, b) := rfl
theorem sn_zero : #[Value.int .u32 0, .int .u64 0] = snA snZ := rfl
theorem sn_fillg (z0 z1 : Value) (x : Sn) : Array.foldl (fun (cs : Array Value) (y : Value × Nat) => cs.setIfInBounds y.2 y.1) #[z0, z1] (snA x).zipIdx 0 2 = snA x := by
  simp [snA, List.zipIdx]
theorem sn_fill (x : Sn) : Array.foldl (fun (cs : Array Value) (y : Value × Nat) => cs.setIfInBounds y.2 y.1) #[(snA (0, 0))[0]!, (snA (0, 0))[1]!] (snA x).zipIdx 0 2 = snA x := sn_fillg _ _ x
theorem sn_eta (x : Sn) : snA (x.1, x.2) = snA x := rfl
theorem infoSn : (Try.prog.info? 68).map (·.size) = some 2 := by kernel_rfl
theorem infoSn2 : (Try.prog.info? 68).map (fun i => (i.zero.map (·.cells.size), i.size, i.bytes)) = some (some 2, 2, 16) := by kernel_rfl
noncomputable def KS : Kind Sn := mkKind snA 2 68 46 16 (by decide) sn_size sn_one Try.underlying46 infoSn2
theorem KS_enc : KS.enc = snA := rfl
theorem KS_sz : KS.sz = 2 := rfl
theorem KS_t : KS.t = 46 := rfl
theorem KS_e : KS.e = 68 := rfl
theorem KS_b : KS.bytes ≤ 4096 := by show 16 ≤ 4096; decide
theorem run_storeCells_sn (w : World) (n : Nat) (x : Sn) (h : rowOk w n = true) (hs : (rowAt w n).size = 2) :
    (storeCells ⟨n, 0, none⟩ (snA x).toList).run Try.prog w = .ok () (w.setRow n (snA x)) :=
  run_storeCells_row w n (snA x) h hs (sn_one x)
theorem sn_eq_bool (x y : Sn) : ((x.1 == y.1) && ((x.2 == y.2) && true)) = decide (x = y) := by
  obtain ⟨a, b⟩ := x
  obtain ⟨a', b'⟩ := y
  rw [Bool.eq_iff_iff]
  simp
theorem equalIn_sn (w : World) (x y : Sn) : (Op.equalIn 10000 68 (.agg (snA x)) (.agg (snA y))).run Try.prog w = .ok (decide (x = y)) w := by
  have h := eqA_of (d := 9999) (xs := snA x) (ys := snA y) (w := w) Try.underlying68 (by kernel_rfl) (r := ((x.1 == y.1) && ((x.2 == y.2) && true)))
    (eqf_cons (by decide) (part_int Try.underlying23 _ _ _ (sn_0 x)) (part_int Try.underlying23 _ _ _ (sn_0 y)) (run_equalIn_int w 9998 _ _ _ _ _ Try.underlying23)
    (eqf_cons (by decide) (part_int Try.underlying24 _ _ _ (sn_1 x)) (part_int Try.underlying24 _ _ _ (sn_1 y)) (run_equalIn_int w 9998 _ _ _ _ _ Try.underlying24)
    eqf_nil))
  rw [h, sn_eq_bool]
theorem eqg_sn : Try.prog.eqGuardType Try.prog.depth 68 = false := by kernel_rfl
end Go.Proofs.Ytkgebhmlogddcaa
